/- What frames of a kind have, how they are put: the closures. No condition. -/
import Derived.Test.YthliihmhkhabeaaGreatDoorIds20
import Derived.Test.YthliihmhkhabeaaGreatDoorIds37
namespace Go.Proofs.YthliihmhkhabeaaGreatDoor
open Go Go.RowKit

theorem results_cell1_mid {P : Program} {fn : Func} {p : Tmp} {ty : TypeId} (h : fn.results = #[.cell p ty]) (tmps : Array Value) (w : World) (b : Nat) (cs : List Value) (d : TypeDesc) (hp : tmps.getD p undef = .pointer (some ⟨b, 0, none⟩)) (hc : w.rangeAt b 0 cs)
    (hu : P.underlying ty = some d) (hd : d.isRow = true) (hi : (P.info? ty).map (·.size) = some cs.length) :
    (results fn tmps).run P w = .ok (.agg cs.toArray) w := by
  have hp' : tmps[p]?.getD undef = .pointer (some ⟨b, 0, none⟩) := by simpa using hp
  simp [results, h, hp', asAddr, run_loadVar_mid (P := P) w b 0 ty cs d hc hu hd hi]

/-- A value, and nothing that was there is turned. -/
def ValNew (w : World) (o : Own) (v : Value) (e : Ending) (w' : World) : Prop := e = .returned v ∧ ∃ o', Chg [] w o w' o'
/-- Two new blocks. -/
structure Two (w : World) (A B : Obj) (W : World) : Prop where
  eq : W = (w.alloc A).alloc B
theorem two (w : World) (A B : Obj) : ∃ W, Two w A B W := ⟨_, ⟨rfl⟩⟩
section
variable {w W : World} {A B : Array Value} {e1 e2 : TypeId}
theorem Two.one (h : Two w (.cells A e1) (.cells B e2) W) (j : Nat) : W.cell? ⟨w.heap.size, j, none⟩ = A[j]? := by
  have h1 := (((At.new w (fun _ => []) [] (.cells A e1)).alloc (.cells B e2))).cells j
  rw [h.eq]; exact h1
theorem Two.two (h : Two w (.cells A e1) (.cells B e2) W) : At W (fun _ => []) (w.heap.size + 1) [] (.cells B e2 (0, 0)) := by
  have h1 := At.new (w.alloc (.cells A e1)) (fun _ => []) [] (.cells B e2)
  rw [h.eq]
  rw [World.size_alloc] at h1
  exact ⟨h1.1, rfl⟩
theorem Two.chg (h : Two w (.cells A e1) (.cells B e2) W) (o : Own) : Chg [] w o W o := by rw [h.eq]; exact ((Chg.refl [] w o).alloc _).alloc _
end

def hasResetG (f : Fr) : Fr := { frZ with id := f.id, code := f.code, a := f.a }
set_option maxHeartbeats 1000000 in
set_option maxRecDepth 100000 in
theorem hasReset_ok {w : World} (o : Own) (f : Fr) (dv rv : Value) :
    Calls Tryz.prog 114 #[.agg (f.cells dv rv)] w (ValNew w o (.agg ((hasResetG f).cells nilS nilS))) := by
  obtain ⟨C, hC⟩ : ∃ C, C = f.cells dv rv := ⟨_, rfl⟩
  obtain ⟨Z, hZ⟩ : ∃ Z, Z = frZ.cells nilS nilS := ⟨_, rfl⟩
  obtain ⟨W, hW⟩ := two w (.cells C 52) (.cells Z 52)
  have b1 : W.cell? ⟨w.heap.size, 1, none⟩ = some (.int .u64 f.id) := by rw [hW.one 1, hC]; rfl
  have b4 : W.cell? ⟨w.heap.size, 4, none⟩ = some (.int .u64 f.code) := by rw [hW.one 4, hC]; rfl
  have b2 : W.cell? ⟨w.heap.size, 2, none⟩ = some (.int .u64 f.a) := by rw [hW.one 2, hC]; rfl
  have hth : W.there (w.heap.size + 1) 0 24 := by have h := there_of hW.two; rw [hZ] at h; exact h
  have HC := Lib.hid (hW.chg o)
  have HE := hW.eq
  have hall : ((hasResetG f).cells nilS nilS).all (·.oneCell') = true := frAll (td := []) _ (Sl.nil w o [])
  rw [← hC]
  clear hW hC
  rw [hZ] at HE
  clear hZ
  skip
  go_enter Tryz.func114, Tryz.ntmps114
  go_upto_region 1 with fail
  change Code.wp _ _ _ _ ((w.alloc (.cells C 52)).alloc (.cells (frZ.cells nilS nilS) 52))
  rw [← HE]
  clear HE
  go_wp2_with (refine wpList_store_mid (P := Tryz.prog) rfl 52 _ _ rfl (w.heap.size + 1) 0 ((hasResetG f).cells nilS nilS) rfl rfl hth infoFR hall ?_)
  have hrg : (W.setCells (w.heap.size + 1) 0 ((hasResetG f).cells nilS nilS).toList).rangeAt (w.heap.size + 1) 0 ((hasResetG f).cells nilS nilS).toList := World.rangeAt_setCells_same _ _ _ _ hth
  refine bodyPost_ret (results_cell1_mid rfl _ _ (w.heap.size + 1) _ _ rfl hrg Tryz.underlying52 rfl infoFR) rfl ?_
  refine ⟨by rw [Array.toArray_toList], o, Chg.setCells _ _ _ HC.out (.inl (by omega))⟩

def hasStopG (f : Fr) : Fr := { frZ with id := f.id, code := f.code }
set_option maxHeartbeats 1000000 in
set_option maxRecDepth 100000 in
theorem hasStop_ok {w : World} (o : Own) (f : Fr) (dv rv : Value) :
    Calls Tryz.prog 117 #[.agg (f.cells dv rv)] w (ValNew w o (.agg ((hasStopG f).cells nilS nilS))) := by
  obtain ⟨C, hC⟩ : ∃ C, C = f.cells dv rv := ⟨_, rfl⟩
  obtain ⟨Z, hZ⟩ : ∃ Z, Z = frZ.cells nilS nilS := ⟨_, rfl⟩
  obtain ⟨W, hW⟩ := two w (.cells C 52) (.cells Z 52)
  have b1 : W.cell? ⟨w.heap.size, 1, none⟩ = some (.int .u64 f.id) := by rw [hW.one 1, hC]; rfl
  have b4 : W.cell? ⟨w.heap.size, 4, none⟩ = some (.int .u64 f.code) := by rw [hW.one 4, hC]; rfl
  have hth : W.there (w.heap.size + 1) 0 24 := by have h := there_of hW.two; rw [hZ] at h; exact h
  have HC := Lib.hid (hW.chg o)
  have HE := hW.eq
  have hall : ((hasStopG f).cells nilS nilS).all (·.oneCell') = true := frAll (td := []) _ (Sl.nil w o [])
  rw [← hC]
  clear hW hC
  rw [hZ] at HE
  clear hZ
  skip
  go_enter Tryz.func117, Tryz.ntmps117
  go_upto_region 1 with fail
  change Code.wp _ _ _ _ ((w.alloc (.cells C 52)).alloc (.cells (frZ.cells nilS nilS) 52))
  rw [← HE]
  clear HE
  go_wp2_with (refine wpList_store_mid (P := Tryz.prog) rfl 52 _ _ rfl (w.heap.size + 1) 0 ((hasStopG f).cells nilS nilS) rfl rfl hth infoFR hall ?_)
  have hrg : (W.setCells (w.heap.size + 1) 0 ((hasStopG f).cells nilS nilS).toList).rangeAt (w.heap.size + 1) 0 ((hasStopG f).cells nilS nilS).toList := World.rangeAt_setCells_same _ _ _ _ hth
  refine bodyPost_ret (results_cell1_mid rfl _ _ (w.heap.size + 1) _ _ rfl hrg Tryz.underlying52 rfl infoFR) rfl ?_
  refine ⟨by rw [Array.toArray_toList], o, Chg.setCells _ _ _ HC.out (.inl (by omega))⟩

def hasAG (f : Fr) : Fr := { frZ with a := f.a }
set_option maxHeartbeats 1000000 in
set_option maxRecDepth 100000 in
theorem hasA_ok {w : World} (o : Own) (f : Fr) (dv rv : Value) :
    Calls Tryz.prog 96 #[.agg (f.cells dv rv)] w (ValNew w o (.agg ((hasAG f).cells nilS nilS))) := by
  obtain ⟨C, hC⟩ : ∃ C, C = f.cells dv rv := ⟨_, rfl⟩
  obtain ⟨Z, hZ⟩ : ∃ Z, Z = frZ.cells nilS nilS := ⟨_, rfl⟩
  obtain ⟨W, hW⟩ := two w (.cells C 52) (.cells Z 52)
  have b2 : W.cell? ⟨w.heap.size, 2, none⟩ = some (.int .u64 f.a) := by rw [hW.one 2, hC]; rfl
  have hth : W.there (w.heap.size + 1) 0 24 := by have h := there_of hW.two; rw [hZ] at h; exact h
  have HC := Lib.hid (hW.chg o)
  have HE := hW.eq
  have hall : ((hasAG f).cells nilS nilS).all (·.oneCell') = true := frAll (td := []) _ (Sl.nil w o [])
  rw [← hC]
  clear hW hC
  rw [hZ] at HE
  clear hZ
  skip
  go_enter Tryz.func96, Tryz.ntmps96
  go_upto_region 1 with fail
  change Code.wp _ _ _ _ ((w.alloc (.cells C 52)).alloc (.cells (frZ.cells nilS nilS) 52))
  rw [← HE]
  clear HE
  go_wp2_with (refine wpList_store_mid (P := Tryz.prog) rfl 52 _ _ rfl (w.heap.size + 1) 0 ((hasAG f).cells nilS nilS) rfl rfl hth infoFR hall ?_)
  have hrg : (W.setCells (w.heap.size + 1) 0 ((hasAG f).cells nilS nilS).toList).rangeAt (w.heap.size + 1) 0 ((hasAG f).cells nilS nilS).toList := World.rangeAt_setCells_same _ _ _ _ hth
  refine bodyPost_ret (results_cell1_mid rfl _ _ (w.heap.size + 1) _ _ rfl hrg Tryz.underlying52 rfl infoFR) rfl ?_
  refine ⟨by rw [Array.toArray_toList], o, Chg.setCells _ _ _ HC.out (.inl (by omega))⟩

def hasBothG (f : Fr) : Fr := { frZ with id := f.id, a := f.a }
set_option maxHeartbeats 1000000 in
set_option maxRecDepth 100000 in
theorem hasBoth_ok {w : World} (o : Own) (f : Fr) (dv rv : Value) :
    Calls Tryz.prog 97 #[.agg (f.cells dv rv)] w (ValNew w o (.agg ((hasBothG f).cells nilS nilS))) := by
  obtain ⟨C, hC⟩ : ∃ C, C = f.cells dv rv := ⟨_, rfl⟩
  obtain ⟨Z, hZ⟩ : ∃ Z, Z = frZ.cells nilS nilS := ⟨_, rfl⟩
  obtain ⟨W, hW⟩ := two w (.cells C 52) (.cells Z 52)
  have b1 : W.cell? ⟨w.heap.size, 1, none⟩ = some (.int .u64 f.id) := by rw [hW.one 1, hC]; rfl
  have b2 : W.cell? ⟨w.heap.size, 2, none⟩ = some (.int .u64 f.a) := by rw [hW.one 2, hC]; rfl
  have hth : W.there (w.heap.size + 1) 0 24 := by have h := there_of hW.two; rw [hZ] at h; exact h
  have HC := Lib.hid (hW.chg o)
  have HE := hW.eq
  have hall : ((hasBothG f).cells nilS nilS).all (·.oneCell') = true := frAll (td := []) _ (Sl.nil w o [])
  rw [← hC]
  clear hW hC
  rw [hZ] at HE
  clear hZ
  skip
  go_enter Tryz.func97, Tryz.ntmps97
  go_upto_region 1 with fail
  change Code.wp _ _ _ _ ((w.alloc (.cells C 52)).alloc (.cells (frZ.cells nilS nilS) 52))
  rw [← HE]
  clear HE
  go_wp2_with (refine wpList_store_mid (P := Tryz.prog) rfl 52 _ _ rfl (w.heap.size + 1) 0 ((hasBothG f).cells nilS nilS) rfl rfl hth infoFR hall ?_)
  have hrg : (W.setCells (w.heap.size + 1) 0 ((hasBothG f).cells nilS nilS).toList).rangeAt (w.heap.size + 1) 0 ((hasBothG f).cells nilS nilS).toList := World.rangeAt_setCells_same _ _ _ _ hth
  refine bodyPost_ret (results_cell1_mid rfl _ _ (w.heap.size + 1) _ _ rfl hrg Tryz.underlying52 rfl infoFR) rfl ?_
  refine ⟨by rw [Array.toArray_toList], o, Chg.setCells _ _ _ HC.out (.inl (by omega))⟩

def hasStreamG (f : Fr) : Fr := { frZ with id := f.id, a := f.a, flag := f.flag, data := f.data }
set_option maxHeartbeats 1000000 in
set_option maxRecDepth 100000 in
theorem hasStream_ok {w : World} (o : Own) (f : Fr) (dv rv : Value) {ts : Tag} (hd : Sl w o ts dv (f.data.map bv)) :
    Calls Tryz.prog 128 #[.agg (f.cells dv rv)] w (ValNew w o (.agg ((hasStreamG f).cells dv nilS))) := by
  obtain ⟨A, c, rfl⟩ := hd.shapeB
  have Hd := Lib.hid hd
  clear hd
  obtain ⟨C, hC⟩ : ∃ C, C = f.cells (.slice A f.data.length c) rv := ⟨_, rfl⟩
  obtain ⟨Z, hZ⟩ : ∃ Z, Z = frZ.cells nilS nilS := ⟨_, rfl⟩
  obtain ⟨W, hW⟩ := two w (.cells C 52) (.cells Z 52)
  have b1 : W.cell? ⟨w.heap.size, 1, none⟩ = some (.int .u64 f.id) := by rw [hW.one 1, hC]; rfl
  have b2 : W.cell? ⟨w.heap.size, 2, none⟩ = some (.int .u64 f.a) := by rw [hW.one 2, hC]; rfl
  have b5 : W.cell? ⟨w.heap.size, 5, none⟩ = some (.bool f.flag) := by rw [hW.one 5, hC]; rfl
  have b6 : W.cell? ⟨w.heap.size, 6, none⟩ = some ((.slice A f.data.length c)) := by rw [hW.one 6, hC]; rfl
  have hth : W.there (w.heap.size + 1) 0 24 := by have h := there_of hW.two; rw [hZ] at h; exact h
  have HC := Lib.hid (hW.chg o)
  have HE := hW.eq
  have hall : ((hasStreamG f).cells (.slice A f.data.length c) nilS).all (·.oneCell') = true := frAll _ Hd.out
  rw [← hC]
  clear hW hC
  rw [hZ] at HE
  clear hZ
  skip
  go_enter Tryz.func128, Tryz.ntmps128
  go_upto_region 1 with fail
  change Code.wp _ _ _ _ ((w.alloc (.cells C 52)).alloc (.cells (frZ.cells nilS nilS) 52))
  rw [← HE]
  clear HE
  go_wp2_with (refine wpList_store_mid (P := Tryz.prog) rfl 52 _ _ rfl (w.heap.size + 1) 0 ((hasStreamG f).cells (.slice A f.data.length c) nilS) rfl rfl hth infoFR hall ?_)
  have hrg : (W.setCells (w.heap.size + 1) 0 ((hasStreamG f).cells (.slice A f.data.length c) nilS).toList).rangeAt (w.heap.size + 1) 0 ((hasStreamG f).cells (.slice A f.data.length c) nilS).toList := World.rangeAt_setCells_same _ _ _ _ hth
  refine bodyPost_ret (results_cell1_mid rfl _ _ (w.heap.size + 1) _ _ rfl hrg Tryz.underlying52 rfl infoFR) rfl ?_
  refine ⟨by rw [Array.toArray_toList], o, Chg.setCells _ _ _ HC.out (.inl (by omega))⟩

theorem NewB.from {w W : World} {o o1 : Own} {td : Tag} {n : Nat} {e : Ending} {w' : World} (hc : Chg [] w o W o1) (h : NewB W o1 td n e w') : NewB w o td n e w' := by
  obtain ⟨v, xs, o', h1, h2, h3, h4, h5⟩ := h
  exact ⟨v, xs, o', h1, h2, h3, hc.trans h4, fun g hg => Nat.le_trans hc.size (h5 g hg)⟩
/-- A new block of integers reads as them. -/
theorem newInts {W : World} (o : Own) (l : List Nat) (hl : l.length ≤ 10) : Sl (W.alloc (.cells (l.map u64v).toArray 26)) (o.upd W.heap.size []) [] (.slice (some ⟨W.heap.size, 0, none⟩) l.length l.length) (l.map u64v) := by
  have h := At.new W o [] (.cells (l.map u64v).toArray 26)
  refine ⟨_, _, by rw [List.length_map], by rw [List.length_map]; omega, by simp [maxLen]; omega, by intro h; simp at h, fun _ => ⟨_, _, rfl, h.2, fun j hj => ?_⟩⟩
  rw [Nat.zero_add, h.cells]
  simp

set_option maxHeartbeats 1000000 in
set_option maxRecDepth 100000 in
theorem putReset_ok {w : World} {o : Own} (hg : GTab w o) (f : Fr) (dv rv : Value) (hid : f.id < 18446744073709551616) (hcode : f.code < 18446744073709551616) (ha : f.a < 18446744073709551616) (td : Tag) :
    Calls Tryz.prog 115 #[.agg (f.cells dv rv)] w (NewB w o td (isum [f.id, f.code, f.a])) := by
  obtain ⟨C, W, hB⟩ := boxed w f dv rv
  have b1 : W.cell? ⟨w.heap.size, 1, none⟩ = some (.int .u64 f.id) := hB.cell 1
  have b4 : W.cell? ⟨w.heap.size, 4, none⟩ = some (.int .u64 f.code) := hB.cell 4
  have b2 : W.cell? ⟨w.heap.size, 2, none⟩ = some (.int .u64 f.a) := hB.cell 2
  have hW := hB.eq
  have hC1 := ((hB.chg o).alloc (.cells ([f.id, f.code, f.a].map u64v).toArray 26)).tag (hB.chg o).size []
  have HP : RowKit.Hid (Calls Tryz.prog 65 #[.slice (some ⟨W.heap.size, 0, none⟩) 3 3] (W.alloc (.cells #[.int .u64 f.id, .int .u64 f.code, .int .u64 f.a] 26)) (NewB w o td (isum [f.id, f.code, f.a]))) :=
    (Fints_ok (hg.chg hC1 (off_nil _)) [f.id, f.code, f.a] (newInts o [f.id, f.code, f.a] (by simp)) (by simp) (by intro n hn; simp only [List.mem_cons, List.not_mem_nil, or_false] at hn; rcases hn with rfl | rfl | rfl <;> assumption) td).mono fun e w' h => NewB.from hC1 h
  rw [← hB.C]
  clear hC1 hg hB
  go_enter Tryz.func115, Tryz.ntmps115
  go_upto_region 1 with fail
  rw [← hW]
  clear hW
  unfold NewB at HP
  go_wp2_with (go_at_call 65; refine HP.out.mono ?_; rintro e w' ⟨v, xs, o', rfl, h1, h2, h3, h4⟩)
  go_ret
  exact ⟨v, xs, o', rfl, h1, h2, h3, h4⟩

set_option maxHeartbeats 1000000 in
set_option maxRecDepth 100000 in
theorem putStop_ok {w : World} {o : Own} (hg : GTab w o) (f : Fr) (dv rv : Value) (hid : f.id < 18446744073709551616) (hcode : f.code < 18446744073709551616) (td : Tag) :
    Calls Tryz.prog 118 #[.agg (f.cells dv rv)] w (NewB w o td (isum [f.id, f.code])) := by
  obtain ⟨C, W, hB⟩ := boxed w f dv rv
  have b1 : W.cell? ⟨w.heap.size, 1, none⟩ = some (.int .u64 f.id) := hB.cell 1
  have b4 : W.cell? ⟨w.heap.size, 4, none⟩ = some (.int .u64 f.code) := hB.cell 4
  have hW := hB.eq
  have hC1 := ((hB.chg o).alloc (.cells ([f.id, f.code].map u64v).toArray 26)).tag (hB.chg o).size []
  have HP : RowKit.Hid (Calls Tryz.prog 65 #[.slice (some ⟨W.heap.size, 0, none⟩) 2 2] (W.alloc (.cells #[.int .u64 f.id, .int .u64 f.code] 26)) (NewB w o td (isum [f.id, f.code]))) :=
    (Fints_ok (hg.chg hC1 (off_nil _)) [f.id, f.code] (newInts o [f.id, f.code] (by simp)) (by simp) (by intro n hn; simp only [List.mem_cons, List.not_mem_nil, or_false] at hn; rcases hn with rfl | rfl <;> assumption) td).mono fun e w' h => NewB.from hC1 h
  rw [← hB.C]
  clear hC1 hg hB
  go_enter Tryz.func118, Tryz.ntmps118
  go_upto_region 1 with fail
  rw [← hW]
  clear hW
  unfold NewB at HP
  go_wp2_with (go_at_call 65; refine HP.out.mono ?_; rintro e w' ⟨v, xs, o', rfl, h1, h2, h3, h4⟩)
  go_ret
  exact ⟨v, xs, o', rfl, h1, h2, h3, h4⟩

set_option maxHeartbeats 1000000 in
set_option maxRecDepth 100000 in
theorem putA_ok {w : World} {o : Own} (hg : GTab w o) (f : Fr) (dv rv : Value) (ha : f.a < 18446744073709551616) (td : Tag) :
    Calls Tryz.prog 101 #[.agg (f.cells dv rv)] w (NewB w o td (isum [f.a])) := by
  obtain ⟨C, W, hB⟩ := boxed w f dv rv
  have b2 : W.cell? ⟨w.heap.size, 2, none⟩ = some (.int .u64 f.a) := hB.cell 2
  have hW := hB.eq
  have hC1 := ((hB.chg o).alloc (.cells ([f.a].map u64v).toArray 26)).tag (hB.chg o).size []
  have HP : RowKit.Hid (Calls Tryz.prog 65 #[.slice (some ⟨W.heap.size, 0, none⟩) 1 1] (W.alloc (.cells #[.int .u64 f.a] 26)) (NewB w o td (isum [f.a]))) :=
    (Fints_ok (hg.chg hC1 (off_nil _)) [f.a] (newInts o [f.a] (by simp)) (by simp) (by intro n hn; simp only [List.mem_cons, List.not_mem_nil, or_false] at hn; rcases hn with rfl <;> assumption) td).mono fun e w' h => NewB.from hC1 h
  rw [← hB.C]
  clear hC1 hg hB
  go_enter Tryz.func101, Tryz.ntmps101
  go_upto_region 1 with fail
  rw [← hW]
  clear hW
  unfold NewB at HP
  go_wp2_with (go_at_call 65; refine HP.out.mono ?_; rintro e w' ⟨v, xs, o', rfl, h1, h2, h3, h4⟩)
  go_ret
  exact ⟨v, xs, o', rfl, h1, h2, h3, h4⟩

set_option maxHeartbeats 1000000 in
set_option maxRecDepth 100000 in
theorem putBoth_ok {w : World} {o : Own} (hg : GTab w o) (f : Fr) (dv rv : Value) (hid : f.id < 18446744073709551616) (ha : f.a < 18446744073709551616) (td : Tag) :
    Calls Tryz.prog 102 #[.agg (f.cells dv rv)] w (NewB w o td (isum [f.id, f.a])) := by
  obtain ⟨C, W, hB⟩ := boxed w f dv rv
  have b1 : W.cell? ⟨w.heap.size, 1, none⟩ = some (.int .u64 f.id) := hB.cell 1
  have b2 : W.cell? ⟨w.heap.size, 2, none⟩ = some (.int .u64 f.a) := hB.cell 2
  have hW := hB.eq
  have hC1 := ((hB.chg o).alloc (.cells ([f.id, f.a].map u64v).toArray 26)).tag (hB.chg o).size []
  have HP : RowKit.Hid (Calls Tryz.prog 65 #[.slice (some ⟨W.heap.size, 0, none⟩) 2 2] (W.alloc (.cells #[.int .u64 f.id, .int .u64 f.a] 26)) (NewB w o td (isum [f.id, f.a]))) :=
    (Fints_ok (hg.chg hC1 (off_nil _)) [f.id, f.a] (newInts o [f.id, f.a] (by simp)) (by simp) (by intro n hn; simp only [List.mem_cons, List.not_mem_nil, or_false] at hn; rcases hn with rfl | rfl <;> assumption) td).mono fun e w' h => NewB.from hC1 h
  rw [← hB.C]
  clear hC1 hg hB
  go_enter Tryz.func102, Tryz.ntmps102
  go_upto_region 1 with fail
  rw [← hW]
  clear hW
  unfold NewB at HP
  go_wp2_with (go_at_call 65; refine HP.out.mono ?_; rintro e w' ⟨v, xs, o', rfl, h1, h2, h3, h4⟩)
  go_ret
  exact ⟨v, xs, o', rfl, h1, h2, h3, h4⟩

set_option maxRecDepth 100000 in
theorem Ffine_ok {w : World} (o : Own) (f : Fr) (dv rv : Value) : Calls Tryz.prog 109 #[.agg (f.cells dv rv)] w (ValNew w o (.bool true)) := by
  have hc := Lib.hid ((Chg.refl [] w o).alloc (.cells (f.cells dv rv) 52))
  generalize f.cells dv rv = C at *
  go_enter Tryz.func109, Tryz.ntmps109
  go_wp2
  go_ret
  exact ⟨rfl, o, hc.out⟩
set_option maxRecDepth 100000 in
theorem Flong_ok {w : World} {o : Own} (f : Fr) (dv rv : Value) {ts : Tag} (hd : Sl w o ts dv (f.data.map bv)) (hl : f.data.length ≤ 100000) :
    Calls Tryz.prog 125 #[.agg (f.cells dv rv)] w (ValNew w o (.bool (decide (f.data.length ≤ 1200)))) := by
  obtain ⟨A, c, rfl⟩ := hd.shapeB
  obtain ⟨C, W, hB⟩ := boxed w f (.slice A f.data.length c) rv
  have b6 : W.cell? ⟨w.heap.size, 6, none⟩ = some (.slice A f.data.length c) := hB.cell 6
  have hW := hB.eq
  have HC := Lib.hid (hB.chg o)
  rw [← hB.C]
  clear hB hd
  by_cases h : (f.data.length : Int) ≤ 1200
  · have hd : RowKit.Hid (decide (f.data.length ≤ 1200) = true) := decide_eq_true (by omega)
    go_enter Tryz.func125, Tryz.ntmps125
    go_upto_region 1 with fail
    rw [← hW]
    clear hW
    go_wp2
    go_ret
    exact ⟨by rw [hd.out]; rfl, o, HC.out⟩
  · have hd : RowKit.Hid (decide (f.data.length ≤ 1200) = false) := decide_eq_false (by omega)
    go_enter Tryz.func125, Tryz.ntmps125
    go_upto_region 1 with fail
    rw [← hW]
    clear hW
    go_wp2
    go_ret
    exact ⟨by rw [hd.out]; rfl, o, HC.out⟩
end Go.Proofs.YthliihmhkhabeaaGreatDoor
