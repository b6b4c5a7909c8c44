/- A frame of a stream is put: how many bytes it has. No condition. -/
import Derived.Test.YthliihmhkhabeaaGreatDoorIds43
import Derived.Test.YthliihmhkhabeaaGreatDoorIds44
namespace Go.Proofs.YthliihmhkhabeaaGreatDoor
open Go Go.RowKit

set_option maxHeartbeats 1000000 in
set_option maxRecDepth 100000 in
theorem Fends_ok {w : World} {o : Own} (f : Fr) (dv : Value) {ts : Tag} (hd : Sl w o ts dv (f.data.map bv)) (hl : f.data.length ≤ 1200) (ha : f.a + f.data.length ≤ 4611686018427387903) :
    Calls Tryz.prog 121 #[.agg (f.cells dv nilS)] w (ValNew w o (.bool true)) := by
  obtain ⟨C, W, hB⟩ := boxed w f dv nilS
  have hW := hB.eq
  have BAT : RowKit.Hid (At W o w.heap.size (o w.heap.size) (.cells (f.cells dv nilS) 52 (0, 0))) := ⟨(hB.at_ o).1, rfl⟩
  have hch0 := Lib.hid (hB.chg o)
  have hrg : RowKit.Hid (W.rangeAt w.heap.size 0 (f.cells dv nilS).toList) := parRange' BAT.out.cells
  have Hsz : RowKit.Hid ((Tryz.prog.info? 52).map (·.size) = some (f.cells dv nilS).toList.length) := infoFR
  have HL : RowKit.Hid (Calls Tryz.prog 125 #[.agg (f.cells dv nilS)] W (ValNew W o (.bool true))) := by
    have h := Flong_ok f dv nilS (hd.chg (hB.chg o) (off_nil _)) (by omega)
    rw [decide_eq_true hl] at h
    exact h
  have hsh := hd.shapeB
  obtain ⟨A, c, rfl⟩ := hsh
  have hkk : RowKit.Hid (∀ W1 o1, Chg [] W o W1 o1 → W1.cell? ⟨w.heap.size, 2, none⟩ = some (.int .u64 f.a) ∧ W1.cell? ⟨w.heap.size, 6, none⟩ = some (.slice A f.data.length c)) := fun W1 o1 hc => ⟨(BAT.out.chg hc (off_nil _)).cells 2, (BAT.out.chg hc (off_nil _)).cells 6⟩
  rw [← hB.C]
  have hlI : (f.data.length : Int) ≤ 1200 := by omega
  have haI : (f.a : Int) ≤ 4611686018427387903 - f.data.length := by omega
  clear hB hd hl ha BAT
  go_enter Tryz.func121, Tryz.ntmps121
  go_upto_region 1 with fail
  rw [← hW]
  clear hW
  go_wp2_with (first
    | (refine wpList_load_mid (P := Tryz.prog) rfl 52 _ rfl w.heap.size 0 rfl (f.cells (.slice A f.data.length c) nilS).toList _ hrg.out Tryz.underlying52 rfl Hsz.out ?_; simp only [Array.toArray_toList])
    | (go_at_call 125; refine HL.out.mono ?_; rintro e w1 ⟨rfl, o1, hc1⟩; obtain ⟨k1, k2⟩ := hkk.out _ _ hc1; have HC1 := Lib.hid hc1; clear hc1))
  go_ret
  exact ⟨rfl, o1, hch0.out.trans HC1.out⟩

set_option maxRecDepth 100000 in
theorem FRight_Stream {w : World} {o : Own} (id a : Nat) (d : List Nat) (fl : Bool) (dv : Value) {ts : Tag} (hd : Sl w o ts dv (d.map bv)) (hid : id ≤ 4611686018427387903) (hl : d.length ≤ 1200) (ha : a + d.length ≤ 4611686018427387903) :
    Calls Tryz.prog 62 #[.agg ((frStream id a d fl).cells dv nilS)] w (ValNew w o (.bool true)) :=
  FRight_gen (frStream id a d fl) dv 128 121 .nilFunc .nilFunc rfl rfl rfl true (small_of _ hid (by show a ≤ _; omega) (Nat.zero_le _) (Nat.zero_le _)) (hasStreamG (frStream id a d fl)) rfl hd (enter_of Tryz.func128 (by kernel_rfl) (by kernel_rfl)) (enter_of Tryz.func121 (by kernel_rfl) (by kernel_rfl))
    (fun X oX hc => hasStream_ok oX (frStream id a d fl) dv nilS (hd.chg hc (off_nil _))) (fun X oX hc => Fends_ok (frStream id a d fl) dv (hd.chg hc (off_nil _)) hl ha)

theorem Fbit_any (b : Bool) (n : Int) (w : World) : Calls Tryz.prog 63 #[.bool b, .int .i64 n] w fun e w' => ∃ x : Int, e = .returned (.int .i64 x) ∧ w = w' := (Fbit_ok b n w).mono fun _ _ ⟨h1, h2⟩ => ⟨_, h1, h2⟩
def alen (a : Nat) : Nat := if a = 0 then 0 else vsize a
theorem alen_le (a : Nat) : alen a ≤ 8 := by
  unfold alen; have := vsize_le a; split <;> omega
def slen (id a n : Nat) : Nat := 1 + vsize id + alen a + (vsize n + n)

set_option maxHeartbeats 4000000 in
set_option maxRecDepth 100000 in
theorem FPut_Stream {w : World} {o : Own} (hg : GTab w o) (id a : Nat) (d : List Nat) (fl : Bool) (dv : Value) {ts : Tag} (hd : Sl w o ts dv (d.map bv)) (hid : id ≤ 4611686018427387903) (hl : d.length ≤ 1200) (ha : a + d.length ≤ 4611686018427387903) (td : Tag) :
    Calls Tryz.prog 35 #[.agg ((frStream id a d fl).cells dv nilS)] w (NewB w o td (slen id a d.length)) := by
  obtain ⟨f, hf⟩ : ∃ f, f = frStream id a d fl := ⟨_, rfl⟩
  have HR := Lib.hid (fun X oX (hc : Chg [] w o X oX) => FRight_Stream id a d fl dv (hd.chg hc (off_nil _)) hid hl ha)
  have Hf := Lib.hid hf
  rw [← hf]
  rw [← hf] at HR
  clear hf
  obtain ⟨C, W, hB⟩ := boxed w f dv nilS
  have hW := hB.eq
  have BAT : RowKit.Hid (At W o w.heap.size (o w.heap.size) (.cells (f.cells dv nilS) 52 (0, 0))) := ⟨(hB.at_ o).1, rfl⟩
  have hch0 := Lib.hid (hB.chg o)
  have Hsz : RowKit.Hid ((Tryz.prog.info? 52).map (·.size) = some (f.cells dv nilS).toList.length) := infoFR
  have HR := Lib.hid (HR.out W o (hB.chg o))
  have hrg : RowKit.Hid (W.rangeAt w.heap.size 0 (f.cells dv nilS).toList) := parRange' BAT.out.cells
  have Hd := Lib.hid hd; have HG := Lib.hid hg
  have Hid := Lib.hid hid; have Hl := Lib.hid hl; have Ha := Lib.hid ha
  rw [← hB.C]
  clear hB hd hg hid hl ha
  go_enter Tryz.func35, Tryz.ntmps35
  go_upto_region 1 with fail
  rw [← hW]
  clear hW
  have hkk : RowKit.Hid (∀ W1 o1, Chg [] W o W1 o1 → ∀ j, W1.cell? ⟨w.heap.size, j, none⟩ = ((frStream id a d fl).cells dv nilS)[j]?) := fun W1 o1 hc => by rw [← Hf.out]; exact (BAT.out.chg hc (off_nil _)).cells
  have hk8 : RowKit.Hid (∀ W1 o1, Chg [] W o W1 o1 → W1.cell? ⟨w.heap.size, 0, none⟩ = some (.int .i64 8)) := fun W1 o1 hc => hkk.out W1 o1 hc 0
  go_upto_region 4 with (first
    | (refine wpList_load_mid (P := Tryz.prog) rfl 52 _ rfl w.heap.size 0 rfl (f.cells dv nilS).toList _ hrg.out Tryz.underlying52 rfl Hsz.out ?_; simp only [Array.toArray_toList])
    | (go_at_call 62; refine HR.out.mono ?_; rintro e w1 ⟨rfl, o1, hc1⟩; have k1 := hk8.out _ _ hc1; have HC1 := Lib.hid hc1; clear hc1))
  go_upto_region 8 with fail
  go_cut [4] from 42 (fun v wx => RowKit.Hid (GatherB W o td (1 + isum [id]) v wx))
  case first =>
    clear k1 hrg Hsz hk8
    obtain ⟨S, hS⟩ : ∃ S : World → Prop, S = fun X => ∃ oX, Chg [] W o X oX := ⟨_, rfl⟩
    have HI0 : RowKit.Hid (∀ X, KeepS S X → ∃ oX, Chg [] W o X oX) := by
      show ∀ X, _ → _
      intro X h
      rw [hS] at h
      exact h
    have HS : RowKit.Hid (∀ X oX, Chg [] W o X oX → KeepS S X) := by
      show ∀ X oX, _ → _
      intro X oX h
      rw [hS]
      exact ⟨oX, h⟩
    clear hS
    have hrr : RowKit.Hid (∀ X, KeepS S X → ∀ j, X.cell? ⟨w.heap.size, j, none⟩ = ((frStream id a d fl).cells dv nilS)[j]?) := fun X h => by
      obtain ⟨oX, hc⟩ := HI0.out X h
      exact hkk.out X oX hc
    have r2 : ∀ X, KeepS S X → X.cell? ⟨w.heap.size, 2, none⟩ = some (.int .u64 a) := fun X h => hrr.out X h 2
    have r5 : ∀ X, KeepS S X → X.cell? ⟨w.heap.size, 5, none⟩ = some (.bool fl) := fun X h => hrr.out X h 5
    have r1 : ∀ X, KeepS S X → X.cell? ⟨w.heap.size, 1, none⟩ = some (.int .u64 id) := fun X h => hrr.out X h 1
    have hSG : RowKit.Hid (∀ n td v X, GatherB W o td n v X → KeepS S X) := by
      show ∀ n td v X, _ → _
      rintro n td v X ⟨oX, h⟩
      exact HS.out _ oX h.chg
    have HC1 := Lib.hid HC1.out.drew
    have HG := Lib.hid (HG.out.chg hch0.out (off_nil _))
    have S0 : KeepS S w1.drew := HS.out _ _ HC1.out
    refine wp_region_held_drew (S := KeepS S) (by kernel_rfl) S0 (fun hHeld => ?_)
    clear S0
    generalize w1.drew = X1 at *
    have Hi64 : RowKit.Hid (∀ n ∈ [id], n < 18446744073709551616) := by intro n hn; simp only [List.mem_cons, List.not_mem_nil, or_false] at hn; subst hn; have := Hid.out; omega
    refine wpAnyH_take (i := 0) rfl (by kernel_rfl) (by kernel_rfl) (by kernel_rfl) (fun _ _ _ h => h) (Or.inl ⟨by rfl, fun X hX => by go_simp; with_reducible rfl⟩) (by assumption) ?_
    try simp only [Act.put, List.getElem_toArray, List.getElem_cons_zero, List.setIfInBounds_toArray, List.set_cons_zero, List.set_cons_succ]
    refine wpAnyH_take (i := 1) rfl (by kernel_rfl) (by kernel_rfl) (by kernel_rfl) (fun _ _ _ h => h) (Or.inl ⟨by rfl, fun X hX => by go_simp; with_reducible rfl⟩) (by assumption) ?_
    try simp only [Act.put, List.getElem_toArray, List.getElem_cons_zero, List.getElem_cons_succ, List.setIfInBounds_toArray, List.set_cons_zero, List.set_cons_succ]
    refine wpAnyH_take (i := 2) rfl (by kernel_rfl) (by kernel_rfl) (by kernel_rfl) (fun _ _ _ h => h) (Or.inl ⟨by rfl, fun X hX => by go_simp; with_reducible rfl⟩) (by assumption) ?_
    try simp only [Act.put, List.getElem_toArray, List.getElem_cons_zero, List.getElem_cons_succ, List.setIfInBounds_toArray, List.set_cons_zero, List.set_cons_succ]
    refine wpAnyH_take (i := 5) rfl (by kernel_rfl) (by kernel_rfl) (by kernel_rfl) (fun _ _ _ h => h) (Or.inl ⟨by rfl, fun X hX => by go_simp; with_reducible rfl⟩) (by assumption) ?_
    try simp only [Act.put, List.getElem_toArray, List.getElem_cons_zero, List.getElem_cons_succ, List.setIfInBounds_toArray, List.set_cons_zero, List.set_cons_succ]
    refine wpAnyH_take (i := 6) rfl (by kernel_rfl) (by kernel_rfl) (by kernel_rfl) (fun _ _ _ h => h) (Or.inl ⟨by rfl, fun X hX => by go_simp; with_reducible rfl⟩) (by assumption) ?_
    try simp only [Act.put, List.getElem_toArray, List.getElem_cons_zero, List.getElem_cons_succ, List.setIfInBounds_toArray, List.set_cons_zero, List.set_cons_succ]
    refine wpAnyH_take (i := 11) rfl (by kernel_rfl) (by kernel_rfl) (by kernel_rfl) (fun _ _ _ h => h) (Or.inl ⟨by rfl, fun X hX => by go_simp; with_reducible rfl⟩) (by assumption) ?_
    try simp only [Act.put, List.getElem_toArray, List.getElem_cons_zero, List.getElem_cons_succ, List.setIfInBounds_toArray, List.set_cons_zero, List.set_cons_succ]
    refine wpAnyH_take (i := 12) rfl (by kernel_rfl) (by kernel_rfl) (by kernel_rfl) (fun _ _ _ h => h) (Or.inl ⟨by rfl, fun X hX => by go_simp; with_reducible rfl⟩) (by assumption) ?_
    try simp only [Act.put, List.getElem_toArray, List.getElem_cons_zero, List.getElem_cons_succ, List.setIfInBounds_toArray, List.set_cons_zero, List.set_cons_succ]
    refine wpAnyH_ready (rs := [3, 13]) (by kernel_rfl) (by simp) ?_
    refine AllReadyH.cons rfl (fun K hK => ?_) (AllReadyH.cons rfl (fun K hK => ?_) AllReadyH.nil)
    · go_simp
      refine (Fbit_any _ _ _).mono ?_
      rintro e w' ⟨x1, rfl, rfl⟩
      go_wp2_with fail
      refine hK.out _ _ (hHeld) (fun hHeld => ?_)
      clear hK K
      try simp only [Act.put, List.getElem_toArray, List.getElem_cons_zero, List.getElem_cons_succ, List.setIfInBounds_toArray, List.set_cons_zero, List.set_cons_succ]
      refine wpAnyH_take (i := 4) rfl (by kernel_rfl) (by kernel_rfl) (by kernel_rfl) (fun _ _ _ h => h) (Or.inl ⟨by rfl, fun X hX => by go_simp; with_reducible rfl⟩) (by assumption) ?_
      try simp only [Act.put, List.getElem_toArray, List.getElem_cons_zero, List.getElem_cons_succ, List.setIfInBounds_toArray, List.set_cons_zero, List.set_cons_succ]
      refine wpAnyH_ready (rs := [7, 13]) (by kernel_rfl) (by simp) ?_
      refine AllReadyH.cons rfl (fun K hK => ?_) (AllReadyH.cons rfl (fun K hK => ?_) AllReadyH.nil)
      · go_simp
        refine (Fbit_any _ _ _).mono ?_
        rintro e w' ⟨x2, rfl, rfl⟩
        go_wp2_with fail
        refine hK.out _ _ (hHeld) (fun hHeld => ?_)
        clear hK K
        try simp only [Act.put, List.getElem_toArray, List.getElem_cons_zero, List.getElem_cons_succ, List.setIfInBounds_toArray, List.set_cons_zero, List.set_cons_succ]
        refine wpAnyH_take (i := 8) rfl (by kernel_rfl) (by kernel_rfl) (by kernel_rfl) (fun _ _ _ h => h) (Or.inl ⟨by rfl, fun X hX => by go_simp; with_reducible rfl⟩) (by assumption) ?_
        try simp only [Act.put, List.getElem_toArray, List.getElem_cons_zero, List.getElem_cons_succ, List.setIfInBounds_toArray, List.set_cons_zero, List.set_cons_succ]
        refine wpAnyH_take (i := 9) rfl (by kernel_rfl) (by kernel_rfl) (by kernel_rfl) (fun _ _ _ h => h) (Or.inl ⟨by rfl, fun X hX => by go_simp; with_reducible rfl⟩) (by assumption) ?_
        try simp only [Act.put, List.getElem_toArray, List.getElem_cons_zero, List.getElem_cons_succ, List.setIfInBounds_toArray, List.set_cons_zero, List.set_cons_succ]
        refine wpAnyH_ready (rs := [10, 13]) (by kernel_rfl) (by simp) ?_
        refine AllReadyH.cons rfl (fun K hK => ?_) (AllReadyH.cons rfl (fun K hK => ?_) AllReadyH.nil)
        · go_simp
          have hs1 : Chg [] X1 o1 (X1.alloc (.cells #[.int .u8 ((IntKind.u8.wrap (bits .or .i64 (bits .or .i64 10 x1) x2)))] 5)) (o1.upd X1.heap.size td) := ((Chg.refl [] _ _).alloc _).tag (Nat.le_refl _) td
          have HG1 := Lib.hid (oneByte HC1.out ((IntKind.u8.wrap (bits .or .i64 (bits .or .i64 10 x1) x2))) td)
          have HC2 := Lib.hid (Chg.trans HC1.out hs1)
          clear hs1 HC1
          refine hK.out _ _ (HS.out _ _ HC2.out) (fun hHeld => ?_)
          clear hK K
          generalize X1.heap.size = b1 at *
          generalize X1.alloc (.cells #[.int .u8 ((IntKind.u8.wrap (bits .or .i64 (bits .or .i64 10 x1) x2)))] 5) = X101 at *
          generalize o1.upd b1 td = O1 at *
          try simp only [Act.put, List.getElem_toArray, List.getElem_cons_zero, List.getElem_cons_succ, List.setIfInBounds_toArray, List.set_cons_zero, List.set_cons_succ]
          refine wpAnyH_ready (rs := [13]) (by kernel_rfl) (by simp) ?_
          refine AllReadyH.cons rfl (fun K hK => ?_) AllReadyH.nil
          go_simp
          have hs3 : Chg [] X101 O1 (X101.alloc (.cells #[.int .u64 id] 26)) (O1.upd X101.heap.size []) := ((Chg.refl [] _ _).alloc _).tag (Nat.le_refl _) []
          have HI3 : RowKit.Hid (Sl (X101.alloc (.cells #[.int .u64 id] 26)) (O1.upd X101.heap.size []) [] (.slice (some ⟨X101.heap.size, 0, none⟩) 1 1) ([id].map u64v)) := newInts (W := X101) O1 [id] (by simp)
          have HC4 := Lib.hid (Chg.trans HC2.out hs3)
          have HG4 := Lib.hid (HG1.out.keep hs3)
          clear hs3 HC2 HG1
          refine hK.out _ _ (HS.out _ _ HC4.out) (fun hHeld => ?_)
          clear hK K
          generalize X101.heap.size = b3 at *
          generalize X101.alloc (.cells #[.int .u64 id] 26) = X103 at *
          generalize O1.upd b3 [] = O3 at *
          try simp only [Act.put, List.getElem_toArray, List.getElem_cons_zero, List.getElem_cons_succ, List.setIfInBounds_toArray, List.set_cons_zero, List.set_cons_succ]
          refine wpAnyH_ready (rs := [14]) (by kernel_rfl) (by simp) ?_
          refine AllReadyH.cons rfl (fun K hK => ?_) AllReadyH.nil
          go_simp
          refine (Fints_ok (HG.out.chg HC4.out (off_nil _)) [id] HI3.out (by simp) Hi64.out []).mono ?_
          rintro e w5 ⟨v5, ys5, o5, rfl, p1, p2, p3, p4⟩
          obtain ⟨A5, c5, rfl⟩ := newShape p1 p2
          have HV5 := Lib.hid p1
          have HL5 := Lib.hid p2
          have HC6 := Lib.hid (Chg.trans HC4.out p3)
          have HG6 := Lib.hid (HG4.out.keep p3)
          clear p1 p2 p3 p4 HI3 HC4 HG4
          go_wp2_with fail
          refine hK.out _ _ (HS.out _ _ HC6.out) (fun hHeld => ?_)
          clear hK K
          try simp only [Act.put, List.getElem_toArray, List.getElem_cons_zero, List.getElem_cons_succ, List.setIfInBounds_toArray, List.set_cons_zero, List.set_cons_succ]
          refine wpAnyH_ready (rs := [15]) (by kernel_rfl) (by simp) ?_
          refine AllReadyH.cons rfl (fun K hK => ?_) AllReadyH.nil
          obtain ⟨A4, n4, c4, w4, e1, e2⟩ := HG6.out.step (Chg.refl [] _ _) HV5.out.sl (by rw [List.length_map, HL5.out]) (by have := isum_le [id]; simp at this; omega) 42 ⟨_, rfl⟩
          refine step_append_run rfl (.tmp 52) (.tmp 56) 42 42 rfl _ _ rfl rfl _ _ e1 ?_
          refine hK.out _ _ (hSG.out _ _ _ _ e2.out) (fun hHeld => ?_)
          clear hK K
          try simp only [Act.put, List.getElem_toArray, List.getElem_cons_zero, List.getElem_cons_succ, List.setIfInBounds_toArray, List.set_cons_zero, List.set_cons_succ]
          refine wpAnyH_take (i := 16) rfl (by kernel_rfl) (by kernel_rfl) (by kernel_rfl) (fun _ _ _ h => h) (Or.inl ⟨by rfl, fun X hX => by go_simp; with_reducible rfl⟩) (by assumption) ?_
          try simp only [Act.put, List.getElem_toArray, List.getElem_cons_zero, List.getElem_cons_succ, List.setIfInBounds_toArray, List.set_cons_zero, List.set_cons_succ]
          refine wpAnyH_done (by kernel_rfl) ?_ _
          go_wp2
          go_meet
          exact e2.out
        · go_simp
          have hs7 : Chg [] X1 o1 (X1.alloc (.cells #[.int .u64 id] 26)) (o1.upd X1.heap.size []) := ((Chg.refl [] _ _).alloc _).tag (Nat.le_refl _) []
          have HI7 : RowKit.Hid (Sl (X1.alloc (.cells #[.int .u64 id] 26)) (o1.upd X1.heap.size []) [] (.slice (some ⟨X1.heap.size, 0, none⟩) 1 1) ([id].map u64v)) := newInts (W := X1) o1 [id] (by simp)
          have HC8 := Lib.hid (Chg.trans HC1.out hs7)
          clear hs7 HC1
          refine hK.out _ _ (HS.out _ _ HC8.out) (fun hHeld => ?_)
          clear hK K
          generalize X1.heap.size = b7 at *
          generalize X1.alloc (.cells #[.int .u64 id] 26) = X107 at *
          generalize o1.upd b7 [] = O7 at *
          try simp only [Act.put, List.getElem_toArray, List.getElem_cons_zero, List.getElem_cons_succ, List.setIfInBounds_toArray, List.set_cons_zero, List.set_cons_succ]
          refine wpAnyH_ready (rs := [10, 14]) (by kernel_rfl) (by simp) ?_
          refine AllReadyH.cons rfl (fun K hK => ?_) (AllReadyH.cons rfl (fun K hK => ?_) AllReadyH.nil)
          · go_simp
            have hs9 : Chg [] X107 O7 (X107.alloc (.cells #[.int .u8 ((IntKind.u8.wrap (bits .or .i64 (bits .or .i64 10 x1) x2)))] 5)) (O7.upd X107.heap.size td) := ((Chg.refl [] _ _).alloc _).tag (Nat.le_refl _) td
            have HG9 := Lib.hid (oneByte HC8.out ((IntKind.u8.wrap (bits .or .i64 (bits .or .i64 10 x1) x2))) td)
            have HC10 := Lib.hid (Chg.trans HC8.out hs9)
            have HI10 := Lib.hid (HI7.out.chg hs9 (off_nil _))
            clear hs9 HC8 HI7
            refine hK.out _ _ (HS.out _ _ HC10.out) (fun hHeld => ?_)
            clear hK K
            generalize X107.heap.size = b9 at *
            generalize X107.alloc (.cells #[.int .u8 ((IntKind.u8.wrap (bits .or .i64 (bits .or .i64 10 x1) x2)))] 5) = X109 at *
            generalize O7.upd b9 td = O9 at *
            try simp only [Act.put, List.getElem_toArray, List.getElem_cons_zero, List.getElem_cons_succ, List.setIfInBounds_toArray, List.set_cons_zero, List.set_cons_succ]
            refine wpAnyH_ready (rs := [14]) (by kernel_rfl) (by simp) ?_
            refine AllReadyH.cons rfl (fun K hK => ?_) AllReadyH.nil
            go_simp
            refine (Fints_ok (HG.out.chg HC10.out (off_nil _)) [id] HI10.out (by simp) Hi64.out []).mono ?_
            rintro e X11 ⟨v11, ys11, o11, rfl, p1, p2, p3, p4⟩
            obtain ⟨A11, c11, rfl⟩ := newShape p1 p2
            have HV11 := Lib.hid p1
            have HL11 := Lib.hid p2
            have HC12 := Lib.hid (Chg.trans HC10.out p3)
            have HG12 := Lib.hid (HG9.out.keep p3)
            clear p1 p2 p3 p4 HI10 HC10 HG9
            go_wp2_with fail
            refine hK.out _ _ (HS.out _ _ HC12.out) (fun hHeld => ?_)
            clear hK K
            try simp only [Act.put, List.getElem_toArray, List.getElem_cons_zero, List.getElem_cons_succ, List.setIfInBounds_toArray, List.set_cons_zero, List.set_cons_succ]
            refine wpAnyH_ready (rs := [15]) (by kernel_rfl) (by simp) ?_
            refine AllReadyH.cons rfl (fun K hK => ?_) AllReadyH.nil
            obtain ⟨A4, n4, c4, w4, e1, e2⟩ := HG12.out.step (Chg.refl [] _ _) HV11.out.sl (by rw [List.length_map, HL11.out]) (by have := isum_le [id]; simp at this; omega) 42 ⟨_, rfl⟩
            refine step_append_run rfl (.tmp 52) (.tmp 56) 42 42 rfl _ _ rfl rfl _ _ e1 ?_
            refine hK.out _ _ (hSG.out _ _ _ _ e2.out) (fun hHeld => ?_)
            clear hK K
            try simp only [Act.put, List.getElem_toArray, List.getElem_cons_zero, List.getElem_cons_succ, List.setIfInBounds_toArray, List.set_cons_zero, List.set_cons_succ]
            refine wpAnyH_take (i := 16) rfl (by kernel_rfl) (by kernel_rfl) (by kernel_rfl) (fun _ _ _ h => h) (Or.inl ⟨by rfl, fun X hX => by go_simp; with_reducible rfl⟩) (by assumption) ?_
            try simp only [Act.put, List.getElem_toArray, List.getElem_cons_zero, List.getElem_cons_succ, List.setIfInBounds_toArray, List.set_cons_zero, List.set_cons_succ]
            refine wpAnyH_done (by kernel_rfl) ?_ _
            go_wp2
            go_meet
            exact e2.out
          · go_simp
            refine (Fints_ok (HG.out.chg HC8.out (off_nil _)) [id] HI7.out (by simp) Hi64.out []).mono ?_
            rintro e X13 ⟨v13, ys13, o13, rfl, p1, p2, p3, p4⟩
            obtain ⟨A13, c13, rfl⟩ := newShape p1 p2
            have HV13 := Lib.hid p1
            have HL13 := Lib.hid p2
            have HC14 := Lib.hid (Chg.trans HC8.out p3)
            clear p1 p2 p3 p4 HI7 HC8
            go_wp2_with fail
            refine hK.out _ _ (HS.out _ _ HC14.out) (fun hHeld => ?_)
            clear hK K
            try simp only [Act.put, List.getElem_toArray, List.getElem_cons_zero, List.getElem_cons_succ, List.setIfInBounds_toArray, List.set_cons_zero, List.set_cons_succ]
            refine wpAnyH_ready (rs := [10]) (by kernel_rfl) (by simp) ?_
            refine AllReadyH.cons rfl (fun K hK => ?_) AllReadyH.nil
            go_simp
            have hs15 : Chg [] X13 o13 (X13.alloc (.cells #[.int .u8 ((IntKind.u8.wrap (bits .or .i64 (bits .or .i64 10 x1) x2)))] 5)) (o13.upd X13.heap.size td) := ((Chg.refl [] _ _).alloc _).tag (Nat.le_refl _) td
            have HG15 := Lib.hid (oneByte HC14.out ((IntKind.u8.wrap (bits .or .i64 (bits .or .i64 10 x1) x2))) td)
            have HC16 := Lib.hid (Chg.trans HC14.out hs15)
            have HV16 := Lib.hid (HV13.out.chg hs15 (off_nil _))
            clear hs15 HC14 HV13
            refine hK.out _ _ (HS.out _ _ HC16.out) (fun hHeld => ?_)
            clear hK K
            generalize X13.heap.size = b15 at *
            generalize X13.alloc (.cells #[.int .u8 ((IntKind.u8.wrap (bits .or .i64 (bits .or .i64 10 x1) x2)))] 5) = X115 at *
            generalize o13.upd b15 td = O15 at *
            try simp only [Act.put, List.getElem_toArray, List.getElem_cons_zero, List.getElem_cons_succ, List.setIfInBounds_toArray, List.set_cons_zero, List.set_cons_succ]
            refine wpAnyH_ready (rs := [15]) (by kernel_rfl) (by simp) ?_
            refine AllReadyH.cons rfl (fun K hK => ?_) AllReadyH.nil
            obtain ⟨A4, n4, c4, w4, e1, e2⟩ := HG15.out.step (Chg.refl [] _ _) HV16.out.sl (by rw [List.length_map, HL13.out]) (by have := isum_le [id]; simp at this; omega) 42 ⟨_, rfl⟩
            refine step_append_run rfl (.tmp 52) (.tmp 56) 42 42 rfl _ _ rfl rfl _ _ e1 ?_
            refine hK.out _ _ (hSG.out _ _ _ _ e2.out) (fun hHeld => ?_)
            clear hK K
            try simp only [Act.put, List.getElem_toArray, List.getElem_cons_zero, List.getElem_cons_succ, List.setIfInBounds_toArray, List.set_cons_zero, List.set_cons_succ]
            refine wpAnyH_take (i := 16) rfl (by kernel_rfl) (by kernel_rfl) (by kernel_rfl) (fun _ _ _ h => h) (Or.inl ⟨by rfl, fun X hX => by go_simp; with_reducible rfl⟩) (by assumption) ?_
            try simp only [Act.put, List.getElem_toArray, List.getElem_cons_zero, List.getElem_cons_succ, List.setIfInBounds_toArray, List.set_cons_zero, List.set_cons_succ]
            refine wpAnyH_done (by kernel_rfl) ?_ _
            go_wp2
            go_meet
            exact e2.out
      · go_simp
        have hs17 : Chg [] X1 o1 (X1.alloc (.cells #[.int .u64 id] 26)) (o1.upd X1.heap.size []) := ((Chg.refl [] _ _).alloc _).tag (Nat.le_refl _) []
        have HI17 : RowKit.Hid (Sl (X1.alloc (.cells #[.int .u64 id] 26)) (o1.upd X1.heap.size []) [] (.slice (some ⟨X1.heap.size, 0, none⟩) 1 1) ([id].map u64v)) := newInts (W := X1) o1 [id] (by simp)
        have HC18 := Lib.hid (Chg.trans HC1.out hs17)
        clear hs17 HC1
        refine hK.out _ _ (HS.out _ _ HC18.out) (fun hHeld => ?_)
        clear hK K
        generalize X1.heap.size = b17 at *
        generalize X1.alloc (.cells #[.int .u64 id] 26) = X117 at *
        generalize o1.upd b17 [] = O17 at *
        try simp only [Act.put, List.getElem_toArray, List.getElem_cons_zero, List.getElem_cons_succ, List.setIfInBounds_toArray, List.set_cons_zero, List.set_cons_succ]
        refine wpAnyH_ready (rs := [7]) (by kernel_rfl) (by simp) ?_
        refine AllReadyH.cons rfl (fun K hK => ?_) AllReadyH.nil
        go_simp
        refine (Fbit_any _ _ _).mono ?_
        rintro e w' ⟨x2, rfl, rfl⟩
        go_wp2_with fail
        refine hK.out _ _ (hHeld) (fun hHeld => ?_)
        clear hK K
        try simp only [Act.put, List.getElem_toArray, List.getElem_cons_zero, List.getElem_cons_succ, List.setIfInBounds_toArray, List.set_cons_zero, List.set_cons_succ]
        refine wpAnyH_take (i := 8) rfl (by kernel_rfl) (by kernel_rfl) (by kernel_rfl) (fun _ _ _ h => h) (Or.inl ⟨by rfl, fun X hX => by go_simp; with_reducible rfl⟩) (by assumption) ?_
        try simp only [Act.put, List.getElem_toArray, List.getElem_cons_zero, List.getElem_cons_succ, List.setIfInBounds_toArray, List.set_cons_zero, List.set_cons_succ]
        refine wpAnyH_take (i := 9) rfl (by kernel_rfl) (by kernel_rfl) (by kernel_rfl) (fun _ _ _ h => h) (Or.inl ⟨by rfl, fun X hX => by go_simp; with_reducible rfl⟩) (by assumption) ?_
        try simp only [Act.put, List.getElem_toArray, List.getElem_cons_zero, List.getElem_cons_succ, List.setIfInBounds_toArray, List.set_cons_zero, List.set_cons_succ]
        refine wpAnyH_ready (rs := [10, 14]) (by kernel_rfl) (by simp) ?_
        refine AllReadyH.cons rfl (fun K hK => ?_) (AllReadyH.cons rfl (fun K hK => ?_) AllReadyH.nil)
        · go_simp
          have hs19 : Chg [] X117 O17 (X117.alloc (.cells #[.int .u8 ((IntKind.u8.wrap (bits .or .i64 (bits .or .i64 10 x1) x2)))] 5)) (O17.upd X117.heap.size td) := ((Chg.refl [] _ _).alloc _).tag (Nat.le_refl _) td
          have HG19 := Lib.hid (oneByte HC18.out ((IntKind.u8.wrap (bits .or .i64 (bits .or .i64 10 x1) x2))) td)
          have HC20 := Lib.hid (Chg.trans HC18.out hs19)
          have HI20 := Lib.hid (HI17.out.chg hs19 (off_nil _))
          clear hs19 HC18 HI17
          refine hK.out _ _ (HS.out _ _ HC20.out) (fun hHeld => ?_)
          clear hK K
          generalize X117.heap.size = b19 at *
          generalize X117.alloc (.cells #[.int .u8 ((IntKind.u8.wrap (bits .or .i64 (bits .or .i64 10 x1) x2)))] 5) = X119 at *
          generalize O17.upd b19 td = O19 at *
          try simp only [Act.put, List.getElem_toArray, List.getElem_cons_zero, List.getElem_cons_succ, List.setIfInBounds_toArray, List.set_cons_zero, List.set_cons_succ]
          refine wpAnyH_ready (rs := [14]) (by kernel_rfl) (by simp) ?_
          refine AllReadyH.cons rfl (fun K hK => ?_) AllReadyH.nil
          go_simp
          refine (Fints_ok (HG.out.chg HC20.out (off_nil _)) [id] HI20.out (by simp) Hi64.out []).mono ?_
          rintro e w21 ⟨v21, ys21, o21, rfl, p1, p2, p3, p4⟩
          obtain ⟨A21, c21, rfl⟩ := newShape p1 p2
          have HV21 := Lib.hid p1
          have HL21 := Lib.hid p2
          have HC22 := Lib.hid (Chg.trans HC20.out p3)
          have HG22 := Lib.hid (HG19.out.keep p3)
          clear p1 p2 p3 p4 HI20 HC20 HG19
          go_wp2_with fail
          refine hK.out _ _ (HS.out _ _ HC22.out) (fun hHeld => ?_)
          clear hK K
          try simp only [Act.put, List.getElem_toArray, List.getElem_cons_zero, List.getElem_cons_succ, List.setIfInBounds_toArray, List.set_cons_zero, List.set_cons_succ]
          refine wpAnyH_ready (rs := [15]) (by kernel_rfl) (by simp) ?_
          refine AllReadyH.cons rfl (fun K hK => ?_) AllReadyH.nil
          obtain ⟨A4, n4, c4, w4, e1, e2⟩ := HG22.out.step (Chg.refl [] _ _) HV21.out.sl (by rw [List.length_map, HL21.out]) (by have := isum_le [id]; simp at this; omega) 42 ⟨_, rfl⟩
          refine step_append_run rfl (.tmp 52) (.tmp 56) 42 42 rfl _ _ rfl rfl _ _ e1 ?_
          refine hK.out _ _ (hSG.out _ _ _ _ e2.out) (fun hHeld => ?_)
          clear hK K
          try simp only [Act.put, List.getElem_toArray, List.getElem_cons_zero, List.getElem_cons_succ, List.setIfInBounds_toArray, List.set_cons_zero, List.set_cons_succ]
          refine wpAnyH_take (i := 16) rfl (by kernel_rfl) (by kernel_rfl) (by kernel_rfl) (fun _ _ _ h => h) (Or.inl ⟨by rfl, fun X hX => by go_simp; with_reducible rfl⟩) (by assumption) ?_
          try simp only [Act.put, List.getElem_toArray, List.getElem_cons_zero, List.getElem_cons_succ, List.setIfInBounds_toArray, List.set_cons_zero, List.set_cons_succ]
          refine wpAnyH_done (by kernel_rfl) ?_ _
          go_wp2
          go_meet
          exact e2.out
        · go_simp
          refine (Fints_ok (HG.out.chg HC18.out (off_nil _)) [id] HI17.out (by simp) Hi64.out []).mono ?_
          rintro e w23 ⟨v23, ys23, o23, rfl, p1, p2, p3, p4⟩
          obtain ⟨A23, c23, rfl⟩ := newShape p1 p2
          have HV23 := Lib.hid p1
          have HL23 := Lib.hid p2
          have HC24 := Lib.hid (Chg.trans HC18.out p3)
          clear p1 p2 p3 p4 HI17 HC18
          go_wp2_with fail
          refine hK.out _ _ (HS.out _ _ HC24.out) (fun hHeld => ?_)
          clear hK K
          try simp only [Act.put, List.getElem_toArray, List.getElem_cons_zero, List.getElem_cons_succ, List.setIfInBounds_toArray, List.set_cons_zero, List.set_cons_succ]
          refine wpAnyH_ready (rs := [10]) (by kernel_rfl) (by simp) ?_
          refine AllReadyH.cons rfl (fun K hK => ?_) AllReadyH.nil
          go_simp
          have hs25 : Chg [] w23 o23 (w23.alloc (.cells #[.int .u8 ((IntKind.u8.wrap (bits .or .i64 (bits .or .i64 10 x1) x2)))] 5)) (o23.upd w23.heap.size td) := ((Chg.refl [] _ _).alloc _).tag (Nat.le_refl _) td
          have HG25 := Lib.hid (oneByte HC24.out ((IntKind.u8.wrap (bits .or .i64 (bits .or .i64 10 x1) x2))) td)
          have HC26 := Lib.hid (Chg.trans HC24.out hs25)
          have HV26 := Lib.hid (HV23.out.chg hs25 (off_nil _))
          clear hs25 HC24 HV23
          refine hK.out _ _ (HS.out _ _ HC26.out) (fun hHeld => ?_)
          clear hK K
          generalize w23.heap.size = b25 at *
          generalize w23.alloc (.cells #[.int .u8 ((IntKind.u8.wrap (bits .or .i64 (bits .or .i64 10 x1) x2)))] 5) = X125 at *
          generalize o23.upd b25 td = O25 at *
          try simp only [Act.put, List.getElem_toArray, List.getElem_cons_zero, List.getElem_cons_succ, List.setIfInBounds_toArray, List.set_cons_zero, List.set_cons_succ]
          refine wpAnyH_ready (rs := [15]) (by kernel_rfl) (by simp) ?_
          refine AllReadyH.cons rfl (fun K hK => ?_) AllReadyH.nil
          obtain ⟨A4, n4, c4, w4, e1, e2⟩ := HG25.out.step (Chg.refl [] _ _) HV26.out.sl (by rw [List.length_map, HL23.out]) (by have := isum_le [id]; simp at this; omega) 42 ⟨_, rfl⟩
          refine step_append_run rfl (.tmp 52) (.tmp 56) 42 42 rfl _ _ rfl rfl _ _ e1 ?_
          refine hK.out _ _ (hSG.out _ _ _ _ e2.out) (fun hHeld => ?_)
          clear hK K
          try simp only [Act.put, List.getElem_toArray, List.getElem_cons_zero, List.getElem_cons_succ, List.setIfInBounds_toArray, List.set_cons_zero, List.set_cons_succ]
          refine wpAnyH_take (i := 16) rfl (by kernel_rfl) (by kernel_rfl) (by kernel_rfl) (fun _ _ _ h => h) (Or.inl ⟨by rfl, fun X hX => by go_simp; with_reducible rfl⟩) (by assumption) ?_
          try simp only [Act.put, List.getElem_toArray, List.getElem_cons_zero, List.getElem_cons_succ, List.setIfInBounds_toArray, List.set_cons_zero, List.set_cons_succ]
          refine wpAnyH_done (by kernel_rfl) ?_ _
          go_wp2
          go_meet
          exact e2.out
    · go_simp
      have hs27 : Chg [] X1 o1 (X1.alloc (.cells #[.int .u64 id] 26)) (o1.upd X1.heap.size []) := ((Chg.refl [] _ _).alloc _).tag (Nat.le_refl _) []
      have HI27 : RowKit.Hid (Sl (X1.alloc (.cells #[.int .u64 id] 26)) (o1.upd X1.heap.size []) [] (.slice (some ⟨X1.heap.size, 0, none⟩) 1 1) ([id].map u64v)) := newInts (W := X1) o1 [id] (by simp)
      have HC28 := Lib.hid (Chg.trans HC1.out hs27)
      clear hs27 HC1
      refine hK.out _ _ (HS.out _ _ HC28.out) (fun hHeld => ?_)
      clear hK K
      generalize X1.heap.size = b27 at *
      generalize X1.alloc (.cells #[.int .u64 id] 26) = X127 at *
      generalize o1.upd b27 [] = O27 at *
      try simp only [Act.put, List.getElem_toArray, List.getElem_cons_zero, List.getElem_cons_succ, List.setIfInBounds_toArray, List.set_cons_zero, List.set_cons_succ]
      refine wpAnyH_ready (rs := [3]) (by kernel_rfl) (by simp) ?_
      refine AllReadyH.cons rfl (fun K hK => ?_) AllReadyH.nil
      go_simp
      refine (Fbit_any _ _ _).mono ?_
      rintro e w' ⟨x1, rfl, rfl⟩
      go_wp2_with fail
      refine hK.out _ _ (hHeld) (fun hHeld => ?_)
      clear hK K
      try simp only [Act.put, List.getElem_toArray, List.getElem_cons_zero, List.getElem_cons_succ, List.setIfInBounds_toArray, List.set_cons_zero, List.set_cons_succ]
      refine wpAnyH_take (i := 4) rfl (by kernel_rfl) (by kernel_rfl) (by kernel_rfl) (fun _ _ _ h => h) (Or.inl ⟨by rfl, fun X hX => by go_simp; with_reducible rfl⟩) (by assumption) ?_
      try simp only [Act.put, List.getElem_toArray, List.getElem_cons_zero, List.getElem_cons_succ, List.setIfInBounds_toArray, List.set_cons_zero, List.set_cons_succ]
      refine wpAnyH_ready (rs := [7]) (by kernel_rfl) (by simp) ?_
      refine AllReadyH.cons rfl (fun K hK => ?_) AllReadyH.nil
      go_simp
      refine (Fbit_any _ _ _).mono ?_
      rintro e w' ⟨x2, rfl, rfl⟩
      go_wp2_with fail
      refine hK.out _ _ (hHeld) (fun hHeld => ?_)
      clear hK K
      try simp only [Act.put, List.getElem_toArray, List.getElem_cons_zero, List.getElem_cons_succ, List.setIfInBounds_toArray, List.set_cons_zero, List.set_cons_succ]
      refine wpAnyH_take (i := 8) rfl (by kernel_rfl) (by kernel_rfl) (by kernel_rfl) (fun _ _ _ h => h) (Or.inl ⟨by rfl, fun X hX => by go_simp; with_reducible rfl⟩) (by assumption) ?_
      try simp only [Act.put, List.getElem_toArray, List.getElem_cons_zero, List.getElem_cons_succ, List.setIfInBounds_toArray, List.set_cons_zero, List.set_cons_succ]
      refine wpAnyH_take (i := 9) rfl (by kernel_rfl) (by kernel_rfl) (by kernel_rfl) (fun _ _ _ h => h) (Or.inl ⟨by rfl, fun X hX => by go_simp; with_reducible rfl⟩) (by assumption) ?_
      try simp only [Act.put, List.getElem_toArray, List.getElem_cons_zero, List.getElem_cons_succ, List.setIfInBounds_toArray, List.set_cons_zero, List.set_cons_succ]
      refine wpAnyH_ready (rs := [10, 14]) (by kernel_rfl) (by simp) ?_
      refine AllReadyH.cons rfl (fun K hK => ?_) (AllReadyH.cons rfl (fun K hK => ?_) AllReadyH.nil)
      · go_simp
        have hs29 : Chg [] X127 O27 (X127.alloc (.cells #[.int .u8 ((IntKind.u8.wrap (bits .or .i64 (bits .or .i64 10 x1) x2)))] 5)) (O27.upd X127.heap.size td) := ((Chg.refl [] _ _).alloc _).tag (Nat.le_refl _) td
        have HG29 := Lib.hid (oneByte HC28.out ((IntKind.u8.wrap (bits .or .i64 (bits .or .i64 10 x1) x2))) td)
        have HC30 := Lib.hid (Chg.trans HC28.out hs29)
        have HI30 := Lib.hid (HI27.out.chg hs29 (off_nil _))
        clear hs29 HC28 HI27
        refine hK.out _ _ (HS.out _ _ HC30.out) (fun hHeld => ?_)
        clear hK K
        generalize X127.heap.size = b29 at *
        generalize X127.alloc (.cells #[.int .u8 ((IntKind.u8.wrap (bits .or .i64 (bits .or .i64 10 x1) x2)))] 5) = X129 at *
        generalize O27.upd b29 td = O29 at *
        try simp only [Act.put, List.getElem_toArray, List.getElem_cons_zero, List.getElem_cons_succ, List.setIfInBounds_toArray, List.set_cons_zero, List.set_cons_succ]
        refine wpAnyH_ready (rs := [14]) (by kernel_rfl) (by simp) ?_
        refine AllReadyH.cons rfl (fun K hK => ?_) AllReadyH.nil
        go_simp
        refine (Fints_ok (HG.out.chg HC30.out (off_nil _)) [id] HI30.out (by simp) Hi64.out []).mono ?_
        rintro e w31 ⟨v31, ys31, o31, rfl, p1, p2, p3, p4⟩
        obtain ⟨A31, c31, rfl⟩ := newShape p1 p2
        have HV31 := Lib.hid p1
        have HL31 := Lib.hid p2
        have HC32 := Lib.hid (Chg.trans HC30.out p3)
        have HG32 := Lib.hid (HG29.out.keep p3)
        clear p1 p2 p3 p4 HI30 HC30 HG29
        go_wp2_with fail
        refine hK.out _ _ (HS.out _ _ HC32.out) (fun hHeld => ?_)
        clear hK K
        try simp only [Act.put, List.getElem_toArray, List.getElem_cons_zero, List.getElem_cons_succ, List.setIfInBounds_toArray, List.set_cons_zero, List.set_cons_succ]
        refine wpAnyH_ready (rs := [15]) (by kernel_rfl) (by simp) ?_
        refine AllReadyH.cons rfl (fun K hK => ?_) AllReadyH.nil
        obtain ⟨A4, n4, c4, w4, e1, e2⟩ := HG32.out.step (Chg.refl [] _ _) HV31.out.sl (by rw [List.length_map, HL31.out]) (by have := isum_le [id]; simp at this; omega) 42 ⟨_, rfl⟩
        refine step_append_run rfl (.tmp 52) (.tmp 56) 42 42 rfl _ _ rfl rfl _ _ e1 ?_
        refine hK.out _ _ (hSG.out _ _ _ _ e2.out) (fun hHeld => ?_)
        clear hK K
        try simp only [Act.put, List.getElem_toArray, List.getElem_cons_zero, List.getElem_cons_succ, List.setIfInBounds_toArray, List.set_cons_zero, List.set_cons_succ]
        refine wpAnyH_take (i := 16) rfl (by kernel_rfl) (by kernel_rfl) (by kernel_rfl) (fun _ _ _ h => h) (Or.inl ⟨by rfl, fun X hX => by go_simp; with_reducible rfl⟩) (by assumption) ?_
        try simp only [Act.put, List.getElem_toArray, List.getElem_cons_zero, List.getElem_cons_succ, List.setIfInBounds_toArray, List.set_cons_zero, List.set_cons_succ]
        refine wpAnyH_done (by kernel_rfl) ?_ _
        go_wp2
        go_meet
        exact e2.out
      · go_simp
        refine (Fints_ok (HG.out.chg HC28.out (off_nil _)) [id] HI27.out (by simp) Hi64.out []).mono ?_
        rintro e w33 ⟨v33, ys33, o33, rfl, p1, p2, p3, p4⟩
        obtain ⟨A33, c33, rfl⟩ := newShape p1 p2
        have HV33 := Lib.hid p1
        have HL33 := Lib.hid p2
        have HC34 := Lib.hid (Chg.trans HC28.out p3)
        clear p1 p2 p3 p4 HI27 HC28
        go_wp2_with fail
        refine hK.out _ _ (HS.out _ _ HC34.out) (fun hHeld => ?_)
        clear hK K
        try simp only [Act.put, List.getElem_toArray, List.getElem_cons_zero, List.getElem_cons_succ, List.setIfInBounds_toArray, List.set_cons_zero, List.set_cons_succ]
        refine wpAnyH_ready (rs := [10]) (by kernel_rfl) (by simp) ?_
        refine AllReadyH.cons rfl (fun K hK => ?_) AllReadyH.nil
        go_simp
        have hs35 : Chg [] w33 o33 (w33.alloc (.cells #[.int .u8 ((IntKind.u8.wrap (bits .or .i64 (bits .or .i64 10 x1) x2)))] 5)) (o33.upd w33.heap.size td) := ((Chg.refl [] _ _).alloc _).tag (Nat.le_refl _) td
        have HG35 := Lib.hid (oneByte HC34.out ((IntKind.u8.wrap (bits .or .i64 (bits .or .i64 10 x1) x2))) td)
        have HC36 := Lib.hid (Chg.trans HC34.out hs35)
        have HV36 := Lib.hid (HV33.out.chg hs35 (off_nil _))
        clear hs35 HC34 HV33
        refine hK.out _ _ (HS.out _ _ HC36.out) (fun hHeld => ?_)
        clear hK K
        generalize w33.heap.size = b35 at *
        generalize w33.alloc (.cells #[.int .u8 ((IntKind.u8.wrap (bits .or .i64 (bits .or .i64 10 x1) x2)))] 5) = X135 at *
        generalize o33.upd b35 td = O35 at *
        try simp only [Act.put, List.getElem_toArray, List.getElem_cons_zero, List.getElem_cons_succ, List.setIfInBounds_toArray, List.set_cons_zero, List.set_cons_succ]
        refine wpAnyH_ready (rs := [15]) (by kernel_rfl) (by simp) ?_
        refine AllReadyH.cons rfl (fun K hK => ?_) AllReadyH.nil
        obtain ⟨A4, n4, c4, w4, e1, e2⟩ := HG35.out.step (Chg.refl [] _ _) HV36.out.sl (by rw [List.length_map, HL33.out]) (by have := isum_le [id]; simp at this; omega) 42 ⟨_, rfl⟩
        refine step_append_run rfl (.tmp 52) (.tmp 56) 42 42 rfl _ _ rfl rfl _ _ e1 ?_
        refine hK.out _ _ (hSG.out _ _ _ _ e2.out) (fun hHeld => ?_)
        clear hK K
        try simp only [Act.put, List.getElem_toArray, List.getElem_cons_zero, List.getElem_cons_succ, List.setIfInBounds_toArray, List.set_cons_zero, List.set_cons_succ]
        refine wpAnyH_take (i := 16) rfl (by kernel_rfl) (by kernel_rfl) (by kernel_rfl) (fun _ _ _ h => h) (Or.inl ⟨by rfl, fun X hX => by go_simp; with_reducible rfl⟩) (by assumption) ?_
        try simp only [Act.put, List.getElem_toArray, List.getElem_cons_zero, List.getElem_cons_succ, List.setIfInBounds_toArray, List.set_cons_zero, List.set_cons_succ]
        refine wpAnyH_done (by kernel_rfl) ?_ _
        go_wp2
        go_meet
        exact e2.out
  obtain ⟨o2, hG2⟩ := hcut.out
  obtain ⟨A2, c2, rfl⟩ := GatherB.shape ⟨o2, hG2⟩
  have hC2 := hG2.chg
  have a2 : wc.cell? ⟨w.heap.size, 2, none⟩ = some (.int .u64 a) := hkk.out _ _ hC2 2
  have HG2 := Lib.hid hG2; have HC2 := Lib.hid hC2
  have HGT := Lib.hid ((HG.out.chg hch0.out (off_nil _)).chg hC2 (off_nil _))
  clear hcut k1 hC2 hG2 hrg Hsz hk8 HR HC1
  have Hv : RowKit.Hid (1 + isum [id] = 1 + vsize id) := by show _ = _; simp [isum]
  rw [Hv.out] at HG2
  clear Hv
  go_upto_if 60 with fail
  generalize hbz : decide (0 < a) = bz
  have Hbz := Lib.hid hbz
  clear hbz
  go_cut [4] from 61 (fun v wx => RowKit.Hid (GatherB W o td (1 + vsize id + alen a) v wx))
  case first =>
    cases bz
    · have H0 : RowKit.Hid (a = 0) := by have := Hbz.out; rw [decide_eq_false_iff_not] at this; show a = 0; omega
      go_wp2
      go_meet
      rw [show alen a = 0 from if_pos H0.out]
      exact ⟨o2, HG2.out⟩
    · have H0 : RowKit.Hid (¬ a = 0) := by have := Hbz.out; rw [decide_eq_true_eq] at this; show ¬ a = 0; omega
      have hs : Chg [] wc o2 (wc.alloc (.cells #[.int .u64 a] 26)) (o2.upd wc.heap.size []) := ((Chg.refl [] _ _).alloc _).tag (Nat.le_refl _) []
      have HI : RowKit.Hid (Sl (wc.alloc (.cells #[.int .u64 a] 26)) (o2.upd wc.heap.size []) [] (.slice (some ⟨wc.heap.size, 0, none⟩) 1 1) ([a].map u64v)) := newInts (W := wc) o2 [a] (by simp)
      have Ha64 : RowKit.Hid (∀ n ∈ [a], n < 18446744073709551616) := by intro n hn; simp only [List.mem_cons, List.not_mem_nil, or_false] at hn; subst hn; have := Ha.out; omega
      have HF := Lib.hid (Fints_ok (HGT.out.chg hs (off_nil _)) [a] HI.out (by simp) Ha64.out [])
      have Hs := Lib.hid hs
      unfold NewB at HF
      clear hs HI
      go_wp2_with (first
        | (go_at_call 65; refine HF.out.mono ?_; rintro e w3 ⟨v3, ys, o3, rfl, p1, p2, p3, p4⟩; obtain ⟨A3, c3, rfl⟩ := newShape p1 p2; obtain ⟨A4, n4, c4, w4, e1, e2⟩ := HG2.out.step (Hs.out.trans p3) p1.sl (by rw [List.length_map, p2]) (by have h1 := isum_le [a]; have h2 := vsize_le id; simp at h1; omega) 42 ⟨_, rfl⟩; clear p1 p2 p3 p4)
        | (at_builtin; refine Lib.wpList_append_run _ rfl _ _ _ _ rfl _ _ rfl rfl _ _ e1 ?_))
      go_meet
      rw [show alen a = vsize a from if_neg H0.out]
      have e3 : 1 + vsize id + isum [a] = 1 + vsize id + vsize a := by simp [isum]
      rw [e3] at e2
      exact e2
  obtain ⟨o5, hG5⟩ := hcut.out
  obtain ⟨A5, c5, rfl⟩ := GatherB.shape ⟨o5, hG5⟩
  have hC5 := hG5.chg
  obtain ⟨Ad, cd, rfl⟩ := Hd.out.shapeB
  have a6 : wc.cell? ⟨w.heap.size, 6, none⟩ = some (.slice Ad d.length cd) := hkk.out _ _ hC5 6
  have HF := Lib.hid (Fdata_ok ((HG.out.chg hch0.out (off_nil _)).chg hC5 (off_nil _)) d ((Hd.out.chg hch0.out (off_nil _)).chg hC5 (off_nil _)) (by have := Hl.out; omega) [])
  have HG5 := Lib.hid hG5
  unfold NewB at HF
  clear hcut hC5 hG5 HGT a2 HG2 HC2
  go_wp2_with (first
    | (go_at_call 66; refine HF.out.mono ?_; rintro e w3 ⟨v3, ys, o3, rfl, p1, p2, p3, p4⟩; obtain ⟨A3, c3, rfl⟩ := newShape p1 p2; obtain ⟨A4, n4, c4, w4, e1, e2⟩ := HG5.out.step p3 p1.sl (by rw [List.length_map, p2]) (by have := vsize_le id; have := alen_le a; have := vsize_le d.length; have := Hl.out; omega) 42 ⟨_, rfl⟩; clear p1 p2 p3 p4)
    | (at_builtin; refine Lib.wpList_append_run _ rfl _ _ _ _ rfl _ _ rfl rfl _ _ e1 ?_))
  go_ret
  exact NewB.from hch0.out e2.out.done
end Go.Proofs.YthliihmhkhabeaaGreatDoor
