/- What package outflow's functions do to a buffer, IV. Conditions: the buffer is as its functions leave it (Out.Wf). -/
import Derived.Test.YthliihmhkhabeaaGreatDoorIds03
import Derived.Deep.DeepCutAuto
namespace Go.Proofs.YthliihmhkhabeaaGreatDoor
open Go Go.RowKit

theorem results_tmp4 {fn : Func} {t u x y : Tmp} (h : fn.results = #[.tmp t, .tmp u, .tmp x, .tmp y]) (tmps : Array Value) (P : Program) (w : World) :
    (results fn tmps).run P w = .ok (.tuple #[tmps.getD t undef, tmps.getD u undef, tmps.getD x undef, tmps.getD y undef]) w := by
  simp [results, h]

theorem OutRep.chg {w w' : World} {o o' : Own} {t : Tag} {k : Nat} {O : Out} {L : List Tag} (h : OutRep w o t k O) (hc : Chg L w o w' o') (h0 : off L t) (h1 : off L (0 :: t)) (h2 : off L (1 :: t)) : OutRep w' o' t k O := by
  obtain ⟨hw, vb, vs, hat, hrb, hrs⟩ := h
  exact ⟨hw, vb, vs, hat.chg hc h0, hrb.chg hc h1, hrs.chg hc h2⟩
theorem OutRep.drewN {w : World} {o : Own} {t : Tag} {k : Nat} {O : Out} (h : OutRep w o t k O) (n : Nat) : OutRep (w.drewN n) o t k O :=
  h.chg ((Chg.refl [] w o).drewN n) (off_nil _) (off_nil _) (off_nil _)

theorem drew_more {w w' : World} {n m : Nat} (h : w' = (w.drewN n).drewN m) : ∃ k, w' = w.drewN k := ⟨n + m, by rw [h, World.drewN_drewN]⟩

def Out.pick (O : Out) (many : Nat) : Nat × Nat × Bool := if (O.run 2 O.s.length many).2.2 then O.run 2 O.s.length many else O.run 0 O.open_ many
def Out.opens (O : Out) : Bool := O.fin && (O.en == 0 || O.en == 2)
def Out.due (O : Out) (many : Nat) : Nat × Nat × Bool × Bool :=
  if (O.pick many).2.2 then ((O.pick many).1, (O.pick many).2.1, O.opens && decide ((O.pick many).2.1 = O.s.length), true)
  else if O.opens && !decide (0 ∈ O.s) then (O.s.length, O.s.length, true, true) else (0, 0, false, false)

set_option maxHeartbeats 1000000 in
set_option maxRecDepth 100000 in
theorem Odue_ok {w : World} {o : Own} {t : Tag} {k : Nat} {O : Out} (h : OutRep w o t k O) (many : Nat) (hm1 : 1 ≤ many) (hm2 : many ≤ 1000000000) :
    Calls Tryz.prog 144 #[.pointer (some ⟨k, 0, none⟩), .int .i64 many] w fun e w' => e = .returned (.tuple #[.int .i64 (O.due many).1, .int .i64 (O.due many).2.1, .bool (O.due many).2.2.1, .bool (O.due many).2.2.2]) ∧ ∃ n, w' = w.drewN n := by
  have C1 := Lib.hid (Orun_ok h 2 O.s.length many (by omega) (Nat.le_refl _) hm1 hm2)
  have C2 := Lib.hid (fun n => Oopen_ok (h.drewN n))
  have C3 := Lib.hid (fun n => Orun_ok (h.drewN n) 0 O.open_ many (by omega) (Nat.min_le_left _ _) hm1 hm2)
  obtain ⟨hw, vb, vs, hat, hrb, hrs⟩ := h
  have C4 := Lib.hid (fun n => IndexByte_ok (xs := O.s) 0 0 rfl (fun x hx => by have := hw.st x hx; omega) (by omega) (hrs.drewN n).sl)
  have hc := hat.cells
  have hl : O.s.length ≤ 2000 := by have := hw.len; have := hw.most; omega
  obtain ⟨A, c, rfl⟩ := hrs.sl.shapeB
  have Hen := Lib.hid hw.en4
  generalize hr : O.due many = r
  unfold Out.due at hr
  have hq : (∃ x y z, O.pick many = (x, y, z)) := ⟨_, _, _, rfl⟩
  obtain ⟨a, tt, b, e0⟩ := hq
  have Hp := Lib.hid e0
  rw [e0] at hr
  have hq : (∃ x y z, O.run 2 O.s.length many = (x, y, z)) := ⟨_, _, _, rfl⟩
  obtain ⟨a1, t1, b1, e1⟩ := hq
  have hq : (∃ x y z, O.run 0 O.open_ many = (x, y, z)) := ⟨_, _, _, rfl⟩
  obtain ⟨a2, t2, b2, e2⟩ := hq
  unfold Out.pick at Hp
  rw [e1] at C1 Hp
  rw [e2] at C3 Hp
  clear e0 e1 e2 hat hrb hrs
  generalize O.open_ = op at *
  generalize hob : O.opens = ob at *
  have Hob' := Lib.hid hob; clear hob
  have Hr := Lib.hid hr; clear hr
  go_enter Tryz.func144, Tryz.ntmps144
  go_upto_region 1 with fail
  go_cut [8] (fun s8 wx => s8 = .bool ob ∧ w = wx)
  case first =>
    have hen := Hen.out
    rcases (by omega : O.en = 0 ∨ O.en = 1 ∨ O.en = 2 ∨ O.en = 3) with h0 | h0 | h0 | h0
    all_goals
      cases hfin : O.fin
      all_goals
        have hob := Hob'.out
        unfold Out.opens at hob
        rw [hfin, h0] at hc hob
        have HO := Lib.hid hob; clear hob h0 hfin
        go_wp2
        go_meet
        exact ⟨by rw [← HO.out]; rfl, rfl⟩
  case rest =>
    obtain ⟨rfl, rfl⟩ := hcut
    go_upto_if 43 with (go_at_call 174; refine C1.out.mono ?_; rintro e w' ⟨rfl, n1, rfl⟩)
    go_cut [9, 10, 11] (fun s9 s10 s11 wx => s9 = .int .i64 a ∧ s10 = .int .i64 tt ∧ s11 = .bool b ∧ ∃ n, wx = w.drewN n)
    case first =>
      cases b1 with
      | true =>
        go_wp2
        go_meet
        have hp : (a1, t1, true) = (a, tt, b) := by simpa using Hp.out
        injection hp with h1 h2
        injection h2 with h2 h3
        exact ⟨by rw [h1], by rw [h2], by rw [h3], _, rfl⟩
      | false =>
        go_wp2_with (first
          | (go_at_call 175; refine (C2.out n1).mono ?_; rintro e w' ⟨rfl, n2, rfl⟩; simp only [World.drewN_drewN])
          | (go_at_call 174; refine (C3.out _).mono ?_; rintro e w' ⟨rfl, n3, rfl⟩; simp only [World.drewN_drewN]))
        go_meet
        have hp : (a2, t2, b2) = (a, tt, b) := by simpa using Hp.out
        injection hp with h1 h2
        injection h2 with h2 h3
        exact ⟨by rw [h1], by rw [h2], by rw [h3], _, rfl⟩
    case rest =>
      obtain ⟨rfl, rfl, rfl, n, rfl⟩ := hcut
      clear Hp Hob' C1 C2 C3
      cases b with
      | true =>
        cases ob with
        | true =>
          by_cases ht : tt = O.s.length
          · obtain rfl : (a, tt, true, true) = r := by rw [← Hr.out]; simp [ht]
            subst ht
            clear Hr
            go_wp2
            go_quiet (fail)
            go_wp2
            refine bodyPost_ret (results_tmp4 rfl _ _ _) rfl ?_
            exact ⟨by simp, _, rfl⟩
          · obtain rfl : (a, tt, false, true) = r := by rw [← Hr.out]; simp [ht]
            clear Hr
            have hti : ((tt : Int) == O.s.length) = false := by simp; omega
            go_wp2
            go_quiet (fail)
            go_wp2
            refine bodyPost_ret (results_tmp4 rfl _ _ _) rfl ?_
            exact ⟨by simp, _, rfl⟩
        | false =>
          obtain rfl : (a, tt, false, true) = r := by rw [← Hr.out]; simp
          clear Hr
          go_wp2
          go_quiet (fail)
          go_wp2
          refine bodyPost_ret (results_tmp4 rfl _ _ _) rfl ?_
          exact ⟨rfl, _, rfl⟩
      | false =>
        cases ob with
        | true =>
          have c4 := C4.out n
          by_cases hm : 0 ∈ O.s
          · obtain rfl : (0, 0, false, false) = r := by rw [← Hr.out]; simp [hm]
            simp only [idxI, if_pos hm] at c4
            have c4' := Lib.hid c4; clear c4 hm Hr
            go_wp2_with (go_at_call 143; refine c4'.out.mono ?_; rintro e w' ⟨rfl, rfl⟩)
            refine bodyPost_ret (results_tmp4 rfl _ _ _) rfl ?_
            exact ⟨rfl, _, rfl⟩
          · obtain rfl : (O.s.length, O.s.length, true, true) = r := by rw [← Hr.out]; simp [hm]
            simp only [idxI, if_neg hm] at c4
            have c4' := Lib.hid c4; clear c4 hm Hr
            go_wp2_with (go_at_call 143; refine c4'.out.mono ?_; rintro e w' ⟨rfl, rfl⟩)
            go_quiet (fail)
            go_wp2
            refine bodyPost_ret (results_tmp4 rfl _ _ _) rfl ?_
            exact ⟨rfl, _, rfl⟩
        | false =>
          obtain rfl : (0, 0, false, false) = r := by rw [← Hr.out]; simp
          clear Hr
          go_wp2
          refine bodyPost_ret (results_tmp4 rfl _ _ _) rfl ?_
          exact ⟨rfl, _, rfl⟩
end Go.Proofs.YthliihmhkhabeaaGreatDoor
/- What package outflow's functions do to a buffer, V. Conditions: the buffer is as its functions leave it (Out.Wf). -/
namespace Go.Proofs.YthliihmhkhabeaaGreatDoor
open Go Go.RowKit

theorem Out.run_le (O : Out) (st top many : Nat) (htop : top ≤ O.s.length) : (O.run st top many).1 ≤ (O.run st top many).2.1 ∧ (O.run st top many).2.1 ≤ O.s.length := by
  unfold Out.run
  split
  · rename_i h
    have h1 := List.idxOf_lt_length_of_mem h
    have h2 : (O.runl st top many).length ≤ (((O.s.take top).drop ((O.s.take top).idxOf st)).take many).length := (List.takeWhile_sublist _).length_le
    simp at h1 h2 ⊢
    omega
  · simp
theorem Out.due_le (O : Out) (many : Nat) : (O.due many).1 ≤ (O.due many).2.1 ∧ (O.due many).2.1 ≤ O.s.length := by
  have hp : (O.pick many).1 ≤ (O.pick many).2.1 ∧ (O.pick many).2.1 ≤ O.s.length := by
    unfold Out.pick
    split
    · exact O.run_le _ _ _ (Nat.le_refl _)
    · exact O.run_le _ _ _ (Nat.min_le_left _ _)
  unfold Out.due
  split
  · exact hp
  · split <;> simp

def Out.next (O : Out) (many : Nat) : Out × Nat × List Nat × Bool × Bool :=
  ({ O with s := markF O.s (O.due many).1 (O.due many).2.1 (fun _ => 1), en := if (O.due many).2.2.1 then 1 else O.en },
   (O.due many).1, (O.b.take (O.due many).2.1).drop (O.due many).1, (O.due many).2.2.1, (O.due many).2.2.2)

theorem mem_markF {xs : List Nat} {a b : Nat} {f : Nat → Nat} {x : Nat} (h : x ∈ markF xs a b f) : ∃ y ∈ xs, x = y ∨ x = f y := by
  obtain ⟨i, hi, rfl⟩ := List.mem_iff_getElem.1 h
  simp only [markF, List.length_mapIdx] at hi
  refine ⟨xs[i], List.getElem_mem _, ?_⟩
  simp only [markF, List.getElem_mapIdx]
  split
  · exact .inr rfl
  · exact .inl rfl

theorem Out.Wf.next {O : Out} (h : O.Wf) (many : Nat) : (O.next many).1.Wf := by
  refine ⟨by simp [Out.next, markF_len, h.len], h.most, fun x hx => ?_, ?_, h.by_, h.lim⟩
  · obtain ⟨y, hy, rfl | rfl⟩ := mem_markF hx
    · exact h.st _ hy
    · omega
  · simp only [Out.next]
    split
    · omega
    · exact h.en4

theorem map_markF (xs : List Nat) (a : Nat) (f : Nat → Nat) (j x : Nat) (ha : a ≤ j) (hx : xs[j]? = some x) : ((markF xs a j f).map bv).set j (bv (f x)) = (markF xs a (j + 1) f).map bv := by
  rw [← markF_succ xs a j f x ha hx, List.map_set]

def NextPost (w : World) (o : Own) (t : Tag) (k : Nat) (O' : Out) (a : Nat) (d : List Nat) (x y : Bool) (td : Tag) (e : Ending) (w' : World) : Prop :=
  ∃ v o', e = .returned (.tuple #[.int .u64 a, v, .bool x, .bool y]) ∧ Row w' o' td 5 v (d.map bv) ∧ Chg [t] w o w' o' ∧ OutRep w' o' t k O'

set_option maxHeartbeats 1000000 in
set_option maxRecDepth 100000 in
theorem ONext_ok {w : World} {o : Own} {t : Tag} {k : Nat} {O : Out} (h : OutRep w o t k O) (many : Nat) (hm1 : 1 ≤ many) (hm2 : many ≤ 1000000000) (td : Tag) :
    Calls Tryz.prog 72 #[.pointer (some ⟨k, 0, none⟩), .int .i64 many] w (NextPost w o t k (O.next many).1 (O.next many).2.1 (O.next many).2.2.1 (O.next many).2.2.2.1 (O.next many).2.2.2.2 td) := by
  have hwn := h.1.next many
  have C1 := Lib.hid (Odue_ok h many hm1 hm2)
  have hle := O.due_le many
  have hlb : O.b.length = O.s.length := h.1.len
  have hl : O.s.length ≤ 2000 := by have := h.1.len; have := h.1.most; omega
  obtain ⟨_, vb, vs, hat, hrb, hrs⟩ := h
  unfold Out.next at hwn ⊢
  generalize O.due many = d at *
  obtain ⟨a, tt, e, ok⟩ := d
  simp only at hwn hle C1 ⊢
  obtain ⟨hle1, hle2⟩ := hle
  have hc := hat.cells
  obtain ⟨A, c, rfl⟩ := hrs.sl.shapeB
  obtain ⟨A2, c2, hv2, hcap2, hcm2, _⟩ := id hrb.sl
  rw [List.length_map] at hv2 hcap2
  subst hv2
  unfold maxLen at hcm2
  go_enter Tryz.func72, Tryz.ntmps72
  go_wp2_with (go_at_call 144; refine C1.out.mono ?_; rintro e1 w' ⟨rfl, n1, rfl⟩)
  clear C1 hc
  go_loopw [12] (fun i wr => ∃ j : Nat, i = .int .i64 j ∧ a ≤ j ∧ j ≤ tt ∧ At wr o k t (.cells #[.slice A2 O.b.length c2, .slice A O.s.length c, .bool O.fin, .int .u8 O.en, .int .u64 O.limit] 109 (0, 0)) ∧ Row wr o (0 :: t) 5 (.slice A2 O.b.length c2) (O.b.map bv) ∧ Row wr o (1 :: t) 5 (.slice A O.s.length c) ((markF O.s a j (fun _ => 1)).map bv) ∧ Chg [t] w o wr o)
    (fun i _ => tt - (intOf i).toNat)
  case atStart =>
    exact ⟨a, rfl, Nat.le_refl _, hle1, hat.drewN _, hrb.drewN _, by rw [markF_none _ _ _ _ (Nat.le_refl _)]; exact hrs.drewN _, (Chg.refl _ _ _).drewN _⟩
  case round =>
    obtain ⟨j, rfl, hj1, hj2, hat, hrb, hrs, hch⟩ := hrel
    have hc := hat.cells
    have hf := hat.free
    by_cases hlt : j < tt
    · cases A with
      | none =>
        exfalso
        rcases hrs.form with ⟨_, h0⟩ | ⟨g, cap, cur, h0, _⟩
        · have hz : O.s.length = 0 := by simpa [markF_len] using congrArg List.length h0
          omega
        · cases h0
      | some ad =>
        obtain ⟨g, rfl⟩ : ∃ g, ad = ⟨g, 0, none⟩ := by
          rcases hrs.form with ⟨h0, _⟩ | ⟨g, cap, cur, h0, _⟩
          · cases h0
          · injection h0 with h0; injection h0 with h0; exact ⟨g, h0⟩
        have hlen : O.s.length = ((markF O.s a j (fun _ => 1)).map bv).length := by simp [markF_len]
        have hrs' := hrs
        rw [hlen] at hrs'
        obtain ⟨hog, hcr, hfr⟩ := hrs'.cell
        have hset := hrs'.set (j := j) (u := bv 1)
        obtain ⟨x, hx⟩ : ∃ x, O.s[j]? = some x := ⟨O.s[j]'(by omega), List.getElem?_eq_getElem _⟩
        rw [map_markF O.s a (fun _ => 1) j x hj1 hx, ← hlen] at hset
        have hcj : w.cell? ⟨g, j, none⟩ = w.cell? ⟨g, j, none⟩ := rfl
        have hcj : wr.cell? ⟨g, j, none⟩ = some (bv x) := by rw [hcr j (by rw [← hlen]; omega), List.getElem?_map, markF_at, hx]; rfl
        have hfj := hfr j
        have Hset := Lib.hid hset; clear hset hcr hfr hx
        have Hlen := Lib.hid hlen; clear hlen hrs'
        go_wp2
        go_roundw
        case rel =>
          refine ⟨j + 1, by go_num, by omega, by omega, hat.far (by rintro rfl; exact tag_ne' t 1 (hog.symm.trans hat.2)) _, hrb.far (by rw [hog]; simp) _, Hset.out, hch.setCell _ (.inr ?_)⟩
          rw [hog, off_one]
          simp
        case measure => simp [intOf]; omega
    · obtain rfl : j = tt := by omega
      have Hrb := Lib.hid hrb; have Hrs := Lib.hid hrs; have Hat := Lib.hid hat; have Hch := Lib.hid hch
      have hlen : ((O.b.take j).drop a).length ≤ 100000000 := by simp; omega
      clear hrb hrs hat hch hlt
      cases e with
      | false =>
        simp only [Bool.false_eq_true, if_false] at hwn
        have Hs : ∀ v, Sl wr o (0 :: t) v (((O.b.map bv).take j).drop a) → RowKit.Hid (Sl wr o (0 :: t) v (((O.b.take j).drop a).map bv)) := fun v hv => by rw [List.map_drop, List.map_take]; exact hv
        go_wp2_with (go_at_call 145; refine (CloneB_ok (o := o) (s := 0 :: t) (xs := (O.b.take j).drop a) ((Hs _ (by first | exact Hrb.out.sl.cut_ne (by omega) (by omega) (by omega) | exact Hrb.out.sl.cut_eq (by omega) (by omega) (by omega))).out) hlen td).mono ?_; rintro e2 w2 ⟨v2, o2, rfl, hch2, hrow2⟩)
        all_goals
          refine bodyPost_ret (results_tmp4 rfl _ _ _) rfl ⟨v2, o2, rfl, hrow2, Hch.out.trans hch2.of_nil, ?_⟩
          exact ⟨hwn, _, _, Hat.out.chg hch2 (off_nil _), Hrb.out.chg hch2 (off_nil _), Hrs.out.chg hch2 (off_nil _)⟩
      | true =>
        simp only [if_true] at hwn
        have Hat2 := Lib.hid (Hat.out.set 3 (.int .u8 1))
        have Hrb2 := Lib.hid (Hrb.out.far (p := ⟨k, 3, none⟩) (by rw [Hat.out.2]; exact tag_ne _ _) (.int .u8 1))
        have Hrs2 := Lib.hid (Hrs.out.far (p := ⟨k, 3, none⟩) (by rw [Hat.out.2]; exact tag_ne _ _) (.int .u8 1))
        have Hch2 := Lib.hid (Hch.out.setCell (p := ⟨k, 3, none⟩) (.int .u8 1) (.inr Hat.out.on))
        have Hs : ∀ v, Sl (wr.setCell ⟨k, 3, none⟩ (.int .u8 1)) o (0 :: t) v (((O.b.map bv).take j).drop a) → RowKit.Hid (Sl (wr.setCell ⟨k, 3, none⟩ (.int .u8 1)) o (0 :: t) v (((O.b.take j).drop a).map bv)) := fun v hv => by rw [List.map_drop, List.map_take]; exact hv
        go_wp2_with (go_at_call 145; refine (CloneB_ok (o := o) (s := 0 :: t) (xs := (O.b.take j).drop a) ((Hs _ (by first | exact Hrb2.out.sl.cut_ne (by omega) (by omega) (by omega) | exact Hrb2.out.sl.cut_eq (by omega) (by omega) (by omega))).out) hlen td).mono ?_; rintro e2 w2 ⟨v2, o2, rfl, hch2, hrow2⟩)
        all_goals
          refine bodyPost_ret (results_tmp4 rfl _ _ _) rfl ⟨v2, o2, rfl, hrow2, Hch2.out.trans hch2.of_nil, ?_⟩
          exact ⟨hwn, _, _, Hat2.out.chg hch2 (off_nil _), Hrb2.out.chg hch2 (off_nil _), Hrs2.out.chg hch2 (off_nil _)⟩
end Go.Proofs.YthliihmhkhabeaaGreatDoor
