/- What package outflow's functions do to a buffer, VI. Conditions: the buffer is as its functions leave it (Out.Wf). -/
import Derived.Test.YthliihmhkhabeaaGreatDoorIds04
import Derived.Test.YthliihmhkhabeaaGreatDoorIds05
namespace Go.Proofs.YthliihmhkhabeaaGreatDoor
open Go Go.RowKit

theorem append_zeros (w : World) (ty : TypeId) {o : Own} {t : Tag} {v : Value} {xs : List Nat} (hr : Row w o t 5 v (xs.map bv)) (n : Nat) (hb : xs.length + n ≤ 1000000000000) :
    ∃ v' w' o', (Builtin.append_ #[42, 3] ty #[v, .int .i64 n]).run Tryz.prog w = .ok v' w' ∧ Row w' o' t 5 v' ((xs ++ List.replicate n 0).map bv) ∧ w.grownBy w' v.ownBlock ∧ (∀ k, k < w.heap.size → o' k = o k) := by
  obtain ⟨i, hi, hz, hs, hby⟩ := infoU8'
  rw [List.map_append, List.map_replicate]
  exact run_append_zeros_row w ty 42 3 5 i _ .i64 Tryz.underlying42 Tryz.underlying3 hi hz hs (by omega) rfl rfl hr n (by simpa using hb)

theorem Out.Wf.write {O : Out} (h : O.Wf) (d : List Nat) (hd : ∀ x ∈ d, x < 256) : (O.write d).1.Wf := by
  unfold Out.write
  split
  · exact h
  · refine ⟨?_, ?_, ?_, h.en4, ?_, h.lim⟩
    · have := h.len; simp; omega
    · have := h.most; simp; omega
    · intro x hx
      simp only [List.mem_append, List.mem_replicate] at hx
      rcases hx with hx | ⟨_, rfl⟩
      · exact h.st x hx
      · omega
    · intro x hx
      simp only [List.mem_append] at hx
      rcases hx with hx | hx
      · exact h.by_ x hx
      · exact hd x (List.mem_of_mem_take hx)

/-- The two appends of Write, ahead of the walk. -/
theorem OWrite_steps {w : World} {o : Own} {t s : Tag} {k : Nat} {O : Out} {vb vs v2 : Value} {d : List Nat} (hw : O.Wf)
    (hat : At w o k t (.cells #[vb, vs, .bool false, .int .u8 O.en, .int .u64 O.limit] 109 (0, 0))) (hrb : Row w o (0 :: t) 5 vb (O.b.map bv)) (hrs : Row w o (1 :: t) 5 vs (O.s.map bv))
    (hd : Sl w o s v2 (d.map bv)) (hdl : d.length ≤ 2000) (ty : TypeId) :
    ∃ A1 n1 c1 w1, (Builtin.append_ #[42, 42] ty #[vb, v2]).run Tryz.prog w = .ok (.slice A1 n1 c1) w1 ∧ w1.cell? ⟨k, 0, none⟩ = some vb ∧ w1.frozen? ⟨k, 0, none⟩ = false ∧ True ∧
      (w1.setCell ⟨k, 0, none⟩ (.slice A1 n1 c1)).cell? ⟨k, 1, none⟩ = some vs ∧
      ∃ A2 n2 c2 w2 o2, (Builtin.append_ #[42, 3] ty #[vs, .int .i64 d.length]).run Tryz.prog (w1.setCell ⟨k, 0, none⟩ (.slice A1 n1 c1)) = .ok (.slice A2 n2 c2) w2 ∧ w2.cell? ⟨k, 1, none⟩ = some vs ∧ w2.frozen? ⟨k, 1, none⟩ = false ∧ True ∧
        Chg [t] w o (w2.setCell ⟨k, 1, none⟩ (.slice A2 n2 c2)) o2 ∧ At (w2.setCell ⟨k, 1, none⟩ (.slice A2 n2 c2)) o2 k t (.cells #[(.slice A1 n1 c1), (.slice A2 n2 c2), .bool false, .int .u8 O.en, .int .u64 O.limit] 109 (0, 0)) ∧
        Row (w2.setCell ⟨k, 1, none⟩ (.slice A2 n2 c2)) o2 (0 :: t) 5 (.slice A1 n1 c1) ((O.b ++ d).map bv) ∧ Row (w2.setCell ⟨k, 1, none⟩ (.slice A2 n2 c2)) o2 (1 :: t) 5 (.slice A2 n2 c2) ((O.s ++ List.replicate d.length 0).map bv) := by
  have hm := hw.most
  have hl := hw.len
  obtain ⟨vb', w1, o1, r1, row1, g1, c1, old1⟩ := append_bytes w ty hrb hd (by omega)
  have at1 := hat.chg c1 (off_child _ _)
  have rs1 := hrs.chg c1 (off_sib _ (by omega))
  obtain ⟨A1, n1, c1', rfl⟩ := row1.shape3
  have at2 := at1.set 0 (.slice A1 n1 c1')
  have row2 := row1.far (p := ⟨k, 0, none⟩) (by rw [at1.2]; exact tag_ne _ _) (.slice A1 n1 c1')
  have rs2 := rs1.far (p := ⟨k, 0, none⟩) (by rw [at1.2]; exact tag_ne _ _) (.slice A1 n1 c1')
  obtain ⟨vs', w2, o2, r2, row3, g2, old2⟩ := append_zeros (w1.setCell ⟨k, 0, none⟩ (.slice A1 n1 c1')) ty rs2 d.length (by omega)
  obtain ⟨A2, n2, c2', rfl⟩ := row3.shape3
  have c12 := (c1.up (suf_cons _ _)).setCell (p := ⟨k, 0, none⟩) (.slice A1 n1 c1') (.inr (by rw [hat.2]; exact on_self _))
  have c2 := (Chg.refl [1 :: t] _ _).grown' g2 old2 (fun j hj => .inr (by rw [rs2.2 j hj]; exact on_self _))
  have at3 := at2.chg c2 (off_child _ _)
  have row3b := row2.chg c2 (off_sib _ (by omega))
  refine ⟨A1, _, c1', w1, r1, by rw [at1.cells]; rfl, at1.free 0, trivial, by rw [at2.cells]; rfl, A2, _, c2', w2, o2, r2, by rw [at3.cells]; rfl, at3.free 1, trivial, ?_, at3.set 1 _, row3b.far (by rw [at3.2]; exact tag_ne _ _) _, row3.far (by rw [at3.2]; exact tag_ne _ _) _⟩
  exact (c12.trans (c2.up (suf_cons _ _))).setCell _ (.inr (by rw [hat.2]; exact on_self _))

def WritePost (w : World) (o : Own) (t : Tag) (k : Nat) (O' : Out) (n : Nat) (e : Ending) (w' : World) : Prop :=
  ∃ o', e = .returned (.int .i64 n) ∧ Chg [t] w o w' o' ∧ OutRep w' o' t k O'

set_option maxHeartbeats 1000000 in
set_option maxRecDepth 100000 in
theorem OWrite_ok {w : World} {o : Own} {t s : Tag} {k : Nat} {O : Out} (h : OutRep w o t k O) {v : Value} {d : List Nat} (hd : Sl w o s v (d.map bv)) (hd8 : ∀ x ∈ d, x < 256) :
    Calls Tryz.prog 33 #[.pointer (some ⟨k, 0, none⟩), v] w (WritePost w o t k (O.write d).1 (O.write d).2) := by
  have hwf := h.1.write d hd8
  have h' := h
  obtain ⟨hw, vb, vs, hat, hrb, hrs⟩ := h
  have hm := hw.most
  unfold Out.write at hwf ⊢
  cases hfin : O.fin with
  | true =>
    rw [hfin] at hat hwf
    have hc := hat.cells
    clear hwf hd
    go_enter Tryz.func33, Tryz.ntmps33
    go_wp2
    go_ret
    exact ⟨o, rfl, Chg.refl _ _ _, h'⟩
  | false =>
    rw [hfin] at hat hwf
    simp only [Bool.false_eq_true, if_false] at hwf ⊢
    have hc := hat.cells
    obtain ⟨A, c, hv, hcap, hcm, hz, _⟩ := id hd
    rw [List.length_map] at hv hcap
    subst hv
    unfold maxLen at hcm
    obtain ⟨n, hnE⟩ : ∃ n, n = min d.length (2000 - O.b.length) := ⟨_, rfl⟩
    rw [← hnE] at hwf ⊢
    have hn1 : n ≤ d.length := by omega
    have hd2 := (hd.drewN 1).take (b := n) hn1
    rw [← List.map_take] at hd2
    have hst := OWrite_steps hw (hat.drewN 1) (hrb.drewN 1) (hrs.drewN 1) hd2 (by simp; omega) 42
    rw [show (d.take n).length = n from by simp; omega] at hst
    obtain ⟨A1, n1, c1, w1, r1, a1, a2, _, a4, A2, n2, c2, w2, o2, r2, b1, b2, _, b4, b5, b6, b7⟩ := hst
    obtain ⟨Ab, cb, hvb⟩ := hrb.sl.shapeB
    subst hvb
    have Hr1 := Lib.hid r1; have Hr2 := Lib.hid r2; have Hb4 := Lib.hid b4; have Hb5 := Lib.hid b5; have Hb6 := Lib.hid b6; have Hb7 := Lib.hid b7; have HE := Lib.hid hnE
    clear r1 r2 b4 b5 b6 b7 hd hd2 hnE h'
    by_cases hle : d.length ≤ 2000 - O.b.length
    · obtain rfl : n = d.length := by have := HE.out; omega
      go_enter Tryz.func33, Tryz.ntmps33
      go_wp2
      go_region_law (refine step_append_run rfl (.tmp 27) (.tmp 30) 42 42 rfl (.slice Ab O.b.length cb) (.slice A d.length c) rfl rfl _ w1 Hr1.out ?_)
      go_wp2_with (at_builtin; refine Lib.wpList_append_run _ rfl _ _ _ _ rfl _ _ rfl rfl _ _ Hr2.out ?_)
      go_ret
      exact ⟨o2, rfl, ((Chg.refl _ _ _).drewN 1).trans Hb4.out, hwf, _, _, Hb5.out, Hb6.out, Hb7.out⟩
    · obtain rfl : n = 2000 - O.b.length := by have := HE.out; omega
      have hcast : ((2000 - O.b.length : Nat) : Int) = 2000 - (O.b.length : Int) := by omega
      rw [hcast] at Hr2
      clear hcast
      have f1 : (O.b.length : Int) ≤ 2000 := by omega
      have f1b : (0 : Int) ≤ 2000 - (O.b.length : Int) := by omega
      have f2 : 2000 - (O.b.length : Int) ≤ (c : Int) := by omega
      have f3 : (2000 - (O.b.length : Int)).toNat = 2000 - O.b.length := by omega
      go_enter Tryz.func33, Tryz.ntmps33
      go_wp2
      go_region_law (refine step_append_run rfl (.tmp 27) (.tmp 30) 42 42 rfl (.slice Ab O.b.length cb) (.slice A (2000 - O.b.length) c) rfl rfl _ w1 Hr1.out ?_)
      go_wp2_with (at_builtin; refine Lib.wpList_append_run _ rfl _ _ _ _ rfl _ _ rfl rfl _ _ Hr2.out ?_)
      go_ret
      exact ⟨o2, by rw [show ((2000 - O.b.length : Nat) : Int) = 2000 - (O.b.length : Int) from by omega]; rfl, ((Chg.refl _ _ _).drewN 1).trans Hb4.out, hwf, _, _, Hb5.out, Hb6.out, Hb7.out⟩
end Go.Proofs.YthliihmhkhabeaaGreatDoor
/- What package outflow's functions do to a buffer, VII: bytes that were acked, or lost. Conditions: the buffer is as its functions leave it (Out.Wf). -/
namespace Go.Proofs.YthliihmhkhabeaaGreatDoor
open Go Go.RowKit

def ackF (x : Nat) : Nat := if x = 0 then 0 else 3
def lostF (x : Nat) : Nat := if x = 1 then 2 else x

theorem OAcked1_ok (x : Nat) (w : World) (hx : x < 4) : Calls Tryz.prog 83 #[.int .u8 x] w fun e w' => e = .returned (.int .u8 (ackF x)) ∧ w = w' := by
  unfold ackF
  by_cases h : x = 0
  · subst h
    go_enter Tryz.func83, Tryz.ntmps83
    go_wp2
    go_ret
    exact ⟨rfl, rfl⟩
  · rw [if_neg h]
    have h2 : ((x : Int) == 0) = false := by simp; omega
    go_enter Tryz.func83, Tryz.ntmps83
    go_wp2
    go_ret
    exact ⟨rfl, rfl⟩

theorem OLost1_ok (x : Nat) (w : World) (hx : x < 4) : Calls Tryz.prog 82 #[.int .u8 x] w fun e w' => e = .returned (.int .u8 (lostF x)) ∧ w = w' := by
  unfold lostF
  by_cases h : x = 1
  · subst h
    go_enter Tryz.func82, Tryz.ntmps82
    go_wp2
    go_ret
    exact ⟨rfl, rfl⟩
  · rw [if_neg h]
    have h2 : ((x : Int) == 1) = false := by simp; omega
    go_enter Tryz.func82, Tryz.ntmps82
    go_wp2
    go_ret
    exact ⟨rfl, rfl⟩

def Out.turn (O : Out) (off n : Nat) (e : Bool) (f : Nat → Nat) : Out :=
  { O with s := markF O.s (min off O.s.length) (min off O.s.length + n) f, en := if e && O.fin then f O.en else O.en }

theorem Out.Wf.turn {O : Out} (h : O.Wf) (off n : Nat) (e : Bool) (f : Nat → Nat) (hf : ∀ x, x < 4 → f x < 4) : (O.turn off n e f).Wf := by
  refine ⟨by simp [Out.turn, markF_len, h.len], h.most, fun x hx => ?_, ?_, h.by_, h.lim⟩
  · obtain ⟨y, hy, rfl | rfl⟩ := mem_markF hx
    · exact h.st _ hy
    · exact hf _ (h.st _ hy)
  · simp only [Out.turn]
    split
    · exact hf _ h.en4
    · exact h.en4

theorem markF_end {α : Type} (xs : List α) (a j b : Nat) (f : α → α) (h : j = b ∨ (xs.length ≤ j ∧ xs.length ≤ b)) : markF xs a j f = markF xs a b f := by
  rcases h with rfl | ⟨h1, h2⟩
  · rfl
  · apply List.ext_getElem?
    intro i
    simp only [markF, List.getElem?_mapIdx]
    rcases Nat.lt_or_ge i xs.length with h3 | h3
    · congr 1
      funext x
      by_cases h4 : a ≤ i
      · rw [if_pos ⟨h4, by omega⟩, if_pos ⟨h4, by omega⟩]
      · rw [if_neg (by omega), if_neg (by omega)]
    · simp [h3]

theorem map_markF' (xs : List Nat) (a : Nat) (f : Nat → Nat) (j x : Nat) (ha : a ≤ j) (hx : xs[j]? = some x) : ((markF xs a j f).map bv).set j (bv (f x)) = (markF xs a (j + 1) f).map bv := by
  rw [← markF_succ xs a j f x ha hx, List.map_set]

def TurnPost (w : World) (o : Own) (t : Tag) (k : Nat) (O' : Out) (e : Ending) (w' : World) : Prop :=
  e = .returned (.tuple #[]) ∧ Chg [t] w o w' o ∧ OutRep w' o t k O'

set_option maxHeartbeats 2000000 in
set_option maxRecDepth 100000 in
theorem Oturn_ok {w : World} {o : Own} {t : Tag} {k : Nat} {O : Out} (h : OutRep w o t k O) (off n : Nat) (hoff : off < 18446744073709551616) (hn : n ≤ 1000000000000) (end_ : Bool) (g : Nat) (f : Nat → Nat) (hf4 : ∀ x, x < 4 → f x < 4)
    (hf : ∀ x w, x < 4 → Calls Tryz.prog g #[.int .u8 (x : Nat)] w fun e w' => e = .returned (.int .u8 (f x)) ∧ w = w') (hcl : ∀ args w, (callFunc g args).run Tryz.prog w = .ok (.enter g args) w) :
    Calls Tryz.prog 81 #[.pointer (some ⟨k, 0, none⟩), .int .u64 off, .int .i64 n, .bool end_, .func (.func g) #[] #[]] w (TurnPost w o t k (O.turn off n end_ f)) := by
  have hwf := h.1.turn off n end_ f hf4
  obtain ⟨hw, vb, vs, hat, hrb, hrs⟩ := h
  have Hst := Lib.hid hw.st
  have Hen := Lib.hid hw.en4
  have hl : O.s.length ≤ 2000 := by have := hw.len; have := hw.most; omega
  have hc := hat.cells
  obtain ⟨A, c, rfl⟩ := hrs.sl.shapeB
  generalize hT : O.turn off n end_ f = T at hwf ⊢
  unfold Out.turn at hT
  obtain ⟨a, ha⟩ : ∃ a, a = min off O.s.length := ⟨_, rfl⟩
  rw [← ha] at hT
  have HT := Lib.hid hT; clear hT
  have Hwf := Lib.hid hwf; clear hwf
  have hal : a ≤ O.s.length := by omega
  have Ha := Lib.hid ha; clear ha
  have Hf := Lib.hid hf; clear hf
  have Hcl := Lib.hid hcl; clear hcl
  go_enter Tryz.func81, Tryz.ntmps81
  go_upto_region 1 with fail
  go_cut [10] (fun s wx => s = .int .i64 a ∧ ∃ m, wx = w.drewN m)
  case first =>
    by_cases hle : off ≤ O.s.length
    · obtain rfl : a = off := by have := Ha.out; omega
      go_wp2
      try go_quiet (fail)
      try go_wp2
      go_meet
      exact ⟨rfl, 0, rfl⟩
    · obtain rfl : a = O.s.length := by have := Ha.out; omega
      go_wp2
      try go_quiet (fail)
      try go_wp2
      go_meet
      exact ⟨rfl, 0, rfl⟩
  case rest =>
    obtain ⟨rfl, m, rfl⟩ := hcut
    clear hc
    go_wp2
    go_loopw [11] (fun i wr => ∃ j : Nat, i = .int .i64 j ∧ a ≤ j ∧ j ≤ O.s.length ∧ j ≤ a + n ∧ At wr o k t (.cells #[vb, .slice A O.s.length c, .bool O.fin, .int .u8 O.en, .int .u64 O.limit] 109 (0, 0)) ∧ Row wr o (0 :: t) 5 vb (O.b.map bv) ∧ Row wr o (1 :: t) 5 (.slice A O.s.length c) ((markF O.s a j f).map bv) ∧ Chg [t] w o wr o)
      (fun i _ => O.s.length - (intOf i).toNat)
    case atStart =>
      exact ⟨a, rfl, Nat.le_refl _, hal, by omega, hat.drewN _, hrb.drewN _, by rw [markF_none _ _ _ _ (Nat.le_refl _)]; exact hrs.drewN _, (Chg.refl _ _ _).drewN _⟩
    case round =>
      obtain ⟨j, rfl, hj1, hj2, hj3, hat, hrb, hrs, hch⟩ := hrel
      have hc := hat.cells
      by_cases hlt : j < O.s.length ∧ j < a + n
      · obtain ⟨hlt1, hlt2⟩ := hlt
        have hf := hat.free
        cases A with
        | none =>
          exfalso
          rcases hrs.form with ⟨_, h0⟩ | ⟨g, cap, cur, h0, _⟩
          · have hz : O.s.length = 0 := by simpa [markF_len] using congrArg List.length h0
            omega
          · cases h0
        | some ad =>
          obtain ⟨gb, rfl⟩ : ∃ g, ad = ⟨g, 0, none⟩ := by
            rcases hrs.form with ⟨h0, _⟩ | ⟨g, cap, cur, h0, _⟩
            · cases h0
            · injection h0 with h0; injection h0 with h0; exact ⟨g, h0⟩
          have hlen : O.s.length = ((markF O.s a j f).map bv).length := by simp [markF_len]
          have hrs' := hrs
          rw [hlen] at hrs'
          obtain ⟨hog, hcr, hfr⟩ := hrs'.cell
          obtain ⟨x, hx⟩ : ∃ x, O.s[j]? = some x := ⟨O.s[j]'(by omega), List.getElem?_eq_getElem _⟩
          have hx4 : x < 4 := Hst.out x (List.mem_of_getElem? hx)
          have hset := hrs'.set (j := j) (u := bv (f x))
          rw [map_markF' O.s a f j x hj1 hx, ← hlen] at hset
          have hcj : wr.cell? ⟨gb, j, none⟩ = some (.int .u8 x) := by rw [hcr j (by rw [← hlen]; omega), List.getElem?_map, markF_at, hx]; rfl
          have hfj := hfr j
          have Hset := Lib.hid hset; clear hset hcr hfr hx
          have Hlen := Lib.hid hlen; clear hlen hrs'
          have hlt2' : (j : Int) - a < n := by omega
          have Hog := Lib.hid hog; clear hog
          go_wp2
          refine wp_region_still_tail 15 (by kernel_rfl) (by kernel_rfl) ?_
          simp only [List.take_succ_cons, List.take_zero, List.drop_succ_cons, List.drop_zero]
          have hcl := Hcl.out
          repeat still_step
          still_call ((Hf.out x _ hx4).mono fun _ _ ⟨h1, h2⟩ => ⟨h1, h2.symm⟩)
          repeat still_step
          refine wpStill_nil ?_
          go_wp2
          go_roundw
          case rel =>
            have hog := Hog.out
            refine ⟨j + 1, by go_num, by omega, by omega, by omega, hat.drew.far (by rintro rfl; exact tag_ne' t 1 (hog.symm.trans hat.2)) _, (hrb.drewN 1).far (by rw [hog]; simp) _, Hset.out.drewN 1, hch.drew.setCell _ (.inr ?_)⟩
            rw [hog, off_one]
            simp
          case measure => simp [intOf]; omega
      · have hjE : markF O.s a j f = markF O.s a (a + n) f := markF_end _ _ _ _ _ (by omega)
        rw [hjE] at hrs
        have hlt' : ¬ (j < O.s.length ∧ (j : Int) - a < n) := by omega
        cases end_ with
        | false =>
          simp only [Bool.false_and, Bool.false_eq_true, if_false] at HT
          go_wp2
          all_goals
            go_end0
            have := HT.out
            subst this
            exact ⟨rfl, hch, Hwf.out, _, _, hat, hrb, hrs⟩
        | true =>
          cases hfin : O.fin with
          | false =>
            rw [hfin] at hc HT
            simp only [Bool.and_false, Bool.false_eq_true, if_false] at HT
            go_wp2
            all_goals
              go_end0
              have := HT.out
              subst this
              exact ⟨rfl, hch, Hwf.out, _, _, by rw [hfin] at hat; exact hat, hrb, hrs⟩
          | true =>
            rw [hfin] at hc hat HT
            simp only [Bool.and_true, if_true] at HT
            have hf := hat.free
            have hcl := Hcl.out
            go_wp2
            all_goals
              refine (Hf.out O.en _ Hen.out).mono ?_
              rintro e2 w2 ⟨rfl, rfl⟩
              go_wp2
              go_end0
              have := HT.out
              subst this
              exact ⟨rfl, hch.setCell _ (.inr hat.on), Hwf.out, _, _, hat.set 3 _, hrb.far (by rw [hat.2]; exact tag_ne _ _) _, hrs.far (by rw [hat.2]; exact tag_ne _ _) _⟩
end Go.Proofs.YthliihmhkhabeaaGreatDoor
/- What package outflow's functions do to a buffer, VIII: what was acked. Conditions: the buffer is as its functions leave it (Out.Wf). -/
namespace Go.Proofs.YthliihmhkhabeaaGreatDoor
open Go Go.RowKit

theorem ackF_lt (x : Nat) (_h : x < 4) : ackF x < 4 := by unfold ackF; split <;> omega
theorem lostF_lt (x : Nat) (h : x < 4) : lostF x < 4 := by unfold lostF; split <;> omega

def Out.ack (O : Out) (off n : Nat) (e : Bool) : Out := O.turn off n e ackF
def Out.lose (O : Out) (off n : Nat) (e : Bool) : Out := O.turn off n e lostF

theorem enter_of {P : Program} {f : FuncId} {fn : Func} (hf : P.funcs[f]? = some fn) (hn : (fn.name == "runtime.NumGoroutine") = false) (hb : fn.body.isNone = false) (args : Array Value) (w : World) : (callFunc f args).run P w = .ok (.enter f args) w := by
  unfold callFunc program
  simp only [bind, Sem.bind, Sem.run, hf, hn, hb]
  rfl

theorem OAcked_ok {w : World} {o : Own} {t : Tag} {k : Nat} {O : Out} (h : OutRep w o t k O) (off n : Nat) (hoff : off < 18446744073709551616) (hn : n ≤ 1000000000000) (e : Bool) :
    Calls Tryz.prog 54 #[.pointer (some ⟨k, 0, none⟩), .int .u64 off, .int .i64 n, .bool e] w (TurnPost w o t k (O.ack off n e)) := by
  have H := Lib.hid (Oturn_ok h off n hoff hn e 83 ackF ackF_lt (fun x w hx => OAcked1_ok x w hx) (enter_of Tryz.func83 (by kernel_rfl) (by kernel_rfl)))
  unfold Out.ack
  go_enter Tryz.func54, Tryz.ntmps54
  go_wp2_with (go_at_call 81; refine H.out.mono ?_; rintro e1 w1 ⟨rfl, h1, h2⟩)
  go_end0
  exact ⟨rfl, h1, h2⟩

theorem OLost_ok {w : World} {o : Own} {t : Tag} {k : Nat} {O : Out} (h : OutRep w o t k O) (off n : Nat) (hoff : off < 18446744073709551616) (hn : n ≤ 1000000000000) (e : Bool) :
    Calls Tryz.prog 53 #[.pointer (some ⟨k, 0, none⟩), .int .u64 off, .int .i64 n, .bool e] w (TurnPost w o t k (O.lose off n e)) := by
  have H := Lib.hid (Oturn_ok h off n hoff hn e 82 lostF lostF_lt (fun x w hx => OLost1_ok x w hx) (enter_of Tryz.func82 (by kernel_rfl) (by kernel_rfl)))
  unfold Out.lose
  go_enter Tryz.func53, Tryz.ntmps53
  go_wp2_with (go_at_call 81; refine H.out.mono ?_; rintro e1 w1 ⟨rfl, h1, h2⟩)
  go_end0
  exact ⟨rfl, h1, h2⟩

theorem OHad1_ok (x : Nat) (w : World) : Calls Tryz.prog 85 #[.int .u8 x] w fun e w' => e = .returned (.bool (decide (x ≠ 3))) ∧ w = w' := by
  by_cases h : x = 3
  · subst h
    go_enter Tryz.func85, Tryz.ntmps85
    go_wp2
    go_ret
    exact ⟨rfl, rfl⟩
  · have h2 : ((x : Int) == 3) = false := by simp; omega
    go_enter Tryz.func85, Tryz.ntmps85
    go_wp2
    go_ret
    exact ⟨by simp [h]; omega, rfl⟩

/-- slices.IndexFunc, at bytes that aren't 3. -/
theorem IndexFuncB_ok {w : World} {o : Own} {s : Tag} {v : Value} {xs : List Nat} (h : Sl w o s v (xs.map bv)) (hl : xs.length ≤ 1000000) :
    Calls Tryz.prog 152 #[v, .func (.func 85) #[] #[]] w fun e w' => (∃ n : Int, e = .returned (.int .i64 n) ∧ (0 ≤ n ↔ ∃ x ∈ xs, x ≠ 3)) ∧ w = w' := by
  obtain ⟨A, c, hv, h1, h2, hz, h3⟩ := h
  rw [List.length_map] at hv h1 h3
  subst hv
  have H3 := Lib.hid h3; clear h3
  go_enter Tryz.func152, Tryz.ntmps152
  go_wp2
  go_loop [8] (fun i => ∃ j : Nat, i = .int .i64 j ∧ j ≤ xs.length ∧ ∀ i x, i < j → xs[i]? = some x → x = 3) (fun i => xs.length - (intOf i).toNat)
  case atStart => exact ⟨0, rfl, Nat.zero_le _, fun i x h => by omega⟩
  case round =>
    obtain ⟨j, rfl, hj, hall⟩ := hrel
    have Hall := Lib.hid hall; clear hall
    by_cases hlt : j < xs.length
    · obtain ⟨b, f, rfl, _, hcell⟩ := H3.out (by omega)
      obtain ⟨x, hx⟩ : ∃ x, xs[j]? = some x := ⟨xs[j], List.getElem?_eq_getElem hlt⟩
      have hcj : w.cell? ⟨b, f + j, none⟩ = some (.int .u8 x) := by rw [hcell j hlt, List.getElem?_map, hx]; rfl
      have Hx := Lib.hid hx; clear hcell hx
      by_cases h3 : x = 3
      · have hc := OHad1_ok x w
        simp only [h3, ne_eq, not_true_eq_false, decide_false] at hc
        rw [h3] at hcj
        have Hc := Lib.hid hc; clear hc
        have H3' := Lib.hid h3; clear h3
        go_wp2_with (go_at_call 85; refine Hc.out.mono ?_; rintro e1 w1 ⟨rfl, rfl⟩)
        go_round
        case rel =>
          refine ⟨j + 1, by go_num, by omega, fun i y hi hy => ?_⟩
          rcases (by omega : i < j ∨ i = j) with hi | rfl
          · exact Hall.out i y hi hy
          · rw [Hx.out] at hy; injection hy with hy; rw [← hy]; exact H3'.out
        case measure => simp [intOf]; omega
      · have hc := OHad1_ok x w
        simp only [ne_eq, h3, not_false_eq_true, decide_true] at hc
        have Hc := Lib.hid hc; clear hc
        have H3' := Lib.hid h3; clear h3
        go_wp2_with (go_at_call 85; refine Hc.out.mono ?_; rintro e1 w1 ⟨rfl, rfl⟩)
        go_ret
        exact ⟨⟨j, rfl, ⟨fun _ => ⟨x, List.mem_of_getElem? Hx.out, H3'.out⟩, fun _ => by omega⟩⟩, rfl⟩
    · go_wp2
      go_ret
      refine ⟨⟨-1, rfl, ⟨fun h => by omega, ?_⟩⟩, rfl⟩
      rintro ⟨x, hx, hne⟩
      obtain ⟨i, hi, rfl⟩ := List.mem_iff_getElem.1 hx
      exact absurd (Hall.out i _ (by omega) (List.getElem?_eq_getElem hi)) hne

theorem ContainsFuncB_ok {w : World} {o : Own} {s : Tag} {v : Value} {xs : List Nat} (h : Sl w o s v (xs.map bv)) (hl : xs.length ≤ 1000000) :
    Calls Tryz.prog 84 #[v, .func (.func 85) #[] #[]] w fun e w' => e = .returned (.bool (decide (∃ x ∈ xs, x ≠ 3))) ∧ w = w' := by
  have H := Lib.hid (IndexFuncB_ok h hl)
  by_cases hx : ∃ x ∈ xs, x ≠ 3
  · rw [decide_eq_true hx]
    have Hx := Lib.hid hx; clear hx
    go_enter Tryz.func84, Tryz.ntmps84
    go_wp2_with (go_at_call 152; refine H.out.mono ?_; rintro e1 w1 ⟨⟨n, rfl, hn⟩, rfl⟩; have hn0 : 0 ≤ n := hn.2 Hx.out; clear hn)
    go_ret
    exact ⟨by simp, rfl⟩
  · rw [decide_eq_false hx]
    have Hx := Lib.hid hx; clear hx
    go_enter Tryz.func84, Tryz.ntmps84
    go_wp2_with (go_at_call 152; refine H.out.mono ?_; rintro e1 w1 ⟨⟨n, rfl, hn⟩, rfl⟩; have hn0 : ¬ 0 ≤ n := fun h => Hx.out (hn.1 h); clear hn)
    go_ret
    exact ⟨by simp [hn0], rfl⟩
end Go.Proofs.YthliihmhkhabeaaGreatDoor
/- What package outflow's functions do to a buffer, IX: what was acked. Conditions: the buffer is as its functions leave it (Out.Wf). -/
namespace Go.Proofs.YthliihmhkhabeaaGreatDoor
open Go Go.RowKit

def Out.had (O : Out) (off n : Nat) : Bool := decide (off + n ≤ O.s.length) && ((O.s.drop off).take n).all (· == 3)

theorem had_dec (l : List Nat) : (!decide (∃ x ∈ l, x ≠ 3)) = l.all (· == 3) := by
  rw [Bool.eq_iff_iff]
  simp

set_option maxRecDepth 100000 in
theorem OHad_ok {w : World} {o : Own} {t : Tag} {k : Nat} {O : Out} (h : OutRep w o t k O) (off n : Nat) (hoff : off < 18446744073709551616) (hn : n ≤ 1000000000000) :
    Calls Tryz.prog 55 #[.pointer (some ⟨k, 0, none⟩), .int .u64 off, .int .i64 n] w fun e w' => e = .returned (.bool (O.had off n)) ∧ w = w' := by
  obtain ⟨hw, vb, vs, hat, hrb, hrs⟩ := h
  have hl : O.s.length ≤ 2000 := by have := hw.len; have := hw.most; omega
  have hc := hat.cells
  obtain ⟨A, c, hv, hcap, hcm, _⟩ := id hrs.sl
  rw [List.length_map] at hv hcap
  subst hv
  unfold maxLen at hcm
  have Hrs := Lib.hid hrs.sl
  generalize hr : O.had off n = r
  unfold Out.had at hr
  by_cases h1 : off ≤ O.s.length
  · by_cases h2 : n ≤ O.s.length - off
    · have h3 : (O.s.drop off).take n = (O.s.take (off + n)).drop off := by rw [List.drop_take]; congr 1; omega
      rw [decide_eq_true (by omega : off + n ≤ O.s.length), Bool.true_and, h3, ← had_dec] at hr
      generalize hb : decide (∃ x ∈ (O.s.take (off + n)).drop off, x ≠ 3) = b at hr
      have Hb := Lib.hid hb; clear hb
      subst hr
      have h2' : (n : Int) ≤ O.s.length - off := by omega
      have h4 : ((off : Int) + n) ≤ c := by omega
      clear h3
      have Hs : ∀ v, Sl w o (1 :: t) v (((O.s.map bv).take (off + n)).drop off) → RowKit.Hid (Sl w o (1 :: t) v (((O.s.take (off + n)).drop off).map bv)) := fun v hv => by rw [List.map_drop, List.map_take]; exact hv
      go_enter Tryz.func55, Tryz.ntmps55
      go_wp2_with (go_at_call 84; refine (ContainsFuncB_ok (o := o) (s := 1 :: t) (xs := (O.s.take (off + n)).drop off) ((Hs _ (by first | (have hq := Hrs.out.cut_ne (a := off) (b := off + n) (by omega) (by omega) (by omega); rw [Nat.add_sub_cancel_left] at hq; exact hq) | (have hq := Hrs.out.cut_eq (a := off) (b := off + n) (by omega) (by omega) (by omega); rw [Nat.add_sub_cancel_left] at hq; exact hq))).out) (by simp; omega)).mono ?_; rintro e1 w1 ⟨he, rfl⟩; rw [Hb.out] at he; subst he)
      all_goals
        go_ret
        exact ⟨rfl, rfl⟩
    · rw [decide_eq_false (by omega : ¬ off + n ≤ O.s.length), Bool.false_and] at hr
      subst hr
      have h2' : ¬ (n : Int) ≤ O.s.length - off := by omega
      go_enter Tryz.func55, Tryz.ntmps55
      go_wp2
      go_ret
      exact ⟨rfl, rfl⟩
  · rw [decide_eq_false (by omega : ¬ off + n ≤ O.s.length), Bool.false_and] at hr
    subst hr
    go_enter Tryz.func55, Tryz.ntmps55
    go_wp2
    go_ret
    exact ⟨rfl, rfl⟩

def Out.done (O : Out) : Bool := O.fin && O.en == 3 && O.had 0 O.s.length

set_option maxRecDepth 100000 in
theorem ODone_ok {w : World} {o : Own} {t : Tag} {k : Nat} {O : Out} (h : OutRep w o t k O) :
    Calls Tryz.prog 47 #[.pointer (some ⟨k, 0, none⟩)] w fun e w' => e = .returned (.bool O.done) ∧ w = w' := by
  have hl : O.s.length ≤ 2000 := by have := h.1.len; have := h.1.most; omega
  have H := Lib.hid (OHad_ok h 0 O.s.length (by omega) (by omega))
  obtain ⟨hw, vb, vs, hat, hrb, hrs⟩ := h
  have hc := hat.cells
  obtain ⟨A, c, rfl⟩ := hrs.sl.shapeB
  generalize hr : O.done = r
  unfold Out.done at hr
  generalize O.had 0 O.s.length = b at *
  cases hfin : O.fin with
  | false =>
    rw [hfin] at hc hr
    simp at hr
    subst hr
    go_enter Tryz.func47, Tryz.ntmps47
    go_wp2
    go_ret
    exact ⟨rfl, rfl⟩
  | true =>
    by_cases hen : O.en = 3
    · rw [hfin, hen] at hc hr
      simp at hr
      subst hr
      go_enter Tryz.func47, Tryz.ntmps47
      go_wp2_with (go_at_call 55; refine H.out.mono ?_; rintro e1 w1 ⟨rfl, rfl⟩)
      go_ret
      exact ⟨rfl, rfl⟩
    · rw [hfin] at hc
      rw [hfin, beq_eq_false_iff_ne.2 hen] at hr
      simp at hr
      subst hr
      have hen' : ((O.en : Int) == 3) = false := by simp; omega
      go_enter Tryz.func47, Tryz.ntmps47
      go_wp2
      go_ret
      exact ⟨rfl, rfl⟩
end Go.Proofs.YthliihmhkhabeaaGreatDoor
