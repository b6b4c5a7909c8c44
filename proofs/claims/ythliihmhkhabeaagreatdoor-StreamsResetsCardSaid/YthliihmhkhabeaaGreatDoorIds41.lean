/- When two frames are the same, II. No condition. -/
import Derived.Test.YthliihmhkhabeaaGreatDoorIds39
import Derived.Test.YthliihmhkhabeaaGreatDoorIds40
namespace Go.Proofs.YthliihmhkhabeaaGreatDoor
open Go Go.RowKit

section
variable {P : Program} {C : World → Prop} {o : Oper} {a : Act}
/-- A row loaded, in each world of a class. -/
theorem quiet_load_mid {K : Act → Prop} (ty : TypeId) (x : Operand) (h : o.op = .load ty x) (b f : Nat) (hx : a.eval x = .pointer (some ⟨b, f, none⟩)) (cs : List Value) (d : TypeDesc) (hc : ∀ w, C w → w.rangeAt b f cs)
    (hu : P.underlying ty = some d) (hd : d.isRow = true) (hi : (P.info? ty).map (·.size) = some cs.length) (hk : K (a.put o.dst (.agg cs.toArray))) : o.quiet P a C K :=
  ⟨_, fun w hw => by
    unfold Oper.quietAt execOp
    simp only [h, hx, Instr.loadAt, Instr.sureAddr, Sem.run_bind, Sem.run_pure, Result.andThen_ok, run_loadVar_mid w b f ty cs d (hc w hw) hu hd hi]
    exact ⟨rfl, rfl⟩, hk⟩
end

set_option maxHeartbeats 2000000 in
set_option maxRecDepth 100000 in
theorem FSame_ok {w : World} {o : Own} (f g : Fr) (hH : g.headC = f.headC) (dv : Value) {ts : Tag} (hd : Sl w o ts dv (f.data.map bv)) :
    Calls Tryz.prog 89 #[.agg (f.cells dv nilS), .agg (g.cells dv nilS)] w (ValNew w o (.bool true)) := by
  obtain ⟨W, hW⟩ := two w (.cells (f.cells dv nilS) 52) (.cells (g.cells dv nilS) 52)
  have hA1 : At W o w.heap.size (o w.heap.size) (.cells (f.cells dv nilS) 52 (0, 0)) := by
    rw [hW.eq]; exact ⟨(At.alloc (At.new w o [] (.cells (f.cells dv nilS) 52)) _).1, rfl⟩
  have hA2 : At W o (w.heap.size + 1) (o (w.heap.size + 1)) (.cells (g.cells dv nilS) 52 (0, 0)) := ⟨hW.two.1, rfl⟩
  have hd' := hd.chg (hW.chg o) (off_nil _)
  obtain ⟨Xt, FM, hFM, hFS⟩ := family (fun X => ∃ o', Chg [] W o X o')
  obtain ⟨x0, hx0⟩ := hFS W.drew ⟨o, (Chg.refl [] W o).drew⟩
  have : Nonempty Xt := ⟨x0⟩
  have hr1 : ∀ X, (∃ x, X = FM x) → X.rangeAt w.heap.size 0 (f.cells dv nilS).toList := by
    rintro X ⟨x, rfl⟩
    obtain ⟨o', hc⟩ := hFM x
    exact parRange' (hA1.chg hc (off_nil _)).cells
  have hr2 : ∀ X, (∃ x, X = FM x) → X.rangeAt (w.heap.size + 1) 0 (g.cells dv nilS).toList := by
    rintro X ⟨x, rfl⟩
    obtain ⟨o', hc⟩ := hFM x
    exact parRange' (hA2.chg hc (off_nil _)).cells
  have c1 : ∀ x, (FM x).cell? ⟨w.heap.size, 6, none⟩ = some dv := fun x => by obtain ⟨o', hc⟩ := hFM x; exact (hA1.chg hc (off_nil _)).cells 6
  have c2 : ∀ x, (FM x).cell? ⟨w.heap.size + 1, 6, none⟩ = some dv := fun x => by obtain ⟨o', hc⟩ := hFM x; exact (hA2.chg hc (off_nil _)).cells 6
  have c3 : ∀ x, (FM x).cell? ⟨w.heap.size, 7, none⟩ = some (.slice none 0 0) := fun x => by obtain ⟨o', hc⟩ := hFM x; exact (hA1.chg hc (off_nil _)).cells 7
  have c4 : ∀ x, (FM x).cell? ⟨w.heap.size + 1, 7, none⟩ = some (.slice none 0 0) := fun x => by obtain ⟨o', hc⟩ := hFM x; exact (hA2.chg hc (off_nil _)).cells 7
  have h1 : RowKit.Hid (∀ x, Calls Tryz.prog 164 #[.agg (f.cells dv nilS).toList.toArray] (FM x) fun e w' => e = .returned (.agg f.headC) ∧ ∃ x', w' = FM x') := by
    show ∀ x, _
    intro x
    obtain ⟨o1, hc⟩ := hFM x
    rw [Array.toArray_toList]
    exact (Fhead_ok o1 f dv nilS).mono fun e w' ⟨h1, o2, h2⟩ => ⟨h1, (hFS _ ⟨o2, hc.trans h2⟩).imp fun _ h => h.symm⟩
  have h2 : RowKit.Hid (∀ x, Calls Tryz.prog 164 #[.agg (g.cells dv nilS).toList.toArray] (FM x) fun e w' => e = .returned (.agg f.headC) ∧ ∃ x', w' = FM x') := by
    show ∀ x, _
    intro x
    obtain ⟨o1, hc⟩ := hFM x
    rw [Array.toArray_toList, ← hH]
    exact (Fhead_ok o1 g dv nilS).mono fun e w' ⟨h1, o2, h2⟩ => ⟨h1, (hFS _ ⟨o2, hc.trans h2⟩).imp fun _ h => h.symm⟩
  have h3 : RowKit.Hid (∀ x, Calls Tryz.prog 165 #[dv, dv] (FM x) fun e w' => e = .returned (.bool true) ∧ ∃ x', w' = FM x') := by
    show ∀ x, _
    intro x
    obtain ⟨o1, hc⟩ := hFM x
    exact (bytesEq_ok (hd'.chg hc (off_nil _))).mono fun e w' ⟨h1, h2⟩ => ⟨h1, x, h2⟩
  have h4 : RowKit.Hid (∀ x, Calls Tryz.prog 166 #[.slice none 0 0, .slice none 0 0] (FM x) fun e w' => e = .returned (.bool true) ∧ ∃ x', w' = FM x') := by
    show ∀ x, _
    intro x
    exact (slicesEq_ok (FM x)).mono fun e w' ⟨h1, h2⟩ => ⟨h1, x, h2⟩
  have hF : RowKit.Hid (∀ x, ∃ o', Chg [] w o (FM x) o') := fun x => by
    obtain ⟨o1, hc⟩ := hFM x
    exact ⟨o1, (hW.chg o).trans hc⟩
  have heq := headEq f
  have hi1 : (Tryz.prog.info? 52).map (·.size) = some (f.cells dv nilS).toList.length := infoFR
  have hi2 : (Tryz.prog.info? 52).map (·.size) = some (g.cells dv nilS).toList.length := infoFR
  have HE := hW.eq
  have e1 : f.cells dv nilS = (f.cells dv nilS).toList.toArray := by rw [Array.toArray_toList]
  have e2 : g.cells dv nilS = (g.cells dv nilS).toList.toArray := by rw [Array.toArray_toList]
  rw [e1, e2] at HE ⊢
  clear e1 e2 hA1 hA2 hd' hd hW hFM hFS
  generalize (f.cells dv nilS).toList = F at *
  generalize (g.cells dv nilS).toList = G at *
  generalize f.headC = H at *
  have Hr1 := Lib.hid hr1; have Hr2 := Lib.hid hr2; have Hi1 := Lib.hid hi1; have Hi2 := Lib.hid hi2; have Hx0 := Lib.hid hx0
  clear hH hr1 hr2 hi1 hi2 hx0
  go_enter Tryz.func89, Tryz.ntmps89
  go_upto_region 1 with fail
  rw [← HE]
  clear HE
  refine wp_region_quiet_tail FM 19 (by kernel_rfl) (by kernel_rfl) x0 Hx0.out ?_
  simp only [List.take_succ_cons, List.take_zero, List.drop_succ_cons, List.drop_zero]
  go_big_quiet_want
  refine quiet_load_mid 52 _ rfl w.heap.size 0 rfl F _ Hr1.out Tryz.underlying52 rfl Hi1.out ?_
  simp only [Act.put, List.setIfInBounds_toArray, List.set_cons_zero, List.set_cons_succ]
  go_big_quiet_on
  go_big_quiet_step ((go_at_call 164; exact h1.out _))
  go_big_quiet_want
  refine quiet_load_mid 52 _ rfl (w.heap.size + 1) 0 rfl G _ Hr2.out Tryz.underlying52 rfl Hi2.out ?_
  simp only [Act.put, List.setIfInBounds_toArray, List.set_cons_zero, List.set_cons_succ]
  go_big_quiet_on
  go_big_quiet_step ((go_at_call 164; exact h2.out _))
  go_big_quiet_want
  go_big_quiet_op
  go_big_quiet_on
  repeat (go_big_quiet_step ((first | (go_at_call 165; exact h3.out _) | (go_at_call 166; exact h4.out _))))
  refine wpQuiet_nil ?_
  intro x
  obtain ⟨o2, hc2⟩ := hF.out x
  have HC2 := Lib.hid hc2
  clear hc2 c1 c2 c3 c4
  generalize FM x = W3 at *
  go_wp2
  go_ret
  exact ⟨rfl, o2, HC2.out⟩
end Go.Proofs.YthliihmhkhabeaaGreatDoor
