/- What package reasm's functions do to a buffer that is held behind a pointer: each comes to the plain function of the same name. Conditions: the buffer is as its functions leave it (In.Wf). -/
import Derived.Test.YthliihmhkhabeaaGreatDoorIds06
import Derived.Test.YthliihmhkhabeaaGreatDoorIds07
namespace Go.Proofs.YthliihmhkhabeaaGreatDoor
open Go Go.RowKit

structure In where
  window : Nat
  read : Nat
  top : Nat
  size : Nat
  known : Bool
  m : List (Nat × Nat)
  deriving DecidableEq

structure In.Wf (I : In) : Prop where
  win : I.window ≤ 100000
  rt : I.read ≤ I.top
  tw : I.top ≤ I.read + I.window
  tm : I.top ≤ 4611686018427387903
  sm : I.size ≤ 4611686018427387903
  ks : I.known = true → I.top ≤ I.size
  nd : (I.m.map (·.1)).Nodup
  keys : ∀ p ∈ I.m, I.read ≤ p.1 ∧ p.1 < I.top ∧ p.2 < 256

def inKV (m : List (Nat × Nat)) : List (Value × Value) := m.map fun p => (natKey .u64 p.1, bv p.2)

def InRep (w : World) (o : Own) (t : Tag) (k : Nat) (I : In) : Prop :=
  I.Wf ∧ ∃ bm, At w o k t (.cells #[.int .i64 I.window, .int .u64 I.read, .int .u64 I.top, .int .u64 I.size, .bool I.known, .map (some bm)] 132 (0, 0)) ∧ MapAt w o (0 :: t) bm (inKV I.m)

theorem InRep.chg {L : List Tag} {w w' : World} {o o' : Own} {t : Tag} {k : Nat} {I : In} (h : InRep w o t k I) (hc : Chg L w o w' o') (hl : off L t) (hl' : off L (0 :: t)) : InRep w' o' t k I := by
  obtain ⟨hw, bm, h1, h2⟩ := h
  exact ⟨hw, bm, h1.chg hc hl, h2.chg hc hl'⟩

def In.new (window : Nat) : In := ⟨window, 0, 0, 0, false, []⟩
theorem In.new_wf {n : Nat} (h : n ≤ 100000) : (In.new n).Wf := ⟨h, Nat.le_refl _, by simp [In.new], by simp [In.new], by simp [In.new], by simp [In.new], by simp [In.new], by simp [In.new]⟩

set_option maxRecDepth 100000 in
theorem RNew_ok {w : World} (o : Own) (t : Tag) (n : Nat) (h : n ≤ 100000) :
    Calls Tryz.prog 58 #[.int .i64 n] w fun e w' => ∃ k o', e = .returned (.pointer (some ⟨k, 0, none⟩)) ∧ w.heap.size ≤ k ∧ Chg [] w o w' o' ∧ InRep w' o' t k (In.new n) := by
  have hmm := @run_makeMap Tryz.prog
  go_enter Tryz.func58, Tryz.ntmps58
  go_wp2
  go_ret
  have hs : (w.alloc (.map #[] 0)).heap.size = w.heap.size + 1 := by simp
  refine ⟨w.heap.size + 1, (o.upd w.heap.size (0 :: t)).upd (w.heap.size + 1) t, rfl, by simp, ?_, In.new_wf h, w.heap.size, ?_, ?_⟩
  · exact (((((Chg.refl [] w o).alloc _).tag (Nat.le_refl _) _).alloc _).tag (k := w.heap.size + 1) (by omega) _)
  · refine ⟨?_, Own.upd_same _ _ _⟩
    rw [← hs]
    exact heap_alloc_new (w.alloc (.map #[] 0)) _
  · exact (MapAt.new w o (0 :: t)).chg (((Chg.refl [] _ _).alloc _).tag (by omega) t) (off_nil _)

set_option maxRecDepth 100000 in
theorem RTop_ok {w : World} {o : Own} {t : Tag} {k : Nat} {I : In} (h : InRep w o t k I) :
    Calls Tryz.prog 78 #[.pointer (some ⟨k, 0, none⟩)] w fun e w' => e = .returned (.int .u64 I.top) ∧ w = w' := by
  obtain ⟨hw, bm, hat, hm⟩ := h
  have hc := hat.cells
  go_enter Tryz.func78, Tryz.ntmps78
  go_wp2
  go_ret
  exact ⟨rfl, rfl⟩
set_option maxRecDepth 100000 in
theorem RTop_nil {w : World} :
    Calls Tryz.prog 78 #[.pointer none] w fun e w' => e = .returned (.int .u64 0) ∧ w = w' := by
  go_enter Tryz.func78, Tryz.ntmps78
  go_wp2
  go_ret
  exact ⟨rfl, rfl⟩
set_option maxRecDepth 100000 in
theorem RLimit_ok {w : World} {o : Own} {t : Tag} {k : Nat} {I : In} (h : InRep w o t k I) :
    Calls Tryz.prog 68 #[.pointer (some ⟨k, 0, none⟩)] w fun e w' => e = .returned (.int .u64 ((I.read + I.window : Nat) : Int)) ∧ ∃ n, w' = w.drewN n := by
  obtain ⟨hw, bm, hat, hm⟩ := h
  have hc := hat.cells
  have h1 := hw.win; have h2 := hw.rt; have h3 := hw.tm
  go_enter Tryz.func68, Tryz.ntmps68
  go_wp2
  go_quiet (fail)
  go_wp2
  go_ret
  refine ⟨?_, _, rfl⟩
  congr 2
def In.done (I : In) : Bool := I.known && I.read == I.size
set_option maxRecDepth 100000 in
theorem RDone_ok {w : World} {o : Own} {t : Tag} {k : Nat} {I : In} (h : InRep w o t k I) :
    Calls Tryz.prog 50 #[.pointer (some ⟨k, 0, none⟩)] w fun e w' => e = .returned (.bool I.done) ∧ ∃ n, w' = w.drewN n := by
  obtain ⟨hw, bm, hat, hm⟩ := h
  have hc := hat.cells
  generalize hr : I.done = r
  unfold In.done at hr
  have hr2 : (I.known && decide ((I.read : Int) = I.size)) = r := by
    rw [← hr]
    congr 1
    rw [Bool.eq_iff_iff]
    simp
    omega
  have Hr := Lib.hid hr2; clear hr hr2
  cases hk : I.known with
  | false =>
    rw [hk] at hc
    go_enter Tryz.func50, Tryz.ntmps50
    go_wp2
    go_quiet (fail)
    go_wp2
    go_ret
    rw [← Hr.out, hk]
    exact ⟨rfl, _, rfl⟩
  | true =>
    rw [hk] at hc
    go_enter Tryz.func50, Tryz.ntmps50
    go_wp2
    go_quiet (fail)
    go_wp2
    go_ret
    rw [← Hr.out, hk]
    refine ⟨?_, _, rfl⟩
    congr 2
set_option maxRecDepth 100000 in
theorem RHeld_ok {w : World} {o : Own} {t : Tag} {k : Nat} {I : In} (h : InRep w o t k I) :
    Calls Tryz.prog 51 #[.pointer (some ⟨k, 0, none⟩)] w fun e w' => e = .returned (.int .i64 I.m.length) ∧ w = w' := by
  obtain ⟨hw, bm, hat, hm⟩ := h
  have hc := hat.cells
  have hl := fun ty => run_len_map (P := Tryz.prog) Tryz.underlying130 hm ty
  go_enter Tryz.func51, Tryz.ntmps51
  go_wp2
  go_ret
  exact ⟨rfl, rfl⟩
set_option maxRecDepth 100000 in
theorem RHeld_nil {w : World} :
    Calls Tryz.prog 51 #[.pointer none] w fun e w' => e = .returned (.int .i64 0) ∧ w = w' := by
  go_enter Tryz.func51, Tryz.ntmps51
  go_wp2
  go_ret
  exact ⟨rfl, rfl⟩
end Go.Proofs.YthliihmhkhabeaaGreatDoor
