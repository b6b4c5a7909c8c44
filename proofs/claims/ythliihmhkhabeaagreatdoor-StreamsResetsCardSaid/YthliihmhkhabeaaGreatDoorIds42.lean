/- The kinds of frames: the literal. No condition. -/
import Derived.Test.YthliihmhkhabeaaGreatDoorIds39
import Derived.Test.YthliihmhkhabeaaGreatDoorIds35
namespace Go.Proofs.YthliihmhkhabeaaGreatDoor
open Go Go.RowKit

def fnV (g : Nat) : Value := .func (.func g) #[] #[]
/-- The literal as it grows: nothing that was there is turned. -/
def LitK (w : World) (o : Own) (m : List (Int × Array Value)) (wx : World) : Prop :=
  MapAt wx (o.upd w.heap.size []) [] w.heap.size (m.map fun p => (intKey .i64 p.1, Value.agg p.2)) ∧ Chg [] w o wx (o.upd w.heap.size [])
theorem litStep {w wx : World} {o : Own} {m : List (Int × Array Value)} (h : LitK w o m wx) (k : Int) (v : Array Value) :
    ∃ w', (Instr.mapUpdate 115 (.map (some w.heap.size)) (.int .i64 k) (.agg v)).run Tryz.prog wx = .ok () w' ∧ LitK w o (mset m k v) w' := by
  obtain ⟨ob, h1, h2⟩ := run_mapUpdate (P := Tryz.prog) (V := Value.agg) (PlainKey.int' Tryz.underlying3) Tryz.underlying115 h.1 k v
  exact ⟨_, h1, h2, h.2.setOb ob (.inl (Nat.le_refl _))⟩
def kindsM : List (Int × Array Value) := [(0, #[fnV 96, fnV 107, fnV 108, fnV 105]), (1, #[fnV 100, fnV 109, fnV 104, fnV 105]), (30, #[fnV 100, fnV 109, fnV 104, fnV 105]), (2, #[fnV 110, fnV 111, fnV 112, fnV 113]), (4, #[fnV 114, fnV 109, fnV 115, fnV 116]), (5, #[fnV 117, fnV 109, fnV 118, fnV 119]), (6, #[fnV 120, fnV 121, fnV 122, fnV 123]), (7, #[fnV 99, fnV 124, fnV 126, fnV 127]), (8, #[fnV 128, fnV 121, .nilFunc, .nilFunc]), (16, #[fnV 96, fnV 109, fnV 101, fnV 90]), (20, #[fnV 96, fnV 109, fnV 101, fnV 90]), (17, #[fnV 97, fnV 109, fnV 102, fnV 93]), (21, #[fnV 97, fnV 109, fnV 102, fnV 93]), (18, #[fnV 98, fnV 129, fnV 101, fnV 90]), (22, #[fnV 98, fnV 129, fnV 101, fnV 90]), (24, #[fnV 130, fnV 131, fnV 132, fnV 134]), (25, #[fnV 136, fnV 109, fnV 137, fnV 92]), (26, #[fnV 99, fnV 106, fnV 103, fnV 94]), (27, #[fnV 99, fnV 106, fnV 103, fnV 94]), (28, #[fnV 138, fnV 139, fnV 140, fnV 141])]
set_option maxHeartbeats 2000000 in
set_option maxRecDepth 100000 in
theorem Fkinds_ok (w : World) (o : Own) :
    Calls Tryz.prog 64 #[] w fun e w' => e = .returned (.map (some w.heap.size)) ∧ LitK w o kindsM w' := by
  have H0 : LitK w o [] (w.alloc (.map #[] 0)) := ⟨MapAt.new w o [], ((Chg.refl [] w o).alloc _).tag (Nat.le_refl _) []⟩
  have hmm := @run_makeMap Tryz.prog
  obtain ⟨w1, r1, H1⟩ := litStep H0 0 #[fnV 96, fnV 107, fnV 108, fnV 105]
  clear H0
  obtain ⟨w2, r2, H2⟩ := litStep H1 1 #[fnV 100, fnV 109, fnV 104, fnV 105]
  clear H1
  obtain ⟨w3, r3, H3⟩ := litStep H2 30 #[fnV 100, fnV 109, fnV 104, fnV 105]
  clear H2
  obtain ⟨w4, r4, H4⟩ := litStep H3 2 #[fnV 110, fnV 111, fnV 112, fnV 113]
  clear H3
  obtain ⟨w5, r5, H5⟩ := litStep H4 4 #[fnV 114, fnV 109, fnV 115, fnV 116]
  clear H4
  obtain ⟨w6, r6, H6⟩ := litStep H5 5 #[fnV 117, fnV 109, fnV 118, fnV 119]
  clear H5
  obtain ⟨w7, r7, H7⟩ := litStep H6 6 #[fnV 120, fnV 121, fnV 122, fnV 123]
  clear H6
  obtain ⟨w8, r8, H8⟩ := litStep H7 7 #[fnV 99, fnV 124, fnV 126, fnV 127]
  clear H7
  obtain ⟨w9, r9, H9⟩ := litStep H8 8 #[fnV 128, fnV 121, .nilFunc, .nilFunc]
  clear H8
  obtain ⟨w10, r10, H10⟩ := litStep H9 16 #[fnV 96, fnV 109, fnV 101, fnV 90]
  clear H9
  obtain ⟨w11, r11, H11⟩ := litStep H10 20 #[fnV 96, fnV 109, fnV 101, fnV 90]
  clear H10
  obtain ⟨w12, r12, H12⟩ := litStep H11 17 #[fnV 97, fnV 109, fnV 102, fnV 93]
  clear H11
  obtain ⟨w13, r13, H13⟩ := litStep H12 21 #[fnV 97, fnV 109, fnV 102, fnV 93]
  clear H12
  obtain ⟨w14, r14, H14⟩ := litStep H13 18 #[fnV 98, fnV 129, fnV 101, fnV 90]
  clear H13
  obtain ⟨w15, r15, H15⟩ := litStep H14 22 #[fnV 98, fnV 129, fnV 101, fnV 90]
  clear H14
  obtain ⟨w16, r16, H16⟩ := litStep H15 24 #[fnV 130, fnV 131, fnV 132, fnV 134]
  clear H15
  obtain ⟨w17, r17, H17⟩ := litStep H16 25 #[fnV 136, fnV 109, fnV 137, fnV 92]
  clear H16
  obtain ⟨w18, r18, H18⟩ := litStep H17 26 #[fnV 99, fnV 106, fnV 103, fnV 94]
  clear H17
  obtain ⟨w19, r19, H19⟩ := litStep H18 27 #[fnV 99, fnV 106, fnV 103, fnV 94]
  clear H18
  obtain ⟨w20, r20, H20⟩ := litStep H19 28 #[fnV 138, fnV 139, fnV 140, fnV 141]
  clear H19
  unfold fnV at *
  have HL := Lib.hid H20
  clear H20
  go_enter Tryz.func64, Tryz.ntmps64
  go_wp2
  go_ret
  exact ⟨rfl, HL.out⟩
end Go.Proofs.YthliihmhkhabeaaGreatDoor
