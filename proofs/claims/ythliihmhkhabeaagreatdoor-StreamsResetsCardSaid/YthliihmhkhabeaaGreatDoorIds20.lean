/- Integers of unlike lengths, II: put. No condition. -/
import Derived.Test.YthliihmhkhabeaaGreatDoorIds19
import Derived.Laws.MakeOwn
namespace Go.Proofs.YthliihmhkhabeaaGreatDoor
open Go Go.RowKit

def iv8 (z : Int) : Value := .int .u8 z
/-- A new slice of so many bytes; nothing else was turned. -/
def NewB (w : World) (o : Own) (td : Tag) (n : Nat) (e : Ending) (w' : World) : Prop :=
  ∃ (v : Value) (xs : List Int) (o' : Own), e = .returned v ∧ Row w' o' td 5 v (xs.map iv8) ∧ xs.length = n ∧ Chg [] w o w' o' ∧ ∀ g, v.ownBlock = some g → w.heap.size ≤ g

theorem makeU8 (w : World) (s : Nat) (hs : s ≤ 8) : (Instr.makeSlice 42 (.int .i64 s) (.int .i64 s)).run Tryz.prog w = .ok (.slice (some ⟨w.heap.size, 0, none⟩) s s) (w.alloc (.cells (madeCells #[.int .u8 0] s) 5)) := by
  obtain ⟨i, hi, hz, hsz, hb⟩ := infoU8'
  have h := run_make (P := Tryz.prog) w 42 5 i (.int .u8 0) Tryz.underlying42 hi hz .i64 .i64 s s (by omega) (Int.le_refl _) (by rw [hb]; omega) (by omega)
  rw [h, hsz]
  simp [Value.cells]

/-- The slice while it is filled. -/
def WideSt (w : World) (o : Own) (td : Tag) (s : Nat) (wr : World) : Prop :=
  ∃ (xs : List Int) (o' : Own), xs.length = s ∧ Row wr o' td 5 (.slice (some ⟨w.heap.size, 0, none⟩) s s) (xs.map iv8) ∧ Chg [] w o wr o'
theorem WideSt.cell {w wr : World} {o : Own} {td : Tag} {s : Nat} (h : WideSt w o td s wr) (i : Nat) (hi : i < s) : ∃ z : Int, wr.cell? ⟨w.heap.size, i, none⟩ = some (.int .u8 z) ∧ wr.frozen? ⟨w.heap.size, i, none⟩ = false := by
  obtain ⟨xs, o', hl, hr, _⟩ := h
  rw [← hl] at hr
  have hr2 : Row wr o' td 5 (.slice (some ⟨w.heap.size, 0, none⟩) (xs.map iv8).length xs.length) (xs.map iv8) := by rw [List.length_map]; exact hr
  obtain ⟨_, h2, h3⟩ := hr2.cell
  refine ⟨xs[i], ?_, h3 i⟩
  rw [h2 i (by rw [List.length_map]; omega), List.getElem?_map, List.getElem?_eq_getElem (by omega)]
  rfl
theorem WideSt.set {w wr : World} {o : Own} {td : Tag} {s : Nat} (h : WideSt w o td s wr) (i : Nat) (z : Int) : WideSt w o td s (wr.setCell ⟨w.heap.size, i, none⟩ (.int .u8 z)) := by
  obtain ⟨xs, o', hl, hr, hc⟩ := h
  rw [← hl] at hr ⊢
  have hr2 : Row wr o' td 5 (.slice (some ⟨w.heap.size, 0, none⟩) (xs.map iv8).length xs.length) (xs.map iv8) := by rw [List.length_map]; exact hr
  have hs := hr2.set (j := i) (u := .int .u8 z)
  refine ⟨xs.set i z, o', by simp, ?_, hc.setCell _ (.inl (Nat.le_refl _))⟩
  rw [List.map_set]
  rw [List.length_map] at hs
  exact hs
theorem WideSt.drewN {w wr : World} {o : Own} {td : Tag} {s : Nat} (h : WideSt w o td s wr) (n : Nat) : WideSt w o td s (wr.drewN n) := by
  obtain ⟨xs, o', hl, hr, hc⟩ := h
  exact ⟨xs, o', hl, hr.drewN n, hc.drewN n⟩
theorem WideSt.start {w : World} {o : Own} {td : Tag} (s : Nat) (hs : s ≤ 8) : WideSt w o td s (w.alloc (.cells (madeCells #[.int .u8 0] s) 5)) := by
  refine ⟨List.replicate s 0, o.upd w.heap.size td, by simp, Row.of_form (cap := s) (by simp) (At.new w o td _) (by simp) (by simp [maxLen]; omega) (size_madeCells _ _) ?_, ((Chg.refl [] w o).alloc _).tag (Nat.le_refl _) td⟩
  have : madeCells #[.int .u8 0] s = ((List.replicate s 0).map iv8).toArray := by
    apply Array.ext
    · simp [size_madeCells]
    · intro i h1 h2
      simp [madeCells, iv8, Nat.mod_one]
  rw [this]
  simp
theorem WideSt.done {w wr : World} {o : Own} {td : Tag} {s : Nat} (h : WideSt w o td s wr) : NewB w o td s (.returned (.slice (some ⟨w.heap.size, 0, none⟩) s s)) wr := by
  obtain ⟨xs, o', hl, hr, hc⟩ := h
  exact ⟨_, xs, o', rfl, hr, hl, hc, fun g hg => by simp [Value.ownBlock] at hg; omega⟩
theorem WideSt.tab {w wr : World} {o : Own} {td : Tag} {s : Nat} (h : WideSt w o td s wr) (hg : GTab w o) : ∃ o', GTab wr o' := by
  obtain ⟨xs, o', hl, hr, hc⟩ := h
  exact ⟨o', hg.chg hc (off_nil _)⟩

set_option maxHeartbeats 2000000 in
set_option maxRecDepth 100000 in
theorem VWide1 {w : World} {o : Own} (h : GTab w o) (n : Nat) (hn : n < 18446744073709551616) (hs : vsize n = 1) (td : Tag) :
    Calls Tryz.prog 171 #[.int .u64 n, .int .i64 1] w (NewB w o td 1) := by
  have H1 := VSize_ok n hn w
  rw [hs] at H1
  have H2 := Ones_ok 1 (by omega) w
  have hmk : (Instr.makeSlice 42 (.int .i64 1) (.int .i64 1)).run Tryz.prog w = .ok (.slice (some ⟨w.heap.size, 0, none⟩) 1 1) (w.alloc (.cells (madeCells #[.int .u8 0] 1) 5)) := makeU8 w 1 (by omega)
  have HS : RowKit.Hid (WideSt w o td 1 (w.alloc (.cells (madeCells #[.int .u8 0] 1) 5))) := WideSt.start 1 (by omega)
  generalize hW : w.alloc (.cells (madeCells #[.int .u8 0] 1) 5) = W at *
  have HG := Lib.hid h
  clear h hs hW
  go_enter Tryz.func171, Tryz.ntmps171
  go_wp2_with (first
    | (go_at_call 172; refine H1.mono ?_; rintro e w' ⟨rfl, rfl⟩)
    | (go_at_call 183; refine H2.mono ?_; rintro e w' ⟨rfl, rfl⟩))
  clear H1 H2 hmk
  go_loopw [31] (fun i wr => ∃ j : Nat, i = .int .i64 j ∧ j ≤ 1 ∧ WideSt w o td 1 wr) (fun i _ => 1 - (intOf i).toNat)
  case atStart => exact ⟨0, rfl, by omega, HS.out⟩
  case round =>
    obtain ⟨j, rfl, hj, hst⟩ := hrel
    have Hst := Lib.hid hst
    clear hst
    rcases (by omega : j = 0 ∨ j = 1) with rfl | rfl
    · obtain ⟨z, hc, hf⟩ := Hst.out.cell 0 (by omega)
      go_wp2
      go_round
      case rel => exact ⟨1, by go_num, by omega, by first | exact Hst.out.set 0 _ | exact (Hst.out.drewN _).set 0 _⟩
      case measure => simp [intOf]
    · obtain ⟨z, hc, hf⟩ := Hst.out.cell 0 (by omega)
      obtain ⟨o', hg⟩ := Hst.out.tab HG.out
      have H3 := Lib.hid (Trail_ok (hg.drewN 1) 1 0 (by omega))
      clear hg hj
      go_upto_region 10 with fail
      refine wp_region_still_tail 10 (by kernel_rfl) (by kernel_rfl) ?_
      simp only [List.take_succ_cons, List.take_zero, List.drop_succ_cons, List.drop_zero]
      repeat still_step
      still_call (H3.out.mono fun _ _ ⟨h1, h2⟩ => ⟨h1, h2.symm⟩)
      repeat still_step
      refine wpStill_nil ?_
      go_wp2
      go_ret
      exact ((Hst.out.drewN 1).set 0 _).done

set_option maxHeartbeats 2000000 in
set_option maxRecDepth 100000 in
theorem VWide2 {w : World} {o : Own} (h : GTab w o) (n : Nat) (hn : n < 18446744073709551616) (hs : vsize n = 2) (td : Tag) :
    Calls Tryz.prog 171 #[.int .u64 n, .int .i64 2] w (NewB w o td 2) := by
  have H1 := VSize_ok n hn w
  rw [hs] at H1
  have H2 := Ones_ok 2 (by omega) w
  have hmk : (Instr.makeSlice 42 (.int .i64 2) (.int .i64 2)).run Tryz.prog w = .ok (.slice (some ⟨w.heap.size, 0, none⟩) 2 2) (w.alloc (.cells (madeCells #[.int .u8 0] 2) 5)) := makeU8 w 2 (by omega)
  have HS : RowKit.Hid (WideSt w o td 2 (w.alloc (.cells (madeCells #[.int .u8 0] 2) 5))) := WideSt.start 2 (by omega)
  generalize hW : w.alloc (.cells (madeCells #[.int .u8 0] 2) 5) = W at *
  have HG := Lib.hid h
  clear h hs hW
  go_enter Tryz.func171, Tryz.ntmps171
  go_wp2_with (first
    | (go_at_call 172; refine H1.mono ?_; rintro e w' ⟨rfl, rfl⟩)
    | (go_at_call 183; refine H2.mono ?_; rintro e w' ⟨rfl, rfl⟩))
  clear H1 H2 hmk
  go_loopw [31] (fun i wr => ∃ j : Nat, i = .int .i64 j ∧ j ≤ 2 ∧ WideSt w o td 2 wr) (fun i _ => 2 - (intOf i).toNat)
  case atStart => exact ⟨0, rfl, by omega, HS.out⟩
  case round =>
    obtain ⟨j, rfl, hj, hst⟩ := hrel
    have Hst := Lib.hid hst
    clear hst
    rcases (by omega : j = 0 ∨ j = 1 ∨ j = 2) with rfl | rfl | rfl
    · obtain ⟨z, hc, hf⟩ := Hst.out.cell 1 (by omega)
      go_wp2
      go_round
      case rel => exact ⟨1, by go_num, by omega, by first | exact Hst.out.set 1 _ | exact (Hst.out.drewN _).set 1 _⟩
      case measure => simp [intOf]
    · obtain ⟨z, hc, hf⟩ := Hst.out.cell 0 (by omega)
      go_wp2
      go_round
      case rel => exact ⟨2, by go_num, by omega, by first | exact Hst.out.set 0 _ | exact (Hst.out.drewN _).set 0 _⟩
      case measure => simp [intOf]
    · obtain ⟨z, hc, hf⟩ := Hst.out.cell 0 (by omega)
      obtain ⟨o', hg⟩ := Hst.out.tab HG.out
      have H3 := Lib.hid (Trail_ok (hg.drewN 1) 2 1 (by omega))
      clear hg hj
      go_upto_region 10 with fail
      refine wp_region_still_tail 10 (by kernel_rfl) (by kernel_rfl) ?_
      simp only [List.take_succ_cons, List.take_zero, List.drop_succ_cons, List.drop_zero]
      repeat still_step
      still_call (H3.out.mono fun _ _ ⟨h1, h2⟩ => ⟨h1, h2.symm⟩)
      repeat still_step
      refine wpStill_nil ?_
      go_wp2
      go_ret
      exact ((Hst.out.drewN 1).set 0 _).done

set_option maxHeartbeats 2000000 in
set_option maxRecDepth 100000 in
theorem VWide4 {w : World} {o : Own} (h : GTab w o) (n : Nat) (hn : n < 18446744073709551616) (hs : vsize n = 4) (td : Tag) :
    Calls Tryz.prog 171 #[.int .u64 n, .int .i64 4] w (NewB w o td 4) := by
  have H1 := VSize_ok n hn w
  rw [hs] at H1
  have H2 := Ones_ok 4 (by omega) w
  have hmk : (Instr.makeSlice 42 (.int .i64 4) (.int .i64 4)).run Tryz.prog w = .ok (.slice (some ⟨w.heap.size, 0, none⟩) 4 4) (w.alloc (.cells (madeCells #[.int .u8 0] 4) 5)) := makeU8 w 4 (by omega)
  have HS : RowKit.Hid (WideSt w o td 4 (w.alloc (.cells (madeCells #[.int .u8 0] 4) 5))) := WideSt.start 4 (by omega)
  generalize hW : w.alloc (.cells (madeCells #[.int .u8 0] 4) 5) = W at *
  have HG := Lib.hid h
  clear h hs hW
  go_enter Tryz.func171, Tryz.ntmps171
  go_wp2_with (first
    | (go_at_call 172; refine H1.mono ?_; rintro e w' ⟨rfl, rfl⟩)
    | (go_at_call 183; refine H2.mono ?_; rintro e w' ⟨rfl, rfl⟩))
  clear H1 H2 hmk
  go_loopw [31] (fun i wr => ∃ j : Nat, i = .int .i64 j ∧ j ≤ 4 ∧ WideSt w o td 4 wr) (fun i _ => 4 - (intOf i).toNat)
  case atStart => exact ⟨0, rfl, by omega, HS.out⟩
  case round =>
    obtain ⟨j, rfl, hj, hst⟩ := hrel
    have Hst := Lib.hid hst
    clear hst
    rcases (by omega : j = 0 ∨ j = 1 ∨ j = 2 ∨ j = 3 ∨ j = 4) with rfl | rfl | rfl | rfl | rfl
    · obtain ⟨z, hc, hf⟩ := Hst.out.cell 3 (by omega)
      go_wp2
      go_round
      case rel => exact ⟨1, by go_num, by omega, by first | exact Hst.out.set 3 _ | exact (Hst.out.drewN _).set 3 _⟩
      case measure => simp [intOf]
    · obtain ⟨z, hc, hf⟩ := Hst.out.cell 2 (by omega)
      go_wp2
      go_round
      case rel => exact ⟨2, by go_num, by omega, by first | exact Hst.out.set 2 _ | exact (Hst.out.drewN _).set 2 _⟩
      case measure => simp [intOf]
    · obtain ⟨z, hc, hf⟩ := Hst.out.cell 1 (by omega)
      go_wp2
      go_round
      case rel => exact ⟨3, by go_num, by omega, by first | exact Hst.out.set 1 _ | exact (Hst.out.drewN _).set 1 _⟩
      case measure => simp [intOf]
    · obtain ⟨z, hc, hf⟩ := Hst.out.cell 0 (by omega)
      go_wp2
      go_round
      case rel => exact ⟨4, by go_num, by omega, by first | exact Hst.out.set 0 _ | exact (Hst.out.drewN _).set 0 _⟩
      case measure => simp [intOf]
    · obtain ⟨z, hc, hf⟩ := Hst.out.cell 0 (by omega)
      obtain ⟨o', hg⟩ := Hst.out.tab HG.out
      have H3 := Lib.hid (Trail_ok (hg.drewN 1) 4 2 (by omega))
      clear hg hj
      go_upto_region 10 with fail
      refine wp_region_still_tail 10 (by kernel_rfl) (by kernel_rfl) ?_
      simp only [List.take_succ_cons, List.take_zero, List.drop_succ_cons, List.drop_zero]
      repeat still_step
      still_call (H3.out.mono fun _ _ ⟨h1, h2⟩ => ⟨h1, h2.symm⟩)
      repeat still_step
      refine wpStill_nil ?_
      go_wp2
      go_ret
      exact ((Hst.out.drewN 1).set 0 _).done

set_option maxHeartbeats 2000000 in
set_option maxRecDepth 100000 in
theorem VWide8 {w : World} {o : Own} (h : GTab w o) (n : Nat) (hn : n < 18446744073709551616) (hs : vsize n = 8) (td : Tag) :
    Calls Tryz.prog 171 #[.int .u64 n, .int .i64 8] w (NewB w o td 8) := by
  have H1 := VSize_ok n hn w
  rw [hs] at H1
  have H2 := Ones_ok 8 (by omega) w
  have hmk : (Instr.makeSlice 42 (.int .i64 8) (.int .i64 8)).run Tryz.prog w = .ok (.slice (some ⟨w.heap.size, 0, none⟩) 8 8) (w.alloc (.cells (madeCells #[.int .u8 0] 8) 5)) := makeU8 w 8 (by omega)
  have HS : RowKit.Hid (WideSt w o td 8 (w.alloc (.cells (madeCells #[.int .u8 0] 8) 5))) := WideSt.start 8 (by omega)
  generalize hW : w.alloc (.cells (madeCells #[.int .u8 0] 8) 5) = W at *
  have HG := Lib.hid h
  clear h hs hW
  go_enter Tryz.func171, Tryz.ntmps171
  go_wp2_with (first
    | (go_at_call 172; refine H1.mono ?_; rintro e w' ⟨rfl, rfl⟩)
    | (go_at_call 183; refine H2.mono ?_; rintro e w' ⟨rfl, rfl⟩))
  clear H1 H2 hmk
  go_loopw [31] (fun i wr => ∃ j : Nat, i = .int .i64 j ∧ j ≤ 8 ∧ WideSt w o td 8 wr) (fun i _ => 8 - (intOf i).toNat)
  case atStart => exact ⟨0, rfl, by omega, HS.out⟩
  case round =>
    obtain ⟨j, rfl, hj, hst⟩ := hrel
    have Hst := Lib.hid hst
    clear hst
    rcases (by omega : j = 0 ∨ j = 1 ∨ j = 2 ∨ j = 3 ∨ j = 4 ∨ j = 5 ∨ j = 6 ∨ j = 7 ∨ j = 8) with rfl | rfl | rfl | rfl | rfl | rfl | rfl | rfl | rfl
    · obtain ⟨z, hc, hf⟩ := Hst.out.cell 7 (by omega)
      go_wp2
      go_round
      case rel => exact ⟨1, by go_num, by omega, by first | exact Hst.out.set 7 _ | exact (Hst.out.drewN _).set 7 _⟩
      case measure => simp [intOf]
    · obtain ⟨z, hc, hf⟩ := Hst.out.cell 6 (by omega)
      go_wp2
      go_round
      case rel => exact ⟨2, by go_num, by omega, by first | exact Hst.out.set 6 _ | exact (Hst.out.drewN _).set 6 _⟩
      case measure => simp [intOf]
    · obtain ⟨z, hc, hf⟩ := Hst.out.cell 5 (by omega)
      go_wp2
      go_round
      case rel => exact ⟨3, by go_num, by omega, by first | exact Hst.out.set 5 _ | exact (Hst.out.drewN _).set 5 _⟩
      case measure => simp [intOf]
    · obtain ⟨z, hc, hf⟩ := Hst.out.cell 4 (by omega)
      go_wp2
      go_round
      case rel => exact ⟨4, by go_num, by omega, by first | exact Hst.out.set 4 _ | exact (Hst.out.drewN _).set 4 _⟩
      case measure => simp [intOf]
    · obtain ⟨z, hc, hf⟩ := Hst.out.cell 3 (by omega)
      go_wp2
      go_round
      case rel => exact ⟨5, by go_num, by omega, by first | exact Hst.out.set 3 _ | exact (Hst.out.drewN _).set 3 _⟩
      case measure => simp [intOf]
    · obtain ⟨z, hc, hf⟩ := Hst.out.cell 2 (by omega)
      go_wp2
      go_round
      case rel => exact ⟨6, by go_num, by omega, by first | exact Hst.out.set 2 _ | exact (Hst.out.drewN _).set 2 _⟩
      case measure => simp [intOf]
    · obtain ⟨z, hc, hf⟩ := Hst.out.cell 1 (by omega)
      go_wp2
      go_round
      case rel => exact ⟨7, by go_num, by omega, by first | exact Hst.out.set 1 _ | exact (Hst.out.drewN _).set 1 _⟩
      case measure => simp [intOf]
    · obtain ⟨z, hc, hf⟩ := Hst.out.cell 0 (by omega)
      go_wp2
      go_round
      case rel => exact ⟨8, by go_num, by omega, by first | exact Hst.out.set 0 _ | exact (Hst.out.drewN _).set 0 _⟩
      case measure => simp [intOf]
    · obtain ⟨z, hc, hf⟩ := Hst.out.cell 0 (by omega)
      obtain ⟨o', hg⟩ := Hst.out.tab HG.out
      have H3 := Lib.hid (Trail_ok (hg.drewN 1) 8 3 (by omega))
      clear hg hj
      go_upto_region 10 with fail
      refine wp_region_still_tail 10 (by kernel_rfl) (by kernel_rfl) ?_
      simp only [List.take_succ_cons, List.take_zero, List.drop_succ_cons, List.drop_zero]
      repeat still_step
      still_call (H3.out.mono fun _ _ ⟨h1, h2⟩ => ⟨h1, h2.symm⟩)
      repeat still_step
      refine wpStill_nil ?_
      go_wp2
      go_ret
      exact ((Hst.out.drewN 1).set 0 _).done
end Go.Proofs.YthliihmhkhabeaaGreatDoor
/- Integers of unlike lengths, III: put; several of them; bytes with how many they are. No condition. -/
namespace Go.Proofs.YthliihmhkhabeaaGreatDoor
open Go Go.RowKit

theorem NewB.nil (w : World) (o : Own) (td : Tag) : NewB w o td 0 (.returned (.slice none 0 0)) w :=
  ⟨_, [], o, rfl, Row.nil _ _ _ _, rfl, Chg.refl _ _ _, fun g h => by simp [Value.ownBlock] at h⟩
set_option maxHeartbeats 1000000 in
set_option maxRecDepth 100000 in
theorem VWide0 {w : World} {o : Own} (n : Nat) (hn : n < 18446744073709551616) (hs : vsize n = 0) (td : Tag) :
    Calls Tryz.prog 171 #[.int .u64 n, .int .i64 0] w (NewB w o td 0) := by
  have H1 := VSize_ok n hn w
  rw [hs] at H1
  have H0 := Lib.hid (NewB.nil w o td)
  clear hs
  go_enter Tryz.func171, Tryz.ntmps171
  go_wp2_with (first
    | (go_at_call 172; refine H1.mono ?_; rintro e w' ⟨rfl, rfl⟩))
  go_ret
  exact H0.out
theorem VWide_ok {w : World} {o : Own} (h : GTab w o) (n : Nat) (hn : n < 18446744073709551616) (td : Tag) :
    Calls Tryz.prog 171 #[.int .u64 n, .int .i64 (vsize n : Nat)] w (NewB w o td (vsize n)) := by
  rcases vsize_cases n with hs | hs | hs | hs | hs <;> rw [hs]
  · exact VWide1 h n hn hs td
  · exact VWide2 h n hn hs td
  · exact VWide4 h n hn hs td
  · exact VWide8 h n hn hs td
  · exact VWide0 n hn hs td
set_option maxHeartbeats 1000000 in
set_option maxRecDepth 100000 in
theorem VPut_ok {w : World} {o : Own} (h : GTab w o) (n : Nat) (hn : n < 18446744073709551616) (td : Tag) :
    Calls Tryz.prog 142 #[.int .u64 n] w (NewB w o td (vsize n)) := by
  have H1 := VSize_ok n hn w
  have H2 := Lib.hid (VWide_ok h n hn td)
  clear h
  go_enter Tryz.func142, Tryz.ntmps142
  go_wp2_with (first
    | (go_at_call 172; refine H1.mono ?_; rintro e w' ⟨rfl, rfl⟩)
    | (go_at_call 171; refine H2.out.mono ?_; rintro e w' ⟨v, xs, o', rfl, h1, h2, h3, h4⟩))
  go_ret
  exact ⟨v, xs, o', rfl, h1, h2, h3, h4⟩

/-- append onto a row of one's own, of what is read (nil let in): the row's block, or a new one. -/
theorem run_append_rowF {P : Program} (w : World) (ty tt e : TypeId) (i : TypeInfo) (z : Value) (ht : P.underlying tt = some (.slice e)) (hi : P.info? e = some i) (hz : i.zero = some z)
    (hs : i.size = 1) (hby : i.bytes ≤ 16) (hzs : z.cells.size = 1) {o : Own} {t s : Tag} {v v2 : Value} {xs ys : List Value} (hr : Row w o t e v xs) (hy : Sl w o s v2 ys)
    (h1 : ∀ u ∈ ys, u.oneCell' = true) (hb : xs.length + ys.length ≤ 1000000000000) :
    ∃ v' w' o', (Builtin.append_ #[tt, tt] ty #[v, v2]).run P w = .ok v' w' ∧ Row w' o' t e v' (xs ++ ys) ∧ w.grownBy w' v.ownBlock ∧ Chg [t] w o w' o' ∧ (∀ k, k < w.heap.size → o' k = o k) ∧ (∀ g, v'.ownBlock = some g → v.ownBlock = some g ∨ w.heap.size ≤ g) := by
  obtain ⟨A, c, rfl, hc1, hc2, _, hc3⟩ := hy
  by_cases h0 : ys.length = 0
  · have hys : ys = [] := List.eq_nil_of_length_eq_zero h0
    subst hys
    refine ⟨v, w, o, ?_, by simpa using hr, ⟨rfl, rfl, rfl, Nat.le_refl _, fun _ _ _ => rfl⟩, Chg.refl _ _ _, fun _ _ => rfl, fun g hg => .inl hg⟩
    rcases hr.form with ⟨rfl, rfl⟩ | ⟨g, cap, cur, rfl, hg, hn, hm, hcs, htk⟩
    · exact run_append_empty w ty tt e i ht hi none 0 0 A c (Nat.le_refl _)
    · exact run_append_empty w ty tt e i ht hi _ _ _ A c hn
  · obtain ⟨b, f, rfl, ho, hcell⟩ := hc3 (by omega)
    have hnews : ∀ j u, ys[j]? = some u → w.cell? ((⟨b, f, none⟩ : Addr).add j) = some u := fun j u hu => by
      have hj : j < ys.length := (List.getElem?_eq_some_iff.1 hu).1
      have e1 : (⟨b, f, none⟩ : Addr).add j = ⟨b, f + j, none⟩ := by unfold Addr.add; split <;> simp_all
      rw [e1, hcell j hj, hu]
    rcases hr.form with ⟨rfl, rfl⟩ | ⟨g, cap, cur, rfl, hg, hn, hm, hcs, htk⟩
    · obtain ⟨v', w', hrun, hown, hgb, _⟩ := run_append_own (P := P) w w.heap.size tt ty e i z 1 i.bytes ht hi hz hs rfl hzs (by omega) (.slice none 0 0) 0 [] (World.ownsRow_nil w _ e 1) ⟨b, f, none⟩ ys.length c ys (by simp) hnews h1 (by simp [maxLen]; simp at hb; omega) (by simp at hb ⊢; calc ys.length * i.bytes ≤ ys.length * 16 := Nat.mul_le_mul_left _ hby
                                                    _ ≤ _ := by omega) (Nat.le_refl _)
      simp only [Nat.zero_add, List.nil_append] at hown ⊢
      rcases hown with ⟨_, ⟨rfl, hz'⟩ | ⟨g', cap', cur', rfl, hbase, hg', hn', hm', hs', ht'⟩⟩
      · exact absurd hz' h0
      · refine ⟨_, w', o.upd g' t, hrun, Row.of_form rfl ⟨hg', Own.upd_same _ _ _⟩ hn' hm' (by simpa using hs') (by simpa using ht'), hgb, ?_, fun k hk => Own.upd_ne _ _ (by omega), fun q hq => .inr (by simp [Value.ownBlock] at hq; omega)⟩
        exact (Chg.grown (Chg.refl [t] w o) hgb (fun k hk => by simp [Value.ownBlock] at hk)).tag hbase t
    · by_cases hroom : xs.length + ys.length ≤ cap
      · have hrun := run_append_room (P := P) w tt ty e i ht hi g xs.length cap cur hg.1 ⟨b, f, none⟩ ys.length c ys (by rw [hs]; simp) hnews h1 hroom (by rw [hs]; omega)
        refine ⟨_, _, o, hrun, Row.of_form (by simp) ⟨setRow_heap w g cur _ e _ hg.1, hg.2⟩ (by simpa using hroom) hm ?_ ?_, ⟨rfl, rfl, rfl, by simp, fun k _ hk => setRow_other w g k _ (fun e => hk (by simp [Value.ownBlock, e]))⟩, ?_, fun _ _ => rfl, fun q hq => .inl hq⟩
        · simp [hs]; omega
        · simp only [hs, Nat.mul_one]
          rw [htk]
          simp [List.take_append, List.take_of_length_le]
        · refine Chg.grown (row := some g) (Chg.refl [t] w o) ⟨rfl, rfl, rfl, by simp, fun k _ hk => setRow_other w g k _ (fun e => hk (by simp [e]))⟩ (fun k hk => .inr ?_)
          injection hk with hk
          subst hk
          intro hh
          exact hh t (by simp) (by rw [hg.2]; exact List.suffix_refl _)
      · have hrun := run_append_grow (P := P) w tt ty e i z ht hi hz ⟨g, 0, none⟩ xs.length cap xs (by rw [hs]; simp) (fun j u hu => by
            have hj : j < xs.length := (List.getElem?_eq_some_iff.1 hu).1
            have e1 : (⟨g, 0, none⟩ : Addr).add j = ⟨g, j, none⟩ := by unfold Addr.add; split <;> simp_all
            rw [e1, hg.cells j, ← Array.getElem?_toList]
            rw [← htk, List.getElem?_take] at hu
            simpa [hj] using hu) ⟨b, f, none⟩ ys.length c ys (by rw [hs]; simp) hnews (by omega) (by omega) (growslice_fits (by omega) (by calc (xs.length + ys.length) * i.bytes ≤ (xs.length + ys.length) * 16 := Nat.mul_le_mul_left _ hby
                                                    _ ≤ _ := by omega))
        have hge := grownCap_ge w (xs.length + ys.length) cap e
        have hcm : grownCap w (xs.length + ys.length) cap e ≤ maxLen := grownCap_le_maxLen w _ cap e (by simp only [maxLen]; omega)
        refine ⟨_, _, o.upd w.heap.size t, hrun, Row.of_form (by simp) (At.new w.drew o t _) (by simpa using hge) hcm ?_ ?_, ⟨rfl, rfl, rfl, by simp, fun k hk _ => Below.heap_alloc w.drew _ k hk⟩, ?_, fun k hk => Own.upd_ne _ _ (by omega), fun q hq => .inr (by simp [Value.ownBlock] at hq; omega)⟩
        · simp [size_zeroCells, hzs]; omega
        · simp [List.take_append, List.take_of_length_le]
        · exact (((Chg.refl [t] w o).drew).alloc _).tag (Nat.le_refl _) t

theorem iv8_one (xs : List Int) : ∀ u ∈ xs.map iv8, u.oneCell' = true := by
  intro u hu
  obtain ⟨x, _, rfl⟩ := List.mem_map.1 hu
  rfl
/-- A slice of bytes that is gathered: it has so many. -/
def GatherAt (w : World) (o : Own) (td : Tag) (n : Nat) (v : Value) (wr : World) (o' : Own) : Prop :=
  ∃ xs : List Int, Row wr o' td 5 v (xs.map iv8) ∧ xs.length = n ∧ Chg [] w o wr o' ∧ ∀ g, v.ownBlock = some g → w.heap.size ≤ g
def GatherB (w : World) (o : Own) (td : Tag) (n : Nat) (v : Value) (wr : World) : Prop := ∃ o', GatherAt w o td n v wr o'
theorem GatherAt.chg {w wr : World} {o o' : Own} {td : Tag} {n : Nat} {v : Value} (h : GatherAt w o td n v wr o') : Chg [] w o wr o' := by
  obtain ⟨_, _, _, h, _⟩ := h; exact h
theorem GatherB.nil (w : World) (o : Own) (td : Tag) : GatherB w o td 0 (.slice none 0 0) w := ⟨o, [], Row.nil _ _ _ _, rfl, Chg.refl _ _ _, fun g h => by simp [Value.ownBlock] at h⟩
theorem GatherB.done {w wr : World} {o : Own} {td : Tag} {n : Nat} {v : Value} (h : GatherB w o td n v wr) : NewB w o td n (.returned v) wr := by
  obtain ⟨o', xs, h1, h2, h3, h4⟩ := h
  exact ⟨v, xs, o', rfl, h1, h2, h3, h4⟩
theorem GatherB.drewN {w wr : World} {o : Own} {td : Tag} {n : Nat} {v : Value} (h : GatherB w o td n v wr) (m : Nat) : GatherB w o td n v (wr.drewN m) := by
  obtain ⟨o', xs, h1, h2, h3, h4⟩ := h
  exact ⟨o', xs, h1.drewN m, h2, h3.drewN m, h4⟩
theorem GatherB.shape {w wr : World} {o : Own} {td : Tag} {n : Nat} {v : Value} (h : GatherB w o td n v wr) : ∃ A c, v = .slice A n c := by
  obtain ⟨o', xs, h1, h2, _⟩ := h
  obtain ⟨A, c, rfl, _⟩ := h1.sl
  exact ⟨A, c, by rw [List.length_map, h2]⟩
/-- More bytes behind it: they were read in the world as it stood. -/
theorem GatherAt.step {w wr w2 : World} {o o1 o2 : Own} {td ts : Tag} {n m : Nat} {v v2 : Value} {ys : List Value} (h : GatherAt w o td n v wr o1) (k5 : Chg [] wr o1 w2 o2) (k6 : Sl w2 o2 ts v2 ys) (hm : ys.length = m) (hb : n + m ≤ 1000000000) (ty : TypeId)
    (hiv : ∃ zs : List Int, ys = zs.map iv8) :
    ∃ A n' c w', (Builtin.append_ #[42, 42] ty #[v, v2]).run Tryz.prog w2 = .ok (.slice A n' c) w' ∧ RowKit.Hid (GatherB w o td (n + m) (.slice A n' c) w') := by
  obtain ⟨xs, k1, k2, k3, k4⟩ := h
  have h1 : ∀ u ∈ ys, u.oneCell' = true := by obtain ⟨zs, rfl⟩ := hiv; exact iv8_one zs
  obtain ⟨i, hi, hz, hs, hby⟩ := infoU8'
  obtain ⟨zs, rfl⟩ := hiv
  obtain ⟨v', w', o3, e1, e2, e3, e4, e5, e6⟩ := run_append_rowF w2 ty 42 5 i _ Tryz.underlying42 hi hz hs (by omega) rfl (k1.chg k5 (off_nil _)) k6 h1 (by rw [List.length_map, hm, k2]; omega)
  rw [← List.map_append] at e2
  obtain ⟨A, c, rfl, _⟩ := e2.sl
  rw [List.length_map] at hm
  refine ⟨A, _, c, w', e1, o3, xs ++ zs, e2, by simp; omega, (k3.trans k5).grown' e3 e5 fun g hg => .inl (k4 g hg), fun g hg => ?_⟩
  have hsz := (k3.trans k5).size
  rcases e6 g hg with h | h
  · exact k4 g h
  · omega

theorem newShape {w : World} {o : Own} {td : Tag} {v : Value} {ys : List Int} {m : Nat} (h : Row w o td 5 v (ys.map iv8)) (hm : ys.length = m) : ∃ A c, v = .slice A m c := by
  obtain ⟨A, c, rfl, _⟩ := h.sl
  exact ⟨A, c, by rw [List.length_map, hm]⟩
def isum (l : List Nat) : Nat := (l.map vsize).sum
def u64v (n : Nat) : Value := .int .u64 n
theorem vsize_le (n : Nat) : vsize n ≤ 8 := by
  rcases vsize_cases n with h | h | h | h | h <;> omega
theorem isum_take (l : List Nat) (j : Nat) (n : Nat) (h : l[j]? = some n) : isum (l.take (j + 1)) = isum (l.take j) + vsize n := by
  unfold isum
  rw [List.take_add_one, h]
  simp
theorem isum_le (l : List Nat) : isum l ≤ 8 * l.length := by
  induction l with
  | nil => simp [isum]
  | cons a l ih => unfold isum at ih ⊢; simp only [List.map_cons, List.sum_cons, List.length_cons]; have := vsize_le a; omega

set_option maxHeartbeats 1000000 in
set_option maxRecDepth 100000 in
theorem Fints_ok {w : World} {o : Own} (hg : GTab w o) {ts : Tag} {v : Value} (l : List Nat) (hv : Sl w o ts v (l.map u64v)) (hl : l.length ≤ 10) (h64 : ∀ n ∈ l, n < 18446744073709551616) (td : Tag) :
    Calls Tryz.prog 65 #[v] w (NewB w o td (isum l)) := by
  obtain ⟨A, c, rfl, hlc, hcm, _, hcell⟩ := id hv
  rw [List.length_map] at *
  have HV := Lib.hid hv; have HG := Lib.hid hg; have H64 := Lib.hid h64; have HC := Lib.hid hcell
  have H0 := Lib.hid (GatherB.nil w o td)
  clear hv hg h64 hcell
  go_enter Tryz.func65, Tryz.ntmps65
  go_wp2
  go_loopw [8, 3] (fun i s3 wr => ∃ j : Nat, i = .int .i64 j ∧ j ≤ l.length ∧ GatherB w o td (isum (l.take j)) s3 wr) (fun i _ _ => l.length - (intOf i).toNat)
  case atStart => exact ⟨0, rfl, Nat.zero_le _, H0.out⟩
  case round =>
    obtain ⟨j, rfl, hj, hst⟩ := hrel
    obtain ⟨A3, c3, hA3⟩ := hst.shape
    subst hA3
    have Hst := Lib.hid hst; clear hst
    by_cases hlt : j < l.length
    · have hjn : l[j]? = some l[j] := List.getElem?_eq_getElem hlt
      generalize l[j] = n at hjn
      have hnm : n ∈ l := List.mem_of_getElem? hjn
      have h64 := H64.out n hnm
      obtain ⟨b, f, rfl, hob, hcell⟩ := HC.out (by omega)
      have hsum := isum_take l j n hjn
      have hsl := isum_le (l.take j)
      rw [List.length_take, Nat.min_eq_left hj] at hsl
      have Hsum := Lib.hid hsum; clear hsum
      have hcj : wr.cell? ⟨b, f + j, none⟩ = some (.int .u64 n) := by
        obtain ⟨o', k3⟩ := Hst.out
        obtain ⟨_, _, h1, _, _, _, h2⟩ := HV.out.chg k3.chg (off_nil _)
        injection h1 with h1 _ _
        obtain ⟨b', f', h3, _, h4⟩ := h2 (by rw [List.length_map]; omega)
        rw [← h1] at h3
        injection h3 with h3
        injection h3 with h3 h5
        subst h3; subst h5
        rw [h4 j (by rw [List.length_map]; exact hlt), List.getElem?_map, hjn]
        rfl
      obtain ⟨o', k3⟩ := Hst.out
      have HP := Lib.hid (VPut_ok (HG.out.chg k3.chg (off_nil _)) n h64 [])
      have HGA := Lib.hid k3
      have hvs := vsize_le n
      generalize isum (l.take j) = q at *
      clear k3 hcell hnm hjn hob
      go_wp2_with (first
        | (go_at_call 142; refine HP.out.mono ?_; rintro e w' ⟨v2, ys, o2, rfl, p1, p2, p3, p4⟩; obtain ⟨A2, c2, hv2⟩ := newShape p1 p2; subst hv2; obtain ⟨A4, n4, c4, w4, e1, e2⟩ := HGA.out.step p3 p1.sl (by rw [List.length_map, p2]) (by omega) 42 ⟨ys, rfl⟩; clear p1 p2 p3 p4)
        | (at_builtin; refine Lib.wpList_append_run _ rfl _ _ _ _ rfl _ _ rfl rfl _ _ e1 ?_))
      go_round
      case rel =>
        refine ⟨j + 1, by go_num, by omega, ?_⟩
        rw [Hsum.out]
        exact e2.out
      case measure => simp [intOf]; omega
    · have hje : j = l.length := by omega
      subst hje
      go_wp2
      go_ret
      have hd := Hst.out.done
      rw [List.take_length] at hd
      show NewB w o td (isum l) (.returned (.slice A3 (isum (l.take l.length)) c3)) wr
      rw [List.take_length]
      exact hd

set_option maxHeartbeats 1000000 in
set_option maxRecDepth 100000 in
theorem Fdata_ok {w : World} {o : Own} (hg : GTab w o) {ts : Tag} {v : Value} (l : List Nat) (hv : Sl w o ts v (l.map bv)) (hl : l.length ≤ 100000) (td : Tag) :
    Calls Tryz.prog 66 #[v] w (NewB w o td (vsize l.length + l.length)) := by
  have HV := Lib.hid hv
  obtain ⟨A, c, rfl, hlc, hcm, _, hcell⟩ := id hv
  rw [List.length_map] at *
  have HP := Lib.hid (VPut_ok hg l.length (by omega) td)
  have hvs := vsize_le l.length
  clear hv hg hcell
  go_enter Tryz.func66, Tryz.ntmps66
  go_wp2_with (first
    | (go_at_call 142; refine HP.out.mono ?_; rintro e w' ⟨v2, ys, o2, rfl, p1, p2, p3, p4⟩; obtain ⟨A2, c2, hv2⟩ := newShape p1 p2; subst hv2; obtain ⟨A4, n4, c4, w4, e1, e2⟩ := GatherAt.step (m := l.length) ⟨ys, p1, p2, p3, p4⟩ (Chg.refl [] w' o2) (HV.out.chg p3 (off_nil _)) (by rw [List.length_map]) (by omega) 42 ⟨l.map fun n : Nat => (n : Int), by rw [List.map_map]; rfl⟩; clear p1 p2 p3 p4)
    | (at_builtin; refine Lib.wpList_append_run _ rfl _ _ _ _ rfl _ _ rfl rfl _ _ e1 ?_))
  go_ret
  exact e2.out.done

set_option maxRecDepth 100000 in
theorem Fbit_ok (b : Bool) (n : Int) (w : World) :
    Calls Tryz.prog 63 #[.bool b, .int .i64 n] w fun e w' => e = .returned (.int .i64 (if b then n else 0)) ∧ w = w' := by
  cases b <;>
  · go_enter Tryz.func63, Tryz.ntmps63
    go_wp2
    go_ret
    exact ⟨rfl, rfl⟩
end Go.Proofs.YthliihmhkhabeaaGreatDoor
