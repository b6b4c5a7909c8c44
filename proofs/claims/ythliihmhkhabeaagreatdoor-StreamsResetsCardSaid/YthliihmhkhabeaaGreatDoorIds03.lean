/- What package outflow's functions do to a buffer, III: what goes out next. Conditions: the buffer is as its functions leave it (Out.Wf). -/
import Derived.Test.YthliihmhkhabeaaGreatDoorIds02
import Derived.Deep.LoopGhost
namespace Go.Proofs.YthliihmhkhabeaaGreatDoor
open Go Go.RowKit

def Out.open_ (O : Out) : Nat := min O.s.length O.limit

theorem Oopen_ok {w : World} {o : Own} {t : Tag} {k : Nat} {O : Out} (h : OutRep w o t k O) :
    Calls Tryz.prog 175 #[.pointer (some ⟨k, 0, none⟩)] w fun e w' => e = .returned (.int .i64 O.open_) ∧ ∃ n, w' = w.drewN n := by
  obtain ⟨hw, vb, vs, hat, hrb, hrs⟩ := h
  have hc := hat.cells
  have hl : O.s.length ≤ 2000 := by have := hw.len; have := hw.most; omega
  have hlim := hw.lim
  obtain ⟨A, c, rfl⟩ := hrs.sl.shapeB
  unfold Out.open_
  by_cases hle : O.s.length ≤ O.limit
  · rw [Nat.min_eq_left hle]
    go_enter Tryz.func175, Tryz.ntmps175
    go_wp2
    go_quiet (fail)
    go_wp2
    go_ret
    exact ⟨rfl, _, rfl⟩
  · rw [Nat.min_eq_right (by omega)]
    go_enter Tryz.func175, Tryz.ntmps175
    go_wp2
    go_quiet (fail)
    go_wp2
    go_ret
    exact ⟨rfl, _, rfl⟩

theorem tw (p : Nat → Bool) : ∀ (l : List Nat) (m : Nat), m ≤ (l.takeWhile p).length → (m < (l.takeWhile p).length ↔ ∃ x, l[m]? = some x ∧ p x = true)
  | [], m, _ => by simp
  | x :: l, m, h => by
    rw [List.takeWhile_cons] at h ⊢
    cases hp : p x with
    | true =>
      rw [hp] at h
      cases m with
      | zero => simp [hp]
      | succ m => simpa using tw p l m (by simpa using h)
    | false =>
      rw [hp] at h
      simp at h
      subst h
      simp [hp]

/-- The first run of a state below a place. -/
def Out.runl (O : Out) (st top many : Nat) : List Nat := (((O.s.take top).drop ((O.s.take top).idxOf st)).take many).takeWhile (· == st)
def Out.run (O : Out) (st top many : Nat) : Nat × Nat × Bool :=
  if st ∈ O.s.take top then ((O.s.take top).idxOf st, (O.s.take top).idxOf st + (O.runl st top many).length, true) else (0, 0, false)

theorem runl_more (O : Out) (st top many to : Nat) (h1 : (O.s.take top).idxOf st ≤ to) (h2 : to - (O.s.take top).idxOf st ≤ (O.runl st top many).length) :
    to - (O.s.take top).idxOf st < (O.runl st top many).length ↔ to < top ∧ to - (O.s.take top).idxOf st < many ∧ O.s[to]? = some st := by
  unfold Out.runl at h2 ⊢
  rw [tw _ _ _ h2]
  generalize (O.s.take top).idxOf st = a at *
  simp only [List.getElem?_take, List.getElem?_drop, beq_iff_eq]
  have e : a + (to - a) = to := by omega
  rw [e]
  constructor
  · rintro ⟨x, hx, rfl⟩
    split at hx
    · split at hx
      · exact ⟨by assumption, by assumption, hx⟩
      · cases hx
    · cases hx
  · rintro ⟨h3, h4, h5⟩
    exact ⟨st, by rw [if_pos h4, if_pos h3]; exact h5, rfl⟩

set_option maxHeartbeats 1000000 in
set_option maxRecDepth 100000 in
theorem Orun_ok {w : World} {o : Own} {t : Tag} {k : Nat} {O : Out} (h : OutRep w o t k O) (st top many : Nat) (hst : st < 4) (htop : top ≤ O.s.length) (hm1 : 1 ≤ many) (hm2 : many ≤ 1000000000) :
    Calls Tryz.prog 174 #[.pointer (some ⟨k, 0, none⟩), .int .u8 st, .int .i64 top, .int .i64 many] w fun e w' => e = .returned (.tuple #[.int .i64 (O.run st top many).1, .int .i64 (O.run st top many).2.1, .bool (O.run st top many).2.2]) ∧ ∃ n, w' = w.drewN n := by
  obtain ⟨hw, vb, vs, hat, hrb, hrs⟩ := h
  have hc := hat.cells
  have hl : O.s.length ≤ 2000 := by have := hw.len; have := hw.most; omega
  obtain ⟨A, c, hv, hcap, hcm, hz, hcell⟩ := id hrs.sl
  rw [List.length_map] at hv hcap hcell
  subst hv
  have hcut := hrs.sl.take (b := top) htop
  have hix := IndexByte_ok (xs := O.s.take top) st st rfl (fun x hx => by have := hw.st x (List.mem_of_mem_take hx); omega) (by omega) (by simpa [List.map_take] using hcut)
  clear hcut
  unfold maxLen at hcm
  unfold Out.run
  by_cases h0 : st ∈ O.s.take top
  · simp only [idxI, h0, if_true] at hix ⊢
    have hi0 : (O.s.take top).idxOf st < top := by have := List.idxOf_lt_length_of_mem h0; simp at this; omega
    obtain ⟨b, f, rfl, _, hcell⟩ := hcell (by omega)
    have hcx : ∀ (j x : Nat), O.s[j]? = some x → w.cell? ⟨b, f + j, none⟩ = some (.int .u8 x) := fun j x hx => by
      rw [hcell j ((List.getElem?_eq_some_iff.1 hx).1), List.getElem?_map, hx]; rfl
    have hsa : O.s[(O.s.take top).idxOf st]? = some st := by
      have hlt := List.idxOf_lt_length_of_mem h0
      have h9 : (O.s.take top)[(O.s.take top).idxOf st]? = some st := by rw [List.getElem?_eq_getElem hlt, List.getElem_idxOf hlt]
      rw [List.getElem?_take] at h9
      simpa [hi0] using h9
    have hca := hcx _ _ hsa
    have Hcx := Lib.hid hcx
    have Hcell := Lib.hid hcell
    have hr0 : 0 < (O.runl st top many).length := by
      have := (runl_more O st top many _ (Nat.le_refl _) (by omega)).2 ⟨hi0, by omega, hsa⟩
      omega
    have Hr : ∀ to : Nat, (O.s.take top).idxOf st ≤ to → to - (O.s.take top).idxOf st ≤ (O.runl st top many).length → RowKit.Hid (to - (O.s.take top).idxOf st < (O.runl st top many).length ↔ to < top ∧ to - (O.s.take top).idxOf st < many ∧ O.s[to]? = some st) := fun to h1 h2 => runl_more O st top many to h1 h2
    have Hix := Lib.hid hix; clear hix h0 hsa hcx hcell
    generalize (O.s.take top).idxOf st = a at *
    generalize (O.runl st top many).length = m at *
    go_enter Tryz.func174, Tryz.ntmps174
    go_wp2
    refine wp_scope_jumps 0 (fun a' w' => w' = w ∧ ∃ (to : Nat) (u4 u5 u6 u7 u8 u9 u10 u13 u14 u15 u16 u17 u18 u19 u20 u21 u22 u23 u24 u25 u26 u27 u28 u29 u30 u31 u32 u33 u34 u35 u36 u37 u38 u39 u40 u41 u42 u43 u44 u45 u46 u47 u48 : Value), a' = { tmps := #[.pointer (some ⟨k, 0, none⟩), .int .u8 st, .int .i64 top, .int .i64 many, u4, u5, u6, u7, u8, u9, u10, .int .i64 a, .int .i64 to, u13, u14, u15, u16, u17, u18, u19, u20, u21, u22, u23, u24, u25, u26, u27, u28, u29, u30, u31, u32, u33, u34, u35, u36, u37, u38, u39, u40, u41, u42, u43, u44, u45, u46, u47, u48], defers := [] } ∧ a ≤ to ∧ to - a ≤ m) (fun a' _ => top - (intOf (a'.tmps.getD 12 undef)).toNat) (by rfl) ?_ ?_
    · go_wp2_with (go_at_call 143; refine Hix.out.mono ?_; rintro e w' ⟨rfl, rfl⟩)
      go_step3
      go_wp2
      go_step3
      refine ⟨rfl, rfl, a + 1, _, _, _, _, _, _, _, _, _, _, _, _, _, _, _, _, _, _, _, _, _, _, _, _, _, _, _, _, _, _, _, _, _, _, _, _, _, _, _, _, _, _, _, by rfl, by omega, by omega⟩
    · rintro a' w' ⟨rfl, to, u4, u5, u6, u7, u8, u9, u10, u13, u14, u15, u16, u17, u18, u19, u20, u21, u22, u23, u24, u25, u26, u27, u28, u29, u30, u31, u32, u33, u34, u35, u36, u37, u38, u39, u40, u41, u42, u43, u44, u45, u46, u47, u48, rfl, h1, h2⟩
      have hr := (Hr to h1 h2).out
      by_cases hm : to - a < m
      · obtain ⟨h3, h4, h5⟩ := hr.1 hm
        have hcx := Hcx.out _ _ h5
        clear hca hr h5
        go_wp2
        go_step3
        refine ⟨rfl, ⟨rfl, to + 1, _, _, _, _, _, _, _, _, _, _, _, _, _, _, _, _, _, _, _, _, _, _, _, _, _, _, _, _, _, _, _, _, _, _, _, _, _, _, _, _, _, _, _, by rfl, by omega, by omega⟩, ?_⟩
        simp [intOf]
        omega
      · by_cases h3 : to < top
        · by_cases h4 : to - a < many
          · obtain ⟨x, hx⟩ : ∃ x, O.s[to]? = some x := ⟨O.s[to]'(by omega), List.getElem?_eq_getElem _⟩
            have hcx := Hcx.out _ _ hx
            have hne : x ≠ st := fun e => hm (hr.2 ⟨h3, h4, by rw [← e]; exact hx⟩)
            clear hca hr hx
            go_wp2
            simp only [Exit.jump]
            go_ret3
            obtain rfl : to = a + m := by omega
            exact ⟨rfl, 0, rfl⟩
          · clear hca hr
            go_wp2
            simp only [Exit.jump]
            go_ret3
            obtain rfl : to = a + m := by omega
            exact ⟨rfl, 0, rfl⟩
        · clear hca hr
          go_wp2
          simp only [Exit.jump]
          go_ret3
          obtain rfl : to = a + m := by omega
          exact ⟨rfl, 0, rfl⟩
  · simp only [idxI, h0, if_false] at hix ⊢
    have Hix := Lib.hid hix; clear hix h0
    go_enter Tryz.func174, Tryz.ntmps174
    go_wp2
    refine wp_scope_straight ?_
    go_wp2_with (go_at_call 143; refine Hix.out.mono ?_; rintro e w' ⟨rfl, rfl⟩)
    rw [Exit.noGoto_ret]
    go_ret3
    exact ⟨rfl, 0, rfl⟩
end Go.Proofs.YthliihmhkhabeaaGreatDoor
