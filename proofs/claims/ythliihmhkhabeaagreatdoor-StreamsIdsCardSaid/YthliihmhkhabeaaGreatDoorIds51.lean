/- Own streams are opened in order, those of each kind four apart, as many as the peer lets: for every input. -/
import Derived.Test.YthliihmhkhabeaaGreatDoorIds49
import Derived.Test.YthliihmhkhabeaaGreatDoorIds50
import Derived.Deep.Grids
namespace Go.Proofs.YthliihmhkhabeaaGreatDoor
open Go Go.RowKit Go.WideShapes Go.ChangeShapes Go.ChangeAt Go.WideMaps Go.WideElems

set_option maxRecDepth 100000 in
theorem StreamsIds_lifted (os : Os) (started : os.Started) (H : Type) (enc : TypeId × Value → H) :
    ReturnsInHanded {} Tryz.checked os 3 .any (fun w args => (Rows.streamsIdsSpec.pre enc Tryz.prog Tryz.f3 [] false w args ∧ laidMetH Tryz.prog laidTabs w) ∧ sizedMet enc Tryz.prog Tryz.f3 (OpenSpec.ofChange Rows.streamsIdsSpec) false w args)
      (Rows.streamsIdsSpec.post enc Tryz.prog Tryz.f3 false true false false) := by
  refine returnsInHanded_of_change_and (C := Tryz.checked) (X := fun w _ => laidMetH Tryz.prog laidTabs w) (fun _ _ _ hh h => h.of_heap hh) own started (by kernel_rfl) Tryz.func3
    (ChangeSpec.witness_shaped (enc := enc) (C := Tryz.checked) (os := os) (X := fun w _ => laidMetH Tryz.prog laidTabs w) false (World.doorLaid Tryz.prog 65 os) #[.bool false, .slice none 0 0] 8 rfl (World.shaped_of_RefB (by kernel_rfl) (by kernel_rfl)) (by kernel_rfl) (by kernel_rfl) (by kernel_rfl) (door_met os _)) ?_
  intro W base args ds gs before hval0 hW _ _ hL _
  have hval : ∀ (j : Nat) t v, Tryz.f3.params[j]? = some t → args[j]? = some v → Value.okWide Tryz.prog W .any base t v := hval0
  have hW' := hW
  obtain ⟨p, q, hA0, hV, rfl, hfz, hnd⟩ := hW
  have hA : DataW.TrodAll enc Tryz.prog W 0 (fun _ => true) true Tryz.f3.params.toList args.toList ds p := hA0
  obtain ⟨rfl, rfl⟩ := trodVars_none hV
  have hargs : ∀ W' : World, Below W.heap.size W W' → ∀ sp : Nat → Bool, (∀ x ∈ p ++ [], sp x.block = true) → DataW.TrodAll enc Tryz.prog W' 0 sp true Tryz.f3.params.toList args.toList ds p := fun W' hb sp hsp =>
    DataW.TrodAll.respare kids full (by rw [Tryz.params3]; decide) (trodAll_same hb hA) (fun x hx => hsp x (by simpa using hx))
  rw [Tryz.params3] at hA hval
  obtain ⟨v0, v1, d0, d1, p0, p1, rfl, rfl, rfl, h0, h1⟩ := trodAll_two hA
  obtain ⟨c, rfl, rfl, rfl⟩ := open_bool Tryz.underlying4 (hval 0 4 v0 rfl rfl) h0
  obtain ⟨a0, len, cap, rfl⟩ := okWide_slice Tryz.underlying22 (hval 1 22 v1 rfl rfl)
  have hg := of_laid hL
  have hsl : ∃ l : List Bool, Sl W (fun _ => []) [] (.slice a0 len cap) (l.map Value.bool) := by
    obtain ⟨fuel, h1⟩ := h1
    have hc1 : Tryz.prog.cellsOf 4 = 1 := by kernel_rfl
    rcases Deep.open_bools Tryz.underlying22 Tryz.underlying4 hc1 h1 with ⟨hv, _⟩ | ⟨a, len', cap', B, hv, hb, hl, hm, _, hcell⟩
    · simp [Value.cells] at hv
      obtain ⟨rfl, rfl, rfl⟩ := hv
      exact ⟨[], Sl.nil _ _ _⟩
    · simp [Value.cells] at hv
      obtain ⟨rfl, rfl, rfl⟩ := hv
      refine ⟨(List.range len).map B, some a, cap, by simp, by simpa using hl, hm, by intro h; simp at h, fun h0 => ?_⟩
      simp only [List.length_map, List.length_range] at h0
      obtain ⟨b, off, spot⟩ := a
      have hspot : spot = none := by simpa [Addr.add] using World.cell?_spot (hcell 0 (by omega))
      subst hspot
      refine ⟨b, off, rfl, rfl, fun j hj => ?_⟩
      simp only [List.length_map, List.length_range] at hj
      have := hcell j (by omega)
      rw [Addr.add_mid] at this
      rw [this]
      simp [hj]
  obtain ⟨l, hsl⟩ := hsl
  refine (StreamsIds_ok hg c _ l hsl).mono ?_
  rintro e W' ⟨rfl, hb⟩
  refine ⟨_, rfl, post_of_below (pv := []) hW' (fun _ _ _ => trodAll_mk1 (shut_bool Tryz.underlying4 true)) (fun sp hsp => hargs W' hb sp hsp) (fun _ _ => rfl) rfl hb (ok_one (by kernel_rfl) rfl (okWide_bool_mk Tryz.underlying4 true))⟩

theorem streamsIds_holds : Rows.StreamsIdsSaid :=
  OpenClaim.holds_of_wide 3 Tryz.f3 rfl rfl rfl rfl rfl rfl rfl ⟨rfl, rfl, rfl, rfl, rfl⟩ rfl rfl rfl rfl rfl (by kernel_rfl) Tryz.func3 (by kernel_rfl)
    (of_decide_eq_true (by kernel_rfl)) (by unfold Func.isWrapper; first | (rw [if_pos (by decide +kernel)]; kernel_rfl) | (rw [if_neg (by decide +kernel)]; exact ⟨rfl, rfl⟩))
    (fun os started H enc _ => StreamsIds_lifted os started H enc)
end Go.Proofs.YthliihmhkhabeaaGreatDoor
