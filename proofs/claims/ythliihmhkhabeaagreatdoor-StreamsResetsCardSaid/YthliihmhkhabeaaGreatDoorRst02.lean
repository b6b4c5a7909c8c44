/- A stream that is reset is over for the peer, by its code, and nothing more of it goes out: for every input. -/
import Derived.Test.YthliihmhkhabeaaGreatDoorIds49
import Derived.Test.YthliihmhkhabeaaGreatDoorRst01
import Derived.ChangeSlices
import Derived.Carry
namespace Go.Proofs.YthliihmhkhabeaaGreatDoor
open Go Go.RowKit Go.WideShapes Go.ChangeShapes Go.ChangeAt Go.WideMaps Go.WideElems

theorem wf_u8 {n : Int} (h : (Lit.int .u8 n).wf = true) : 0 ≤ n ∧ n < 256 := by
  have h1 : (decide ((0 : Int) ≤ n) && decide (n ≤ 255)) = true := h
  rw [Bool.and_eq_true, decide_eq_true_eq, decide_eq_true_eq] at h1
  omega
theorem wf_u64 {n : Int} (h : (Lit.int .u64 n).wf = true) : 0 ≤ n ∧ n < 18446744073709551616 := by
  have h1 : (decide ((0 : Int) ≤ n) && decide (n ≤ 18446744073709551615)) = true := h
  rw [Bool.and_eq_true, decide_eq_true_eq, decide_eq_true_eq] at h1
  omega
set_option maxRecDepth 100000 in
/-- Bytes that came in. -/
theorem open_text {H : Type} {enc : TypeId × Value → H} {W : World} {base : Nat} {v1 : Value} {d1 : DataW H} {p1 : List MemPlace} (hval : Value.okWide Tryz.prog W .any base 42 v1) (h1 : DataW.Trod enc Tryz.prog W 0 (fun _ => true) true 42 v1 d1 p1) :
    ∃ text : List Nat, (∀ x ∈ text, x < 256) ∧ Sl W (fun _ => []) [] v1 (text.map bv) := by
  obtain ⟨a1, len, cap, rfl⟩ := okWide_slice Tryz.underlying42 hval
  obtain ⟨fuel, hf⟩ := h1
  have hc1 : Tryz.prog.cellsOf 5 = 1 := by kernel_rfl
  rcases ChangeShapes.open_ints Tryz.underlying42 Tryz.underlying5 hc1 hf with ⟨hcs, _⟩ | ⟨a, len', cap', zs, hcs, _, hl, hm, hz, _, hcell, hwz⟩
  · simp [Value.cells] at hcs
    obtain ⟨rfl, rfl, rfl⟩ := hcs
    exact ⟨[], fun _ h => (List.not_mem_nil h).elim, Sl.nil _ _ _⟩
  · simp [Value.cells] at hcs
    obtain ⟨rfl, rfl, rfl⟩ := hcs
    simp only [if_true] at hz
    have hlen : ((zs.take len).map Int.toNat).length = len := by simp; omega
    refine ⟨(zs.take len).map Int.toNat, fun x hx => ?_, some a, cap, by rw [List.length_map, hlen], by rw [List.length_map, hlen]; exact hl, hm, by intro h; simp at h, fun h0 => ?_⟩
    · obtain ⟨z, hzm, rfl⟩ := List.mem_map.1 hx
      have := wf_u8 (hwz z (List.mem_of_mem_take hzm))
      omega
    · rw [List.length_map, hlen] at h0
      obtain ⟨b, off, spot⟩ := a
      have hspot : spot = none := by simpa [Addr.add] using World.cell?_spot (hcell 0 (by omega))
      subst hspot
      refine ⟨b, off, rfl, rfl, fun j hj => ?_⟩
      rw [List.length_map, hlen] at hj
      have := hcell j (by omega)
      rw [Addr.add_mid] at this
      rw [this]
      have e : zs.getD j 0 = zs[j]'(by omega) := by simp [List.getD, List.getElem?_eq_getElem (show j < zs.length by omega)]
      have hw := wf_u8 (hwz _ (List.getElem_mem (show j < zs.length by omega)))
      rw [e, List.getElem?_map, List.getElem?_map, List.getElem?_take, if_pos hj, List.getElem?_eq_getElem (show j < zs.length by omega)]
      simp only [Option.map_some, bv]
      congr 2
      omega

set_option maxRecDepth 100000 in
theorem StreamsResets_lifted (os : Os) (started : os.Started) (H : Type) (enc : TypeId × Value → H) :
    ReturnsInHanded {} Tryz.checked os 5 .any (fun w args => (Rows.streamsResetsSpec.pre enc Tryz.prog Tryz.f5 [] false w args ∧ laidMetH Tryz.prog laidTabs w) ∧ sizedMet enc Tryz.prog Tryz.f5 (OpenSpec.ofChange Rows.streamsResetsSpec) false w args)
      (Rows.streamsResetsSpec.post enc Tryz.prog Tryz.f5 false true false false) := by
  refine returnsInHanded_of_change_and (C := Tryz.checked) (X := fun w _ => laidMetH Tryz.prog laidTabs w) (fun _ _ _ hh h => h.of_heap hh) own started (by kernel_rfl) Tryz.func5
    (ChangeSpec.witness_shaped (enc := enc) (C := Tryz.checked) (os := os) (X := fun w _ => laidMetH Tryz.prog laidTabs w) false (World.doorLaid Tryz.prog 65 os) #[.int .u64 0, .int .u64 0, .slice none 0 0, .int .u8 0] 8 rfl (World.shaped_of_RefB (by kernel_rfl) (by kernel_rfl)) (by kernel_rfl) (by kernel_rfl) (by kernel_rfl) (door_met os _)) ?_
  intro W base args ds gs before hval0 hW _ _ hL _
  have hval : ∀ (j : Nat) t v, Tryz.f5.params[j]? = some t → args[j]? = some v → Value.okWide Tryz.prog W .any base t v := hval0
  have hW' := hW
  obtain ⟨p, q, hA0, hV, rfl, hfz, hnd⟩ := hW
  have hA : DataW.TrodAll enc Tryz.prog W 0 (fun _ => true) true Tryz.f5.params.toList args.toList ds p := hA0
  obtain ⟨rfl, rfl⟩ := trodVars_none hV
  have hargs : ∀ W' : World, Below W.heap.size W W' → ∀ sp : Nat → Bool, (∀ x ∈ p ++ [], sp x.block = true) → DataW.TrodAll enc Tryz.prog W' 0 sp true Tryz.f5.params.toList args.toList ds p := fun W' hb sp hsp =>
    DataW.TrodAll.respare kids full (by rw [Tryz.params5]; decide) (trodAll_same hb hA) (fun x hx => hsp x (by simpa using hx))
  rw [Tryz.params5] at hA hval
  obtain ⟨v0, v1, v2, v3, d0, d1, d2, d3, p0, p1, p2, p3, rfl, rfl, rfl, h0, h1, h2, h3⟩ := trodAll_four hA
  obtain ⟨c, rfl, rfl, rfl, hc⟩ := open_int Tryz.underlying26 (hval 0 26 v0 rfl rfl) h0
  obtain ⟨at_, rfl, rfl, rfl, hat⟩ := open_int Tryz.underlying26 (hval 1 26 v1 rfl rfl) h1
  obtain ⟨nn, rfl, rfl, rfl, hn⟩ := open_int Tryz.underlying5 (hval 3 5 v3 rfl rfl) h3
  obtain ⟨text, h8, hsl⟩ := open_text (hval 2 42 v2 rfl rfl) h2
  have hg := of_laid hL
  obtain ⟨c1, c2⟩ := wf_u64 hc
  obtain ⟨a1, a2⟩ := wf_u64 hat
  obtain ⟨n1, n2⟩ := wf_u8 hn
  obtain ⟨c', rfl⟩ := Int.eq_ofNat_of_zero_le c1
  obtain ⟨a', rfl⟩ := Int.eq_ofNat_of_zero_le a1
  obtain ⟨n', rfl⟩ := Int.eq_ofNat_of_zero_le n1
  refine (StreamsResets_ok hg c' a' n' v2 text hsl h8 (by omega) (by omega)).mono ?_
  rintro e W' ⟨rfl, hb⟩
  refine ⟨_, rfl, post_of_below (pv := []) hW' (fun _ _ _ => trodAll_mk1 (shut_bool Tryz.underlying4 true)) (fun sp hsp => hargs W' hb sp hsp) (fun _ _ => rfl) rfl hb (ok_one (by kernel_rfl) rfl (okWide_bool_mk Tryz.underlying4 true))⟩

theorem streamsResets_holds : Rows.StreamsResetsSaid :=
  OpenClaim.holds_of_wide 5 Tryz.f5 rfl rfl rfl rfl rfl rfl rfl ⟨rfl, rfl, rfl, rfl, rfl⟩ rfl rfl rfl rfl rfl (by kernel_rfl) Tryz.func5 (by kernel_rfl)
    (of_decide_eq_true (by kernel_rfl)) (by unfold Func.isWrapper; first | (rw [if_pos (by decide +kernel)]; kernel_rfl) | (rw [if_neg (by decide +kernel)]; exact ⟨rfl, rfl⟩))
    (fun os started H enc _ => StreamsResets_lifted os started H enc)
end Go.Proofs.YthliihmhkhabeaaGreatDoor
