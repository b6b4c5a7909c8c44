/- Words that all texts of this claim use, II: append of zeros onto a row of one's own. No condition. -/
import Derived.Test.YthliihmhkhabeaaGreatDoorIds01
import Derived.Lib.AppendZerosOnto
namespace Go.Proofs.YthliihmhkhabeaaGreatDoor
open Go Go.RowKit

theorem not_suf (n : Nat) (t : Tag) : ¬ (n :: t) <:+ t := fun h => absurd h.length_le (by simp)
theorem off_child (n : Nat) (t : Tag) : off [n :: t] t := off_one.2 (not_suf n t)
theorem off_sib {n m : Nat} (t : Tag) (h : n ≠ m) : off [n :: t] (m :: t) := off_one.2 (fun hh => by
  rw [List.suffix_cons_iff] at hh
  rcases hh with hh | hh
  · injection hh with h1; exact h h1
  · exact not_suf n t hh)
theorem on_child (n : Nat) (t : Tag) : ¬ off [t] (n :: t) := fun h => (off_one.1 h) (List.suffix_cons n t)
theorem on_self (t : Tag) : ¬ off [t] t := fun h => (off_one.1 h) (List.suffix_refl t)

theorem Row.shape3 {w : World} {o : Own} {t : Tag} {e : TypeId} {v : Value} {xs : List Value} (h : Row w o t e v xs) : ∃ A n c, v = .slice A n c := by
  rcases h.form with ⟨rfl, _⟩ | ⟨g, cap, cur, rfl, _⟩
  · exact ⟨_, _, _, rfl⟩
  · exact ⟨_, _, _, rfl⟩

theorem zeroCells_one (z : Value) (hz : z.cells = #[z]) (n : Nat) : Builtin.zeroCells z.cells n = (List.replicate n z).toArray := by
  rw [hz]
  apply Array.ext
  · simp [Builtin.zeroCells]
  · intro i h1 h2
    simp [Builtin.zeroCells, Nat.mod_one]

theorem run_append_zeros_row {P : Program} (w : World) (ty tt tn e : TypeId) (i : TypeInfo) (z : Value) (kn : IntKind) (ht : P.underlying tt = some (.slice e)) (htn : P.underlying tn = some (.int kn)) (hi : P.info? e = some i) (hz : i.zero = some z)
    (hs : i.size = 1) (hby : i.bytes ≤ 16) (hzs : z.cells = #[z]) (hz1 : z.oneCell' = true) {o : Own} {t : Tag} {v : Value} {xs : List Value} (hr : Row w o t e v xs) (n : Nat) (hb : xs.length + n ≤ 1000000000000) :
    ∃ v' w' o', (Builtin.append_ #[tt, tn] ty #[v, .int .i64 n]).run P w = .ok v' w' ∧ Row w' o' t e v' (xs ++ List.replicate n z) ∧ w.grownBy w' v.ownBlock ∧ (∀ k, k < w.heap.size → o' k = o k) := by
  have hw : IntKind.i64.wrap (n : Int) = n := by rw [IntKind.wrap_i64]; omega
  have hneg : ¬ ((n : Int) < 0) := by omega
  have h16 : n * i.bytes ≤ 16000000000000 := by
    calc n * i.bytes ≤ n * 16 := Nat.mul_le_mul_left _ hby
      _ ≤ _ := by omega
  have h48i : ¬ (281474976710656 < (n : Int) * (i.bytes : Int)) := by
    rw [← Int.natCast_mul]
    omega
  by_cases h0 : n = 0
  · subst h0
    have key : ∀ A m cap, m ≤ cap → (Builtin.append_ #[tt, tn] ty #[.slice A m cap, .int .i64 ((0 : Nat) : Int)]).run P w = .ok (.slice A m cap) w := by
      intro A m cap hm
      cases A <;> simp [Builtin.append_, run_underlying ht, run_underlying htn, sizeOf, typeInfo, hi, asInt, asIntOf, IntKind.wrap_i64, hm, storeCells]
    refine ⟨v, w, o, ?_, by simpa using hr, ⟨rfl, rfl, rfl, Nat.le_refl _, fun _ _ _ => rfl⟩, fun _ _ => rfl⟩
    rcases hr.form with ⟨rfl, rfl⟩ | ⟨g, cap, cur, rfl, hg, hn, hm, hcs, htk⟩
    · exact key _ _ _ (Nat.le_refl _)
    · exact key _ _ _ hn
  · rcases hr.form with ⟨rfl, rfl⟩ | ⟨g, cap, cur, rfl, hg, hn, hm, hcs, htk⟩
    · have hrun := Lib.run_append_nil_zeros (P := P) w tt tn ty e i z .i64 kn ht htn hi hz n (by omega) (by omega) (by simp at hb; omega) (by omega)
      rw [zeroCells_one z hzs, zeroCells_one z hzs] at hrun
      have hge := grownCap_ge w n 0 e
      refine ⟨_, _, o.upd w.heap.size t, hrun, Row.of_form (by simp) (At.new w.drew o t _) (by simpa using hge) (grownCap_le_maxLen w n 0 e (by simp at hb; simp only [maxLen]; omega)) (by simp; omega) (by simp), ⟨rfl, rfl, rfl, by simp, fun k hk _ => Below.heap_alloc w.drew _ k hk⟩, fun k hk => Own.upd_ne _ _ (by omega)⟩
    · by_cases hroom : xs.length + n ≤ cap
      · have hst := run_storeCells_at P g xs.length e (List.replicate n z) 0 cur w hg.1 (by simp; omega) (by intro u hu; rw [List.mem_replicate] at hu; rw [hu.2]; exact hz1)
        have hrun : (Builtin.append_ #[tt, tn] ty #[.slice (some ⟨g, 0, none⟩) xs.length cap, .int .i64 n]).run P w = .ok (.slice (some ⟨g, 0, none⟩) (xs.length + n) cap) (w.setRow g (cur.toList.take xs.length ++ List.replicate n z ++ cur.toList.drop (xs.length + n)).toArray) := by
          simp only [Nat.add_zero, List.length_replicate] at hst
          simp [Builtin.append_, run_underlying ht, run_underlying htn, sizeOf, typeInfo, zeroValue, hi, hz, hs, asInt, asIntOf, hw, hneg, h48i, hroom, h0, zeroCells_one z hzs, Addr.add_lit, hst]
        refine ⟨_, _, o, hrun, Row.of_form (by simp) ⟨setRow_heap w g cur _ e _ hg.1, hg.2⟩ (by simpa using hroom) hm ?_ ?_, ⟨rfl, rfl, rfl, by simp, fun k _ hk => setRow_other w g k _ (fun e => hk (by simp [Value.ownBlock, e]))⟩, fun _ _ => rfl⟩
        · simp; omega
        · rw [htk]
          simp [List.take_append, List.take_of_length_le]
      · have hold : (Builtin.firstCells i.size xs.length (.slice (some ⟨g, 0, none⟩) xs.length cap)).run P w.drew = .ok xs.toArray w.drew := by
          refine run_firstCells_some (P := P) w.drew i.size xs.length ⟨g, 0, none⟩ xs.length cap xs (by rw [hs]; simp) (fun j u hu => ?_)
          have hj : j < xs.length := (List.getElem?_eq_some_iff.1 hu).1
          have e1 : (⟨g, 0, none⟩ : Addr).add j = ⟨g, j, none⟩ := by unfold Addr.add; split <;> simp_all
          rw [e1]
          show w.cell? _ = _
          rw [hg.cells j, ← Array.getElem?_toList]
          rw [← htk, List.getElem?_take] at hu
          simpa [hj] using hu
        have hrun := Lib.run_append_grow_zeros (P := P) w tt tn ty e i z .i64 kn ht htn hi hz (some ⟨g, 0, none⟩) xs.length cap xs hold n (by omega) (by omega) (by omega) (by omega) (by omega) (growslice_fits (by omega) (by calc (xs.length + n) * i.bytes ≤ (xs.length + n) * 16 := Nat.mul_le_mul_left _ hby
                                                    _ ≤ _ := by omega))
        rw [zeroCells_one z hzs, zeroCells_one z hzs] at hrun
        have hge := grownCap_ge w (xs.length + n) cap e
        refine ⟨_, _, o.upd w.heap.size t, hrun, Row.of_form (by simp) (At.new w.drew o t _) (by simpa using hge) (grownCap_le_maxLen w (xs.length + n) cap e (by simp only [maxLen]; omega)) (by simp; omega) (by simp [List.take_append, List.take_of_length_le]), ⟨rfl, rfl, rfl, by simp, fun k hk _ => Below.heap_alloc w.drew _ k hk⟩, fun k hk => Own.upd_ne _ _ (by omega)⟩
end Go.Proofs.YthliihmhkhabeaaGreatDoor
