/- The library's sort at []uint64, assembled; a row that was sorted. No condition. -/
import Derived.Test.YthliihmhkhabeaaGreatDoorIds30
import Derived.Test.YthliihmhkhabeaaGreatDoorIds32
import Derived.Sort.OwnSorted
namespace Go.Proofs.YthliihmhkhabeaaGreatDoor
open Go Go.RowKit Go.Sort Go.Proofs

theorem callees13u : Callees13 where
  ins := SoU.insertionSort_int
  brk := SoU.breakPatterns_int
  piv := SoU.choosePivot_int
  par := SoU.partialInsertionSort_int
  peq := SoU.partitionEqualOrdered_int
  prt := SoU.partitionOrdered_int
theorem plain13u : Go.Proofs.Plain13 where
  swo := swo_ltInt
  ins := insertionSort_holds
  par := partialInsertionSort_holds
  prt := partition_holds _
  peq := partitionEqual_holds _
  pdq := pdq_sorts _
theorem pdqWalkU : pdqWalk_int := fun blk off cap a b limit d w hH hb hab hbd hsz hl hB =>
  SoU.pdqsort_int callees13u plain13u (b - a + 1) blk off cap a b limit d w (by omega) hH hb hab hbd hsz hl hB

theorem Sort_u64 (blk off cap : Nat) (zs : List Int) (w : World) (hH : Holds encU w blk off zs.toArray) (hblk : blk < w.heap.size) (hsz : zs.length < 4611686018427387904) :
    Calls Tryz.prog 60 #[.slice (some ⟨blk, off, none⟩) zs.length cap] w fun e w' =>
      e = .returned (.tuple #[]) ∧ ∃ n os, w' = grow (putRow encU (Sort.ahead w n) blk off (zs.mergeSort fun x y => decide (x ≤ y)).toArray) os := by
  have h := SoU.Sort_int pdqWalkU blk off cap zs.toArray w hH hblk (by simpa using hsz)
  rw [show Sort.sort ltInt zs.toArray = (zs.mergeSort fun x y => decide (x ≤ y)).toArray by rw [← sortInt zs]] at h
  simpa using h

def sortN (l : List Nat) : List Nat := l.mergeSort fun a b => decide (a ≤ b)
theorem sortN_pw (l : List Nat) : (sortN l).Pairwise (· ≤ ·) := by
  have := List.pairwise_mergeSort (le := fun a b : Nat => decide (a ≤ b)) (fun a b c h1 h2 => by simp at *; omega) (fun a b => by simp; omega) l
  exact this.imp (fun h => by simpa using h)
theorem sortN_p (l : List Nat) : (sortN l).Perm l := List.mergeSort_perm l _
theorem sortN_perm {l l' : List Nat} (h : l.Perm l') : sortN l = sortN l' :=
  List.Perm.eq_of_pairwise (fun _a _b _ _ h1 h2 => Nat.le_antisymm h1 h2) (sortN_pw l) (sortN_pw l') (((sortN_p l).trans h).trans (sortN_p l').symm)
theorem sortN_int (l : List Nat) : (l.map fun n : Nat => (n : Int)).mergeSort (fun x y => decide (x ≤ y)) = (sortN l).map fun n : Nat => (n : Int) := by
  unfold sortN
  rw [List.map_mergeSort]
  intro a _ b _
  simp

/-- A row of uint64s, sorted in place. -/
theorem SortRow_ok {w : World} {o : Own} {t : Tag} {v : Value} {xs : List Nat} (h : Row w o t 26 v (xs.map uv)) (hl : xs.length ≤ 1000000000000) :
    Calls Tryz.prog 60 #[v] w fun e w' => e = .returned (.tuple #[]) ∧ Row w' o t 26 v ((sortN xs).map uv) ∧ w.grownBy w' v.ownBlock := by
  rcases h.form with ⟨rfl, h0⟩ | ⟨g, cap, cur, rfl, hat, hn, hm, hs, ht⟩
  · have hx : xs = [] := by simpa using h0
    subst hx
    refine (SoU.Sort_int_nil none 0 w).mono ?_
    rintro e w' ⟨rfl, rfl⟩
    refine ⟨rfl, ?_, World.grownBy.refl _ _⟩
    have : sortN [] = [] := by simp [sortN]
    rw [this]
    exact h
  · simp only [List.length_map] at hn ht ⊢
    have hH : Holds encU w g 0 (xs.map fun n : Nat => (n : Int)).toArray := by
      intro j hj
      have hj' : j < xs.length := by simpa using hj
      refine ⟨?_, by rw [hat.free]⟩
      have h1 : (cur.toList.take xs.length)[j]? = (xs.map uv)[j]? := by rw [ht]
      rw [List.getElem?_take_of_lt hj', Array.getElem?_toList] at h1
      rw [Nat.zero_add, hat.cells, h1]
      simp [hj', uv]
    have hgl := hat.lt
    have hS := Sort_u64 g 0 cap (xs.map fun n : Nat => (n : Int)) w hH hgl (by simp; omega)
    rw [List.length_map, sortN_int] at hS
    refine hS.mono ?_
    rintro e w' ⟨rfl, n, os, rfl⟩
    have hlen : (sortN xs).length = xs.length := (sortN_p xs).length_eq
    have hheap : (grow (putRow encU (Sort.ahead w n) g 0 ((sortN xs).map fun n : Nat => (n : Int)).toArray) os).heap[g]? = some (.cells (putCells encU 0 ((sortN xs).map fun n : Nat => (n : Int)).toArray cur) 26 (0, 0)) := by
      rw [heap_grow_old _ _ (by simpa using hgl)]
      simp [putRow, mapBlock, Sort.ahead, Array.getElem?_modify, hat.1, onCells]
    refine ⟨rfl, ?_, ?_⟩
    · have := Row.of_form (w := grow (putRow encU (Sort.ahead w n) g 0 ((sortN xs).map fun n : Nat => (n : Int)).toArray) os) (o := o) (t := t) (e := 26) (v := .slice (some ⟨g, 0, none⟩) xs.length cap) (xs := (sortN xs).map uv) (g := g) (cap := cap) (by simp [hlen]) ⟨hheap, hat.2⟩ (by simp [hlen]; exact hn) hm (by simp [putCells, hs]) ?_
      · exact this
      · rw [List.length_map]
        apply List.ext_getElem?
        intro j
        by_cases hj : j < (sortN xs).length
        · rw [List.getElem?_take_of_lt hj, Array.getElem?_toList]
          simp [putCells, hj, show j < cur.size by omega, uv]
        · rw [List.getElem?_take_eq_none (by omega), List.getElem?_eq_none (by simp; omega)]
    · refine ⟨rfl, rfl, rfl, by simp, fun k hk hne => ?_⟩
      rw [heap_grow_old _ _ (by simpa using hk)]
      have : g ≠ k := fun e => hne (by simp [Value.ownBlock, e])
      simp [putRow, mapBlock, Sort.ahead, Array.getElem?_modify, this]
end Go.Proofs.YthliihmhkhabeaaGreatDoor
