/- What package reasm's row hands on. Conditions: the buffer is as its functions leave it (In.Wf). -/
import Derived.Test.YthliihmhkhabeaaGreatDoorIds09
import Derived.Test.YthliihmhkhabeaaGreatDoorIds10
namespace Go.Proofs.YthliihmhkhabeaaGreatDoor
open Go Go.RowKit
attribute [local go_sem] Oper.semAt_some

def In.step (I : In) : In := { I with read := I.read + 1, m := mdel I.m I.read }
def In.adv : Nat → In → In
  | 0, I => I
  | j + 1, I => (In.adv j I).step
def In.readN : Nat → In → List Nat × In
  | 0, I => ([], I)
  | n + 1, I => match mget I.m I.read with
    | none => ([], I)
    | some c => (c :: (In.readN n I.step).1, (In.readN n I.step).2)

theorem In.adv_read (I : In) : ∀ j, (In.adv j I).read = I.read + j
  | 0 => rfl
  | j + 1 => by simp only [In.adv, In.step, In.adv_read I j]; omega
theorem In.adv_top (I : In) : ∀ j, (In.adv j I).top = I.top
  | 0 => rfl
  | j + 1 => by simp only [In.adv, In.step, In.adv_top I j]

theorem In.step_wf {I : In} (h : I.Wf) {c : Nat} (hc : mget I.m I.read = some c) : I.step.Wf ∧ c < 256 := by
  have hmem : ∃ p ∈ I.m, p.1 = I.read ∧ p.2 = c := by
    have := midx_get I.m I.read 0
    rw [hc] at this
    cases hm : midx I.m I.read 0 with
    | none => rw [hm] at this; cases this
    | some q =>
      obtain ⟨i, v⟩ := q
      rw [hm] at this
      simp at this
      obtain ⟨h1, _⟩ := midx_at I.m I.read 0 i v hm
      exact ⟨(I.read, v), List.mem_of_getElem? h1, rfl, this⟩
  obtain ⟨p, hp, h1, h2⟩ := hmem
  obtain ⟨k1, k2, k3⟩ := h.keys p hp
  refine ⟨⟨h.win, by simp only [In.step]; omega, by have := h.tw; simp only [In.step]; omega, h.tm, h.sm, h.ks, h.nd.sublist ((mdel_sub _ _).map _), ?_⟩, by omega⟩
  intro q hq
  have hq0 := (mdel_sub _ _).subset hq
  obtain ⟨q1, q2, q3⟩ := h.keys q hq0
  have hne : q.1 ≠ I.read := by
    intro e
    have h0 := mget_mdel I.m I.read I.read h.nd
    rw [if_pos rfl, mget_none] at h0
    exact h0 (List.mem_map.2 ⟨q, hq, e⟩)
  exact ⟨by simp only [In.step]; omega, q2, q3⟩

set_option maxRecDepth 100000 in
theorem Rrow_ok (w : World) (p : Option Addr) :
    Calls Tryz.prog 80 #[.pointer p] w fun e w' => e = .returned (.func (.func 151) #[] #[.pointer (some ⟨w.heap.size, 0, none⟩)]) ∧ w' = w.alloc (.cells #[.pointer p] 78) := by
  go_enter Tryz.func80, Tryz.ntmps80
  go_wp2
  go_ret
  exact ⟨rfl, rfl⟩

def In.next (I : In) (j : Nat) : Option Nat := mget (In.adv j I).m (In.adv j I).read
def rowEnc (I : In) (j : Nat) : Array Value := #[.int .u64 ((I.read : Int) + j), .int .u8 ((I.next j).getD 0)]
def RowFact (t : Tag) (k B : Nat) (I : In) (j : Nat) (W : World) : Prop := W.cell? ⟨B, 0, none⟩ = some (.pointer (some ⟨k, 0, none⟩)) ∧ ∃ o, InRep W o t k (In.adv j I)

set_option maxRecDepth 100000 in
theorem Rrow1_hands (n : Nat) (t : Tag) (k B : Nat) (I : In) (w : World) :
    Hands Fence.wide n Tryz.prog 151 #[.pointer (some ⟨B, 0, none⟩)] (rowEnc I) (fun j => (I.next j).isSome = true) (RowFact t k B I) w := by
  intro l J Jx hfact hY W h0
  have hcp : ∀ j W, J j W → ∃ bm, W.cell? ⟨B, 0, none⟩ = some (.pointer (some ⟨k, 0, none⟩)) ∧ W.cell? ⟨k, 5, none⟩ = some (.map (some bm)) ∧ W.cell? ⟨k, 1, none⟩ = some (.int .u64 ((I.read : Int) + j)) ∧ I.read + j ≤ I.top ∧ I.top ≤ 4611686018427387903 ∧
      (Instr.lookup 130 (.map (some bm)) (.int .u64 ((I.read : Int) + j)) true).run Tryz.prog W = .ok (.tuple #[.int .u8 ((I.next j).getD 0), .bool (I.next j).isSome]) W := by
    intro j W hJ
    obtain ⟨h1, o, hw, bm, hat, hm⟩ := hfact j W hJ
    have hlk := run_lookup (P := Tryz.prog) (V := bv) (PlainKey.int Tryz.underlying26) Tryz.underlying130 (fun w => zeroU8 w) hm (In.adv j I).read true
    have hr := In.adv_read I j
    have ht := In.adv_top I j
    have := hw.rt; have := hw.tm
    refine ⟨bm, h1, by rw [hat.cells]; rfl, by rw [hat.cells]; simp [hr], by omega, by omega, ?_⟩
    have e1 : natKey .u64 (In.adv j I).read = .int .u64 ((I.read : Int) + j) := by rw [hr]; simp [natKey]
    rw [e1] at hlk
    rw [hlk, if_pos rfl]
    unfold In.next
    cases mget (In.adv j I).m (In.adv j I).read <;> rfl
  clear hfact
  refine callsIn_of_wp Tryz.func151 rfl trivial ?_ rfl
  simp only [Tryz.ntmps151, List.size_toArray, List.length_cons, List.length_nil, Nat.reduceAdd, Nat.reduceSub, Array.replicate_succ, Array.replicate_zero, List.push_toArray, List.append_toArray, List.nil_append, List.cons_append]
  obtain ⟨bm, c1, c2, c3, _⟩ := hcp 0 W h0
  simp only [Int.add_zero, Int.cast_ofNat_Int] at c3
  gi_wp2
  clear c1 c2 c3
  gi_loopw [3] (fun p wr => ∃ j : Nat, p = .int .u64 ((I.read : Int) + j) ∧ J j wr) (fun p _ => I.top + 1 - (intOf p).toNat)
  case atStart =>
    exact ⟨0, by simp, h0⟩
  case round =>
    obtain ⟨j, rfl, hJ⟩ := hrel
    obtain ⟨bm, c1, c2, _, hle, htm, hlk⟩ := hcp j wr hJ
    have hle' : (I.read : Int) + j ≤ 4611686018427387903 := by omega
    cases hn : I.next j with
    | none =>
      rw [hn] at hlk
      gi_wp2
      refine ⟨fun _ h => (by cases h), ?_⟩
      gi_wp2
      refine bodyPost_ret (results_none rfl _ _ _) rfl ?_
      exact ⟨⟨_, rfl⟩, .inl ⟨j, by simp [hn], hJ⟩⟩
    | some c =>
      have hm : (I.next j).isSome = true := by rw [hn]; rfl
      obtain ⟨fn, tmps, assign, body, hy, hR⟩ := hY j wr hJ hm
      rw [hn] at hlk
      unfold rowEnc at hy
      rw [hn] at hy
      simp only [Option.getD_some, Option.isSome_some] at hlk hy
      gi_wp2
      refine ⟨fun h => (by simp [Fence.wide] at h), hR.mono ?_⟩
      rintro e W3 (⟨rfl, hJ3⟩ | ⟨rfl, hJx3⟩)
      · gi_wp2
        go_roundw
        case rel => exact ⟨j + 1, by go_num, hJ3⟩
        case measure => simp [intOf]; omega
      · gi_wp2
        refine bodyPost_ret (results_none rfl _ _ _) rfl ?_
        exact ⟨⟨_, rfl⟩, .inr ⟨j, hm, hJx3⟩⟩
end Go.Proofs.YthliihmhkhabeaaGreatDoor
