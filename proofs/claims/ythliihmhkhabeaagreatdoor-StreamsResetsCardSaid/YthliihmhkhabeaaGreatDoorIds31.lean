/- A range over a function whose yields come in whatever order (a map's keys): what the iterator owes, and what the caller's loop comes to. No condition. -/
import Derived.Test.YthliihmhkhabeaaGreatDoorIds10
namespace Go.Proofs.YthliihmhkhabeaaGreatDoor
open Go Go.RowKit

/-- What holds still where the iterator draws, begins a walk over a map, or takes a step of it. -/
structure Abide (B : Nat) (J : List Nat → World → Prop) : Prop where
  drew : ∀ pre W n, J pre W → J pre (W.drewN n)
  alloc : ∀ pre W m c s d, J pre W → J pre (W.alloc (.mapIter m c s d))
  step : ∀ pre W it m c s d y, J pre W → B ≤ it → W.heap[it]? = some (.mapIter m c s d) → J pre (W.putObj it y)

/-- What an iterator over keys comes to: each of them once, in some order. -/
def HandsL (F : Fence) (n : Nat) (P : Program) (g : Nat) (lb : Array Value) (enc : Nat → Array Value) (keys : List Nat) (Fact : World → Prop) (_w : World) : Prop :=
  ∀ (l B : Nat) (J : List Nat → World → Prop), Abide B J → (∀ pre W, J pre W → Fact W) →
    (∀ pre x W, J pre W → (∃ post, (pre ++ x :: post).Perm keys) → YieldAt F (n - 1) P l (enc x) W fun e W' => e = .returned (.bool true) ∧ J (pre ++ [x]) W' ∧ KeepsFrom B W W') →
    ∀ W, J [] W → B ≤ W.heap.size → CallsIn F n P g (#[.func (.yield l) #[] #[]] ++ lb) W fun e W' => (∃ v, e = .returned v) ∧ ∃ pre, pre.Perm keys ∧ J pre W'

/-- How a round's body is left: on. -/
def RoundEndL (B : Nat) (I : List Nat → World → Prop) (pre : List Nat) (x : Nat) (W : World) : Exit → Act → World → Prop
  | .normal, _, W' => KeepsFrom B W W' ∧ I (pre ++ [x]) W'
  | _, _, _ => False

theorem KeepsFrom.mono' {B B' : Nat} {W W' : World} (h : KeepsFrom B W W') (hb : B ≤ B') : KeepsFrom B' W W' := ⟨h.size, fun k o hk => h.same k o (Nat.le_trans hb hk)⟩

theorem wpIn_handsL {F : Fence} {n : Nat} {P : Program} {g : Operand} {ps : Array Tmp} {assign body : Code} {Q : Exit → Act → World → Prop} {a : Act} {w : World}
    (hro : F.round = none) (h1 : 1 ≤ n) {gf : Nat} {lb : Array Value} (hg : a.eval g = .func (.func gf) #[] lb) (hFg : F.fn gf) (eg : ∀ args w, (callFunc gf args).run P w = .ok (.enter gf args) w)
    {enc : Nat → Array Value} {keys : List Nat} {Fact : World → Prop} (hseq : HandsL F (n - 1) P gf lb enc keys Fact w) (hps : ∀ x, (enc x).size = ps.size)
    (I : List Nat → World → Prop) (hI : Abide w.heap.size I) (hIr : ∀ pre W k x y, I pre W → w.heap.size ≤ k → W.heap[k]? = some x → x.isCells = false → (∀ es c, x ≠ .map es c) → I pre (W.putObj k y)) (hfact : ∀ pre W, I pre W → Fact W) (h0 : ∀ d r, I [] ((w.alloc d).alloc r)) (a₁ : Nat → Act)
    (hassign : ∀ (l x : Nat) (W : World) (K : Act → World → Prop), K (a₁ x) W →
      assign.wpIn (F.inRound l) (n - 1 - 1) P (Exit.then K (fun _ _ _ => False)) { tmps := (ps.zip (enc x)).foldl (fun t (p, v) => t.setIfInBounds p v) a.tmps, defers := [] } W)
    (hbody : ∀ (l : Nat) (pre : List Nat) (x : Nat) (W : World), w.heap.size + 1 < W.heap.size → I pre W → (∃ post, (pre ++ x :: post).Perm keys) → body.wpIn (F.inRound l) (n - 1 - 1) P (RoundEndL w.heap.size I pre x W) (a₁ x) W)
    (hdone : ∀ (pre : List Nat) (W : World), pre.Perm keys → I pre W → W.heap[w.heap.size]? = some (.deferred (some [])) → Q .normal { a with defers := { target := .collected w.heap.size, args := #[] } :: a.defers } W) :
    (Code.rangeFunc g ps assign body).wpIn F n P Q a w := by
  refine wpIn_rangeFunc fun fn hfn => ?_
  rw [hro]
  let R : LoopState → Option Code → Loop := fun st pe => { state := st, pending := pe, fn, tmps := a.tmps, params := ps, assign, body, defers := w.heap.size }
  let b := w.heap.size
  let Bk : LoopState → Option Code → World → Prop := fun st pe W => W.heap[b + 1]? = some (.loop (R st pe)) ∧ W.heap[b]? = some (.deferred (some []))
  have hsz : (w.alloc (.deferred (some []))).heap.size = b + 1 := by simp [b]
  have hb1 : Bk .ready none ((w.alloc (.deferred (some []))).alloc (.loop (R .ready none))) := by
    constructor
    · rw [← hsz]; exact World.alloc_heap_new _ _
    · rw [Below.heap_alloc _ _ _ (by rw [hsz]; omega)]
      exact World.alloc_heap_new w _
  have turn : ∀ {st pe st' pe' W}, Bk st pe W → Bk st' pe' (W.putObj (b + 1) (.loop (R st' pe'))) := fun {st pe st' pe' W} h =>
    ⟨World.putObj_heap_same (Array.getElem?_eq_some_iff.1 h.1).1, (World.putObj_heap_other (by omega)).trans h.2⟩
  let W1 : World := (w.alloc (.deferred (some []))).alloc (.loop (R .ready none))
  refine ⟨b + 1, [{ target := .collected b, args := #[] }], W1, { target := .fn (.func gf) lb, args := #[.func (.yield (b + 1)) #[] #[]] }, W1, gf, #[.func (.yield (b + 1)) #[] #[]] ++ lb, W1,
    run_enterLoop_outer _ _ _ _ _, ?_, ?_, ?_, fun _ => h1, ?_⟩
  · simp only [resolve, hg]; simp [go_sem]
  · intro f hf; simp [Target.leads] at hf; subst hf; exact hFg
  · simp [invoke, go_sem, eg]
  have hW1 : b + 1 + 1 ≤ W1.heap.size := by simp [W1, b]
  refine (hseq (b + 1) (b + 1 + 1) (fun pre W => I pre W ∧ Bk .ready none W) ⟨?_, ?_, ?_⟩ (fun pre W h => hfact pre W h.1) ?_ W1 ⟨h0 _ _, hb1⟩ hW1).mono ?_
  · rintro pre W m ⟨hi, hk⟩
    exact ⟨hI.drew _ _ _ hi, hk⟩
  · rintro pre W m c s d ⟨hi, hk1, hk2⟩
    exact ⟨hI.alloc _ _ _ _ _ _ hi, (Below.heap_alloc _ _ _ (Array.getElem?_eq_some_iff.1 hk1).1).trans hk1, (Below.heap_alloc _ _ _ (Array.getElem?_eq_some_iff.1 hk2).1).trans hk2⟩
  · rintro pre W it m c s d y ⟨hi, hk1, hk2⟩ hit hh
    exact ⟨hI.step _ _ _ _ _ _ _ _ hi (by omega) hh, (World.putObj_heap_other (by omega)).trans hk1, (World.putObj_heap_other (by omega)).trans hk2⟩
  · rintro pre x W ⟨hi, hk⟩ hm
    have hlt : w.heap.size + 1 < W.heap.size := (Array.getElem?_eq_some_iff.1 hk.1).1
    refine ⟨_, _, _, _, run_yield (P := P) hk.1 (hps x), roundIn_of_wpIn hfn (hassign _ x W _ ⟨_, run_beginRound hk.1 rfl, ?_⟩)⟩
    refine wpIn_mono (hbody _ pre x _ (by simpa using hlt) (hIr _ _ _ _ _ hi (by omega) hk.1 rfl (by intro _ _ h; cases h)) hm) ?_
    have hk2 : Bk .busy none (W.putObj (b + 1) (.loop (R .busy none))) := turn hk
    intro e a3 W3 hp
    cases e with
    | normal =>
      obtain ⟨k3, i3⟩ := hp
      have hk3 : Bk .busy none W3 := ⟨k3.same _ _ (by omega) hk2.1 rfl, k3.same _ _ (Nat.le_refl _) hk2.2 rfl⟩
      refine ⟨_, _, run_endRound none hk3.1, rfl, ⟨hIr _ _ _ _ _ i3 (by omega) hk3.1 rfl (by intro _ _ h; cases h), turn hk3⟩, ?_⟩
      refine ⟨?_, ?_⟩
      · have := k3.size; simpa using this
      · intro k o hB hk0 ho
        rw [World.putObj_heap_other (by omega)]
        refine k3.same k o (by omega) ?_ ho
        rw [World.putObj_heap_other (by omega)]
        exact hk0
    | exit i => exact hp.elim
    | ret => exact hp.elim
    | goto t => exact hp.elim
    | panic ch => exact hp.elim
    | outgrown => exact hp.elim
  · rintro e W2 ⟨⟨v, rfl⟩, pre, hm, hi, hk⟩
    exact ⟨_, _, run_endLoop hk.1 (by simp [R]), hdone pre _ hm (hIr _ _ _ _ _ hi (by omega) hk.1 rfl (by intro _ _ h; cases h)) ((World.putObj_heap_other (by omega)).trans hk.2)⟩
end Go.Proofs.YthliihmhkhabeaaGreatDoor
