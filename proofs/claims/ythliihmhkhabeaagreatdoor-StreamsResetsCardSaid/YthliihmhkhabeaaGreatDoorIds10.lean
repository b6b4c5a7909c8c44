/- A range over a function whose rounds are counted: what the iterator owes, and what the caller's loop comes to. No condition. -/
import Derived.Test.YthliihmhkhabeaaGreatDoorIds05
import Derived.RangeFuncNested
import Derived.RangeFuncBound
import Derived.RangeFuncCalls
import Derived.RangeFuncLeaves
import Derived.OwnWalkIn
import Derived.TacticsInMore
import Derived.LoopNIn
import Derived.LoopIn
namespace Go.Proofs.YthliihmhkhabeaaGreatDoor
open Go Go.RowKit

/-- What holds before round j holds still when a record of the walk (no cells, at or beyond B) is turned. -/
def Lasts (B : Nat) (I : Nat → World → Prop) : Prop :=
  ∀ j W k x y, I j W → B ≤ k → W.heap[k]? = some x → x.isCells = false → (∀ es c, x ≠ .map es c) → I j (W.putObj k y)

/-- What an iterator comes to: J holds before each round, the rounds are told what they want; more: there is one more. -/
def Hands (F : Fence) (n : Nat) (P : Program) (g : Nat) (lb : Array Value) (enc : Nat → Array Value) (more : Nat → Prop) (Fact : Nat → World → Prop) (_w : World) : Prop :=
  ∀ (l : Nat) (J Jx : Nat → World → Prop), (∀ j W, J j W → Fact j W) →
    (∀ j W, J j W → more j → YieldAt F (n - 1) P l (enc j) W fun e W' => (e = .returned (.bool true) ∧ J (j + 1) W') ∨ (e = .returned (.bool false) ∧ Jx j W')) →
    ∀ W, J 0 W → CallsIn F n P g (#[.func (.yield l) #[] #[]] ++ lb) W fun e W' => (∃ v, e = .returned v) ∧ ((∃ j, ¬ more j ∧ J j W') ∨ (∃ j, more j ∧ Jx j W'))

/-- How a round's body may be left: on, or by this break. -/
def RoundEnd (B : Nat) (I Ix : Nat → World → Prop) (id j : Nat) (W : World) : Exit → Act → World → Prop
  | .normal, _, W' => KeepsFrom B W W' ∧ I (j + 1) W'
  | .exit i, _, W' => i = id ∧ KeepsFrom B W W' ∧ Ix j W'
  | _, _, _ => False

theorem wpIn_hands {F : Fence} {n : Nat} {P : Program} {g : Operand} {ps : Array Tmp} {assign body : Code} {Q : Exit → Act → World → Prop} {a : Act} {w : World} (id : Nat)
    (hro : F.round = none) (h1 : 1 ≤ n) {gf : Nat} {lb : Array Value} (hg : a.eval g = .func (.func gf) #[] lb) (hFg : F.fn gf) (eg : ∀ args w, (callFunc gf args).run P w = .ok (.enter gf args) w)
    {enc : Nat → Array Value} {more : Nat → Prop} {Fact : Nat → World → Prop} (hseq : Hands F (n - 1) P gf lb enc more Fact w) (hps : ∀ j, (enc j).size = ps.size)
    (I Ix : Nat → World → Prop) (hI : Lasts w.heap.size I) (hIx : Lasts w.heap.size Ix) (hfact : ∀ j W, I j W → Fact j W) (h0 : ∀ d r, I 0 ((w.alloc d).alloc r)) (a₁ : Nat → Act)
    (hassign : ∀ (l j : Nat) (W : World) (K : Act → World → Prop), K (a₁ j) W → more j →
      assign.wpIn (F.inRound l) (n - 1 - 1) P (Exit.then K (fun _ _ _ => False)) { tmps := (ps.zip (enc j)).foldl (fun t (p, v) => t.setIfInBounds p v) a.tmps, defers := [] } W)
    (hbody : ∀ (l j : Nat) (W : World), w.heap.size + 1 < W.heap.size → I j W → more j → body.wpIn (F.inRound l) (n - 1 - 1) P (RoundEnd w.heap.size I Ix id j W) (a₁ j) W)
    (hdone : ∀ (j : Nat) (W : World), ¬ more j → I j W → W.heap[w.heap.size]? = some (.deferred (some [])) → Q .normal { a with defers := { target := .collected w.heap.size, args := #[] } :: a.defers } W)
    (hstop : ∀ (j : Nat) (W : World), more j → Ix j W → W.heap[w.heap.size]? = some (.deferred (some [])) → (Code.exit id).wpIn F n P Q { a with defers := { target := .collected w.heap.size, args := #[] } :: a.defers } W) :
    (Code.rangeFunc g ps assign body).wpIn F n P Q a w := by
  refine wpIn_rangeFunc fun fn hfn => ?_
  rw [hro]
  let R : LoopState → Option Code → Loop := fun st pe => { state := st, pending := pe, fn, tmps := a.tmps, params := ps, assign, body, defers := w.heap.size }
  let b := w.heap.size
  let Bk : LoopState → Option Code → World → Prop := fun st pe W => W.heap[b + 1]? = some (.loop (R st pe)) ∧ W.heap[b]? = some (.deferred (some []))
  have hsz : (w.alloc (.deferred (some []))).heap.size = b + 1 := by simp [b]
  have hb1 : Bk .ready none ((w.alloc (.deferred (some []))).alloc (.loop (R .ready none))) := by
    constructor
    · rw [← hsz]; exact World.alloc_heap_new _ _
    · rw [Below.heap_alloc _ _ _ (by rw [hsz]; omega)]
      exact World.alloc_heap_new w _
  have turn : ∀ {st pe st' pe' W}, Bk st pe W → Bk st' pe' (W.putObj (b + 1) (.loop (R st' pe'))) := fun {st pe st' pe' W} h =>
    ⟨World.putObj_heap_same (Array.getElem?_eq_some_iff.1 h.1).1, (World.putObj_heap_other (by omega)).trans h.2⟩
  let W1 : World := (w.alloc (.deferred (some []))).alloc (.loop (R .ready none))
  refine ⟨b + 1, [{ target := .collected b, args := #[] }], W1, { target := .fn (.func gf) lb, args := #[.func (.yield (b + 1)) #[] #[]] }, W1, gf, #[.func (.yield (b + 1)) #[] #[]] ++ lb, W1,
    run_enterLoop_outer _ _ _ _ _, ?_, ?_, ?_, fun _ => h1, ?_⟩
  · simp only [resolve, hg]; simp [go_sem]
  · intro f hf; simp [Target.leads] at hf; subst hf; exact hFg
  · simp [invoke, go_sem, eg]
  refine (hseq (b + 1) (fun j W => I j W ∧ Bk .ready none W) (fun j W => Ix j W ∧ Bk .done (some (.exit id)) W) (fun j W h => hfact j W h.1) ?_ W1 ⟨h0 _ _, hb1⟩).mono ?_
  · rintro j W ⟨hi, hk⟩ hm
    have hlt : w.heap.size + 1 < W.heap.size := (Array.getElem?_eq_some_iff.1 hk.1).1
    refine ⟨_, _, _, _, run_yield (P := P) hk.1 (hps j), roundIn_of_wpIn hfn (hassign _ j W _ ⟨_, run_beginRound hk.1 rfl, ?_⟩ hm)⟩
    refine wpIn_mono (hbody _ j _ (by simpa using hlt) (hI j W _ _ _ hi (by omega) hk.1 rfl (by intro _ _ h; cases h)) hm) ?_
    have hk2 : Bk .busy none (W.putObj (b + 1) (.loop (R .busy none))) := turn hk
    intro e a3 W3 hp
    cases e with
    | normal =>
      obtain ⟨k3, i3⟩ := hp
      have hk3 : Bk .busy none W3 := ⟨k3.same _ _ (by omega) hk2.1 rfl, k3.same _ _ (Nat.le_refl _) hk2.2 rfl⟩
      exact ⟨_, _, run_endRound none hk3.1, .inl ⟨rfl, hI _ _ _ _ _ i3 (by omega) hk3.1 rfl (by intro _ _ h; cases h), turn hk3⟩⟩
    | exit i =>
      obtain ⟨rfl, k3, i3⟩ := hp
      have hk3 : Bk .busy none W3 := ⟨k3.same _ _ (by omega) hk2.1 rfl, k3.same _ _ (Nat.le_refl _) hk2.2 rfl⟩
      exact ⟨_, _, run_endRound (some (.exit i)) hk3.1, .inr ⟨rfl, hIx _ _ _ _ _ i3 (by omega) hk3.1 rfl (by intro _ _ h; cases h), turn hk3⟩⟩
    | ret => exact hp.elim
    | goto t => exact hp.elim
    | panic ch => exact hp.elim
    | outgrown => exact hp.elim
  · rintro e W2 ⟨⟨v, rfl⟩, (⟨j, hm, hi, hk⟩ | ⟨j, hm, hi, hk⟩)⟩
    · exact ⟨_, _, run_endLoop hk.1 (by simp [R]), hdone j _ hm (hI _ _ _ _ _ hi (by omega) hk.1 rfl (by intro _ _ h; cases h)) ((World.putObj_heap_other (by omega)).trans hk.2)⟩
    · exact ⟨_, _, run_endLoop hk.1 (by simp [R]), hstop j _ hm (hIx _ _ _ _ _ hi (by omega) hk.1 rfl (by intro _ _ h; cases h)) ((World.putObj_heap_other (by omega)).trans hk.2)⟩

theorem wpListIn_append_step {F : Fence} {n : Nat} {P : Program} (w : World) {ops : Array Oper} {rest : List Oper} {o : Oper} {a : Act} {Q : Exit → Act → World → Prop}
    (hg : o.guard = none) (s x : Operand) (t tn : TypeId) (hop : o.op = Op.call { callee := Callee.builtin Builtin.append, args := #[s, x], argTypes := #[t, tn] })
    (vs vx : Value) (hs : a.eval s = vs) (hx : a.eval x = vx) (v' : Value) (w' : World) (hr : (Builtin.append_ #[t, tn] o.type #[vs, vx]).run P w = .ok v' w') (h : wpListIn F n P ops Q rest (a.put o.dst v') w') :
    wpListIn F n P ops Q (o :: rest) a w := by
  refine wpListIn_plain hg fun K hK => ?_
  unfold Oper.wpIn
  refine ⟨?_, ?_⟩
  · simp [Oper.about, hop, resolve, Target.leads, Sem.run_pure]
  · rw [Oper.semAt_plain F _ _ (by rw [hop]; intro c hc; cases hc)]
    simp [execOp, hop, resolve, invoke, builtin, hs, hx, hr, Result.andThen]
    exact hK _ _ h

section
variable {w w' : World} {o o' : Own} {k l : Nat} {t : Tag} {x y : Obj} {L : List Tag}
theorem Chg.putObj {a b : World} (h : Chg L a o b o') (x : Obj) (hr : a.heap.size ≤ k) : Chg L a o (b.putObj k x) o' :=
  ⟨h.os, h.tape, h.output, by have := h.size; simp; omega, fun j hj ho => by
    obtain ⟨h1, h2⟩ := h.keep j hj ho
    exact ⟨(World.putObj_heap_other (by omega)).trans h1, h2⟩⟩
theorem At.putObj (h : At w o k t x) (hx : x.isCells = true) {u : Obj} (hl : w.heap[l]? = some u) (hu : u.isCells = false) (y : Obj) : At (w.putObj l y) o k t x := by
  refine ⟨(World.putObj_heap_other ?_).trans h.1, h.2⟩
  rintro rfl
  have := h.1.symm.trans hl
  injection this with e
  rw [e, hu] at hx; cases hx
theorem Row.putObj {e : TypeId} {v : Value} {xs : List Value} (h : Row w o t e v xs) {u : Obj} (hl : w.heap[l]? = some u) (hu : u.isCells = false) (y : Obj) : Row (w.putObj l y) o t e v xs := by
  rcases h.form with ⟨rfl, rfl⟩ | ⟨g, cap, cur, rfl, hg, hn, hm, hs, ht⟩
  · exact Row.nil _ _ _ _
  · exact Row.of_form rfl (hg.putObj rfl hl hu y) hn hm hs ht
end
end Go.Proofs.YthliihmhkhabeaaGreatDoor
