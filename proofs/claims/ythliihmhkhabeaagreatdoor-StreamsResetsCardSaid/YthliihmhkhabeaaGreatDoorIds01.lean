/- Words that all texts of this claim use: who owns a block (a tag, a ghost), what a call may change, rows that a slice owns, slices that are read. No condition. -/
import Derived.WalkKit
import Derived.Below
import Derived.Laws.OwnMore
import Derived.Deep.Draws
import Derived.Deep.QuietTactic
import Derived.BigQuiet
import Derived.Deep.RegionLaw
import Derived.Deep.RegionWith
import Derived.StillTailTactics
import Derived.Lib.Hide
import Derived.Lib.BytesEntry
import Derived.Lib.AppendZeros
import Derived.WalkSpells
import Derived.WalkLawsBesides
namespace Go.Proofs.YthliihmhkhabeaaGreatDoor
open Go Go.RowKit

abbrev Tag := List Nat
abbrev Own := Nat → Tag
def Own.upd (o : Own) (k : Nat) (t : Tag) : Own := fun j => if j = k then t else o j
theorem Own.upd_same (o : Own) (k : Nat) (t : Tag) : o.upd k t k = t := by simp [Own.upd]
theorem Own.upd_ne (o : Own) {j k : Nat} (t : Tag) (h : j ≠ k) : o.upd k t j = o j := by simp [Own.upd, h]

/-- A tag lies at none of these roots, nor below one. -/
def off (L : List Tag) (t : Tag) : Prop := ∀ r ∈ L, ¬ r <:+ t
theorem off_nil (t : Tag) : off [] t := fun _ h => by cases h

/-- From w to w' only blocks at or below these roots were turned; new blocks may have come. -/
structure Chg (L : List Tag) (w : World) (o : Own) (w' : World) (o' : Own) : Prop where
  os : w'.os = w.os
  tape : w'.tape = w.tape
  output : w'.output = w.output
  size : w.heap.size ≤ w'.heap.size
  keep : ∀ k, k < w.heap.size → off L (o k) → w'.heap[k]? = w.heap[k]? ∧ o' k = o k

theorem Chg.refl (L : List Tag) (w : World) (o : Own) : Chg L w o w o := ⟨rfl, rfl, rfl, Nat.le_refl _, fun _ _ _ => ⟨rfl, rfl⟩⟩
theorem Chg.mono {L L' : List Tag} {w w' : World} {o o' : Own} (h : Chg L w o w' o') (hL : ∀ t, off L' t → off L t) : Chg L' w o w' o' :=
  ⟨h.os, h.tape, h.output, h.size, fun k hk ho => h.keep k hk (hL _ ho)⟩
theorem Chg.trans {L : List Tag} {a b c : World} {o o' o'' : Own} (h : Chg L a o b o') (h' : Chg L b o' c o'') : Chg L a o c o'' :=
  ⟨h'.os.trans h.os, h'.tape.trans h.tape, h'.output.trans h.output, Nat.le_trans h.size h'.size, fun k hk ho => by
    obtain ⟨h1, h2⟩ := h.keep k hk ho
    obtain ⟨h3, h4⟩ := h'.keep k (Nat.lt_of_lt_of_le hk h.size) (by rw [h2]; exact ho)
    exact ⟨h3.trans h1, h4.trans h2⟩⟩
theorem Chg.drewN {L : List Tag} {a b : World} {o o' : Own} (h : Chg L a o b o') (n : Nat) : Chg L a o (b.drewN n) o' :=
  ⟨h.os, h.tape, h.output, h.size, h.keep⟩
theorem Chg.drew {L : List Tag} {a b : World} {o o' : Own} (h : Chg L a o b o') : Chg L a o b.drew o' := h.drewN 1
theorem Chg.alloc {L : List Tag} {a b : World} {o o' : Own} (h : Chg L a o b o') (ob : Obj) : Chg L a o (b.alloc ob) o' :=
  ⟨h.os, h.tape, h.output, by have := h.size; simp; omega, fun k hk ho => by
    obtain ⟨h1, h2⟩ := h.keep k hk ho
    exact ⟨(Below.heap_alloc b ob k (Nat.lt_of_lt_of_le hk h.size)).trans h1, h2⟩⟩
/-- A new block is given a tag. -/
theorem Chg.tag {L : List Tag} {a b : World} {o o' : Own} (h : Chg L a o b o') {k : Nat} (hk : a.heap.size ≤ k) (t : Tag) : Chg L a o b (o'.upd k t) :=
  ⟨h.os, h.tape, h.output, h.size, fun j hj ho => by
    obtain ⟨h1, h2⟩ := h.keep j hj ho
    exact ⟨h1, by rw [Own.upd_ne _ _ (by omega)]; exact h2⟩⟩
theorem Chg.setCell {L : List Tag} {a b : World} {o o' : Own} (h : Chg L a o b o') {p : Addr} (u : Value) (hp : a.heap.size ≤ p.block ∨ ¬ off L (o p.block)) : Chg L a o (b.setCell p u) o' :=
  ⟨h.os, h.tape, h.output, by have := h.size; simp [World.setCell]; omega, fun k hk ho => by
    obtain ⟨h1, h2⟩ := h.keep k hk ho
    refine ⟨?_, h2⟩
    rw [Below.heap_setCell _ _ _ _ (by rintro rfl; rcases hp with hp | hp; omega; exact hp ho)]
    exact h1⟩
theorem Chg.grown {L : List Tag} {a b c : World} {o o' : Own} (h : Chg L a o b o') {row : Option Nat} (hg : b.grownBy c row) (hr : ∀ k, row = some k → a.heap.size ≤ k ∨ ¬ off L (o k)) : Chg L a o c o' :=
  ⟨hg.os.trans h.os, hg.tape.trans h.tape, hg.output.trans h.output, Nat.le_trans h.size hg.size, fun k hk ho => by
    obtain ⟨h1, h2⟩ := h.keep k hk ho
    refine ⟨(hg.block k (Nat.lt_of_lt_of_le hk h.size) ?_).trans h1, h2⟩
    intro e
    rcases hr k e.symm with hr | hr
    · omega
    · exact hr ho⟩
/-- The same, where new blocks have been given tags. -/
theorem Chg.grown' {L : List Tag} {a b c : World} {o o' o'' : Own} (h : Chg L a o b o') {row : Option Nat} (hg : b.grownBy c row) (hold : ∀ k, k < b.heap.size → o'' k = o' k) (hr : ∀ k, row = some k → a.heap.size ≤ k ∨ ¬ off L (o k)) : Chg L a o c o'' :=
  ⟨hg.os.trans h.os, hg.tape.trans h.tape, hg.output.trans h.output, Nat.le_trans h.size hg.size, fun k hk ho => by
    obtain ⟨h1, h2⟩ := (h.grown hg hr).keep k hk ho
    exact ⟨h1, (hold k (Nat.lt_of_lt_of_le hk h.size)).trans (h.keep k hk ho).2⟩⟩
theorem Chg.of_below {w w' : World} (o : Own) (h : Below w.heap.size w w') : Chg [] w o w' o :=
  ⟨h.os, h.tape, h.output, h.size, fun k hk _ => ⟨h.block k hk, rfl⟩⟩
theorem Chg.below {L : List Tag} {w w' : World} {o o' : Own} (h : Chg L w o w' o') (hL : ∀ k, k < w.heap.size → off L (o k)) : Below w.heap.size w w' :=
  ⟨h.os, h.tape, h.output, h.size, fun k hk => (h.keep k hk (hL k hk)).1⟩

/-- Block k is this object, and bears this tag. -/
def At (w : World) (o : Own) (k : Nat) (t : Tag) (ob : Obj) : Prop := w.heap[k]? = some ob ∧ o k = t

section
variable {w w' : World} {o o' : Own} {k : Nat} {t : Tag} {ob : Obj} {L : List Tag}
theorem At.lt (h : At w o k t ob) : k < w.heap.size := (Array.getElem?_eq_some_iff.1 h.1).1
theorem At.chg (h : At w o k t ob) (hc : Chg L w o w' o') (hl : off L t) : At w' o' k t ob := by
  obtain ⟨h1, h2⟩ := hc.keep k h.lt (by rw [h.2]; exact hl)
  exact ⟨h1.trans h.1, h2.trans h.2⟩
theorem At.cells {cs : Array Value} {e : TypeId} (h : At w o k t (.cells cs e (0, 0))) : ∀ i, w.cell? ⟨k, i, none⟩ = cs[i]? := fun i => by
  simp [World.cell?, h.1]
theorem At.free {cs : Array Value} {e : TypeId} (h : At w o k t (.cells cs e (0, 0))) : ∀ i, w.frozen? ⟨k, i, none⟩ = false := fun i => by
  simp [World.frozen?, h.1]
theorem At.set {cs : Array Value} {e : TypeId} (h : At w o k t (.cells cs e (0, 0))) (i : Nat) (u : Value) : At (w.setCell ⟨k, i, none⟩ u) o k t (.cells (cs.setIfInBounds i u) e (0, 0)) := by
  refine ⟨?_, h.2⟩
  simp [World.setCell, Array.getElem?_modify, h.1]
theorem At.far (h : At w o k t ob) {p : Addr} (hp : k ≠ p.block) (u : Value) : At (w.setCell p u) o k t ob := ⟨(Below.heap_setCell w p u k hp).trans h.1, h.2⟩
theorem At.drewN (h : At w o k t ob) (n : Nat) : At (w.drewN n) o k t ob := h
theorem At.drew (h : At w o k t ob) : At w.drew o k t ob := h
theorem At.alloc (h : At w o k t ob) (x : Obj) : At (w.alloc x) o k t ob := ⟨(Below.heap_alloc w x k h.lt).trans h.1, h.2⟩
theorem At.grown (h : At w o k t ob) {row : Option Nat} (hg : w.grownBy w' row) (hne : some k ≠ row) : At w' o k t ob := ⟨(hg.block k h.lt hne).trans h.1, h.2⟩
theorem At.new (w : World) (o : Own) (t : Tag) (x : Obj) : At (w.alloc x) (o.upd w.heap.size t) w.heap.size t x := ⟨heap_alloc_new w x, Own.upd_same _ _ _⟩
theorem At.tag (h : At w o k t ob) {j : Nat} (hj : w.heap.size ≤ j) (s : Tag) : At w (o.upd j s) k t ob := ⟨h.1, by rw [Own.upd_ne _ _ (by have := h.lt; omega)]; exact h.2⟩
theorem At.on (h : At w o k t ob) : ¬ off [t] (o k) := by rw [h.2]; exact fun hh => hh t (by simp) (List.suffix_refl t)
theorem At.on' (h : At w o k t ob) {r : Tag} (hr : r <:+ t) : ¬ off [r] (o k) := by rw [h.2]; exact fun hh => hh r (by simp) hr
theorem At.ne {j : Nat} {s : Tag} {x : Obj} (h : At w o k t ob) (h' : At w o j s x) (hne : t ≠ s) : k ≠ j := by
  rintro rfl
  exact hne (h.2.symm.trans h'.2)
end

theorem tag_ne (t : Tag) (n : Nat) : t ≠ n :: t := fun h => by have := congrArg List.length h; simp at this
theorem tag_ne' (t : Tag) (n : Nat) : n :: t ≠ t := fun h => tag_ne t n h.symm
theorem off_one {r t : Tag} : off [r] t ↔ ¬ r <:+ t := by simp [off]
theorem suf_cons (t : Tag) (n : Nat) : t <:+ n :: t := List.suffix_cons n t
/-- What is at or below a child lies below the parent. -/
theorem Chg.up {r t : Tag} {w w' : World} {o o' : Own} (h : Chg [r] w o w' o') (hr : t <:+ r) : Chg [t] w o w' o' :=
  h.mono fun s hs => by rw [off_one] at hs ⊢; exact fun h => hs (hr.trans h)
theorem Chg.of_nil {L : List Tag} {w w' : World} {o o' : Own} (h : Chg [] w o w' o') : Chg L w o w' o' := h.mono fun _ _ => off_nil _

/-- A slice value that owns a row of cells (one cell an element). -/
def Row (w : World) (o : Own) (t : Tag) (e : TypeId) (v : Value) (xs : List Value) : Prop :=
  w.ownsRow 0 e 1 v xs.length xs ∧ ∀ g, v.ownBlock = some g → o g = t

section
variable {w w' : World} {o o' : Own} {t : Tag} {e : TypeId} {v : Value} {xs : List Value} {L : List Tag}
theorem Row.nil (w : World) (o : Own) (t : Tag) (e : TypeId) : Row w o t e (.slice none 0 0) [] := ⟨World.ownsRow_nil w 0 e 1, fun g h => by simp [Value.ownBlock] at h⟩
theorem Row.form (h : Row w o t e v xs) : (v = .slice none 0 0 ∧ xs = []) ∨ ∃ g cap cur, v = .slice (some ⟨g, 0, none⟩) xs.length cap ∧ At w o g t (.cells cur e (0, 0)) ∧ xs.length ≤ cap ∧ cap ≤ maxLen ∧ cur.size = cap ∧ cur.toList.take xs.length = xs := by
  obtain ⟨⟨_, h2⟩, h3⟩ := h
  rcases h2 with ⟨rfl, h0⟩ | ⟨g, cap, cur, rfl, _, hg, hn, hm, hs, ht⟩
  · exact .inl ⟨rfl, List.eq_nil_of_length_eq_zero h0⟩
  · exact .inr ⟨g, cap, cur, rfl, ⟨hg, h3 g rfl⟩, hn, hm, by simpa using hs, by simpa using ht⟩
theorem Row.of_form {g cap : Nat} {cur : Array Value} (hv : v = .slice (some ⟨g, 0, none⟩) xs.length cap) (h : At w o g t (.cells cur e (0, 0))) (hn : xs.length ≤ cap) (hm : cap ≤ maxLen) (hs : cur.size = cap) (ht : cur.toList.take xs.length = xs) : Row w o t e v xs :=
  ⟨⟨by simp, .inr ⟨g, cap, cur, hv, Nat.zero_le _, h.1, hn, hm, by simpa using hs, by simpa using ht⟩⟩, fun g' hg' => by subst hv; simp [Value.ownBlock] at hg'; subst hg'; exact h.2⟩
theorem Row.chg (h : Row w o t e v xs) (hc : Chg L w o w' o') (hl : off L t) : Row w' o' t e v xs := by
  rcases h.form with ⟨rfl, rfl⟩ | ⟨g, cap, cur, rfl, hg, hn, hm, hs, ht⟩
  · exact Row.nil _ _ _ _
  · exact Row.of_form rfl (hg.chg hc hl) hn hm hs ht
theorem Row.drewN (h : Row w o t e v xs) (n : Nat) : Row (w.drewN n) o t e v xs := h.chg ((Chg.refl [] w o).drewN n) (off_nil _)
theorem Row.alloc (h : Row w o t e v xs) (x : Obj) : Row (w.alloc x) o t e v xs := h.chg ((Chg.refl [] w o).alloc x) (off_nil _)
theorem Row.tag (h : Row w o t e v xs) {j : Nat} (hj : w.heap.size ≤ j) (s : Tag) : Row w (o.upd j s) t e v xs := h.chg ((Chg.refl [] w o).tag hj s) (off_nil _)
/-- A store elsewhere. -/
theorem Row.far (h : Row w o t e v xs) {p : Addr} (hp : o p.block ≠ t) (u : Value) : Row (w.setCell p u) o t e v xs := by
  rcases h.form with ⟨rfl, rfl⟩ | ⟨g, cap, cur, rfl, hg, hn, hm, hs, ht⟩
  · exact Row.nil _ _ _ _
  · exact Row.of_form rfl (hg.far (by rintro rfl; exact hp hg.2) u) hn hm hs ht
theorem Row.len (h : Row w o t e v xs) : xs.length ≤ maxLen := by
  rcases h.form with ⟨_, rfl⟩ | ⟨g, cap, cur, _, _, hn, hm, _⟩
  · simp
  · omega

/-- A slice value that reads as a list; whose memory bears a tag. -/
def Sl (w : World) (o : Own) (t : Tag) (v : Value) (xs : List Value) : Prop :=
  ∃ A c, v = .slice A xs.length c ∧ xs.length ≤ c ∧ c ≤ maxLen ∧ (A = none → c = 0) ∧ (0 < xs.length → ∃ b f, A = some ⟨b, f, none⟩ ∧ o b = t ∧ ∀ j, j < xs.length → w.cell? ⟨b, f + j, none⟩ = xs[j]?)

theorem cell_lt {w : World} {b f : Nat} {u : Value} (h : w.cell? ⟨b, f, none⟩ = some u) : b < w.heap.size := World.block_lt_of_cell? w _ h
theorem Sl.chg (h : Sl w o t v xs) (hc : Chg L w o w' o') (hl : off L t) : Sl w' o' t v xs := by
  obtain ⟨A, c, rfl, h1, h2, hz, h3⟩ := h
  refine ⟨A, c, rfl, h1, h2, hz, fun h0 => ?_⟩
  obtain ⟨b, f, rfl, ho, hcell⟩ := h3 h0
  have hb : b < w.heap.size := cell_lt (f := f + 0) (u := xs[0]) (by rw [hcell 0 h0]; exact List.getElem?_eq_getElem h0)
  obtain ⟨k1, k2⟩ := hc.keep b hb (by rw [ho]; exact hl)
  exact ⟨b, f, rfl, k2.trans ho, fun j hj => (World.cell?_of_block (w := w) (a := ⟨b, f + j, none⟩) k1).trans (hcell j hj)⟩
theorem Sl.drewN (h : Sl w o t v xs) (n : Nat) : Sl (w.drewN n) o t v xs := h.chg ((Chg.refl [] w o).drewN n) (off_nil _)
theorem Sl.alloc (h : Sl w o t v xs) (x : Obj) : Sl (w.alloc x) o t v xs := h.chg ((Chg.refl [] w o).alloc x) (off_nil _)
theorem Sl.nil (w : World) (o : Own) (t : Tag) : Sl w o t (.slice none 0 0) [] := ⟨none, 0, rfl, by simp, by simp [maxLen], fun _ => rfl, fun h => by simp at h⟩
theorem Row.sl (h : Row w o t e v xs) : Sl w o t v xs := by
  rcases h.form with ⟨rfl, rfl⟩ | ⟨g, cap, cur, rfl, hg, hn, hm, hs, ht⟩
  · exact Sl.nil _ _ _
  · refine ⟨_, cap, rfl, hn, hm, (by intro h; cases h), fun _ => ⟨g, 0, rfl, hg.2, fun j hj => ?_⟩⟩
    rw [Nat.zero_add, hg.cells j, ← Array.getElem?_toList, ← ht, List.getElem?_take]
    simp [hj]
/-- A store into the row. -/
theorem Row.set {g cap j : Nat} {u : Value} (h : Row w o t e (.slice (some ⟨g, 0, none⟩) xs.length cap) xs) : Row (w.setCell ⟨g, j, none⟩ u) o t e (.slice (some ⟨g, 0, none⟩) xs.length cap) (xs.set j u) := by
  rcases h.form with ⟨hv, _⟩ | ⟨g', cap', cur, hv, hg, hn, hm, hs, ht⟩
  · cases hv
  · injection hv with h1 _ h3
    injection h1 with h1
    injection h1 with h1
    subst h1; subst h3
    refine Row.of_form (by simp) (hg.set j u) (by simpa using hn) hm (by simpa using hs) ?_
    rw [Array.toList_setIfInBounds, List.length_set, List.take_set, ht]
theorem Row.cell {g cap : Nat} (h : Row w o t e (.slice (some ⟨g, 0, none⟩) xs.length cap) xs) : o g = t ∧ (∀ j, j < xs.length → w.cell? ⟨g, j, none⟩ = xs[j]?) ∧ (∀ i, w.frozen? ⟨g, i, none⟩ = false) := by
  rcases h.form with ⟨hv, _⟩ | ⟨g', cap', cur, hv, hg, hn, hm, hs, ht⟩
  · cases hv
  · injection hv with h1 h2 h3
    injection h1 with h1
    injection h1 with h1
    subst h1; subst h3
    refine ⟨hg.2, fun j hj => ?_, hg.free⟩
    rw [hg.cells j, ← Array.getElem?_toList]
    conv => rhs; rw [← ht]
    rw [List.getElem?_take, if_pos hj]
theorem Sl.take {A : Option Addr} {n c b : Nat} (h : Sl w o t (.slice A n c) xs) (hb : b ≤ n) : Sl w o t (.slice A b c) (xs.take b) := by
  obtain ⟨A', c', hv, h1, h2, hz, h3⟩ := h
  injection hv with hA hn hc
  subst hA; subst hn; subst hc
  have hl : (xs.take b).length = b := by simp; omega
  refine ⟨_, _, by rw [hl], by omega, h2, hz, fun h0 => ?_⟩
  rw [hl] at h0
  obtain ⟨k, f, rfl, ho, hcell⟩ := h3 (by omega)
  exact ⟨k, f, rfl, ho, fun j hj => by rw [hl] at hj; rw [hcell j (by omega), List.getElem?_take, if_pos hj]⟩
/-- A part of it. -/
theorem Sl.cut {A : Option Addr} {n c a b : Nat} (h : Sl w o t (.slice A n c) xs) (hab : a ≤ b) (hb : b ≤ n) :
    Sl w o t (.slice (if c = a then A else A.map (·.add (a * 1))) (b - a) (c - a)) ((xs.take b).drop a) := by
  obtain ⟨A', c', hv, h1, h2, hz, h3⟩ := h
  injection hv with hA hn hc
  subst hA; subst hn; subst hc
  have hl : ((xs.take b).drop a).length = b - a := by simp; omega
  refine ⟨_, _, by rw [hl], by omega, by omega, fun hA => ?_, fun h0 => ?_⟩
  · cases A with
    | none => have := hz rfl; omega
    | some x => split at hA <;> simp at hA
  rw [hl] at h0
  obtain ⟨k, f, rfl, ho, hcell⟩ := h3 (by omega)
  rw [if_neg (by omega)]
  refine ⟨k, f + a, by simp only [Option.map_some, Nat.mul_one]; unfold Addr.add; split <;> simp_all, ho, fun j hj => ?_⟩
  rw [hl] at hj
  rw [Nat.add_assoc, hcell (a + j) (by omega), List.getElem?_drop, List.getElem?_take, if_pos (by omega)]
end

theorem run_append_empty {P : Program} (w : World) (ty tt e : TypeId) (i : TypeInfo) (ht : P.underlying tt = some (.slice e)) (hi : P.info? e = some i) (A : Option Addr) (n cap : Nat) (B : Option Addr) (c : Nat) (h : n ≤ cap) :
    (Builtin.append_ #[tt, tt] ty #[.slice A n cap, .slice B 0 c]).run P w = .ok (.slice A n cap) w := by
  cases A <;> cases B <;> simp [Builtin.append_, run_underlying ht, sizeOf, typeInfo, hi, Builtin.lenOf, h, Builtin.firstCells, loadCells, loadCellsFrom, storeCells]

/-- The same in the walk's own spelling. -/
theorem Sl.cut_ne {w : World} {o : Own} {t : Tag} {xs : List Value} {A : Option Addr} {n c a b : Nat} (h : Sl w o t (.slice A n c) xs) (hab : a ≤ b) (hb : b ≤ n) (hc : c ≠ a) :
    Sl w o t (.slice (A.map (fun x => x.add a)) (b - a) (c - a)) ((xs.take b).drop a) := by
  have h1 := h.cut hab hb
  rw [if_neg hc] at h1
  simpa using h1
theorem Sl.cut_eq {w : World} {o : Own} {t : Tag} {xs : List Value} {A : Option Addr} {n c a b : Nat} (h : Sl w o t (.slice A n c) xs) (hab : a ≤ b) (hb : b ≤ n) (hc : c = a) :
    Sl w o t (.slice A (b - a) 0) ((xs.take b).drop a) := by
  have h1 := h.cut hab hb
  rw [if_pos hc] at h1
  rw [show c - a = 0 from by omega] at h1
  exact h1

/-- append onto a row of one's own, of what is read (nil let in): the row's block, or a new one. -/
theorem run_append_row {P : Program} (w : World) (ty tt e : TypeId) (i : TypeInfo) (z : Value) (ht : P.underlying tt = some (.slice e)) (hi : P.info? e = some i) (hz : i.zero = some z)
    (hs : i.size = 1) (hby : i.bytes ≤ 16) (hzs : z.cells.size = 1) {o : Own} {t s : Tag} {v v2 : Value} {xs ys : List Value} (hr : Row w o t e v xs) (hy : Sl w o s v2 ys)
    (h1 : ∀ u ∈ ys, u.oneCell' = true) (hb : xs.length + ys.length ≤ 1000000000000) :
    ∃ v' w' o', (Builtin.append_ #[tt, tt] ty #[v, v2]).run P w = .ok v' w' ∧ Row w' o' t e v' (xs ++ ys) ∧ w.grownBy w' v.ownBlock ∧ Chg [t] w o w' o' ∧ (∀ k, k < w.heap.size → o' k = o k) := by
  obtain ⟨A, c, rfl, hc1, hc2, _, hc3⟩ := hy
  by_cases h0 : ys.length = 0
  · have hys : ys = [] := List.eq_nil_of_length_eq_zero h0
    subst hys
    refine ⟨v, w, o, ?_, by simpa using hr, ⟨rfl, rfl, rfl, Nat.le_refl _, fun _ _ _ => rfl⟩, Chg.refl _ _ _, fun _ _ => rfl⟩
    rcases hr.form with ⟨rfl, rfl⟩ | ⟨g, cap, cur, rfl, hg, hn, hm, hcs, htk⟩
    · exact run_append_empty w ty tt e i ht hi none 0 0 A c (Nat.le_refl _)
    · exact run_append_empty w ty tt e i ht hi _ _ _ A c hn
  · obtain ⟨b, f, rfl, ho, hcell⟩ := hc3 (by omega)
    have hnews : ∀ j u, ys[j]? = some u → w.cell? ((⟨b, f, none⟩ : Addr).add j) = some u := fun j u hu => by
      have hj : j < ys.length := (List.getElem?_eq_some_iff.1 hu).1
      have e1 : (⟨b, f, none⟩ : Addr).add j = ⟨b, f + j, none⟩ := by unfold Addr.add; split <;> simp_all
      rw [e1, hcell j hj, hu]
    rcases hr.form with ⟨rfl, rfl⟩ | ⟨g, cap, cur, rfl, hg, hn, hm, hcs, htk⟩
    · obtain ⟨v', w', hrun, hown, hgb, _⟩ := run_append_own (P := P) w w.heap.size tt ty e i z 1 i.bytes ht hi hz hs rfl hzs (by omega) (.slice none 0 0) 0 [] (World.ownsRow_nil w _ e 1) ⟨b, f, none⟩ ys.length c ys (by simp) hnews h1 (by simp [maxLen]; simp at hb; omega) (by simp at hb ⊢; calc ys.length * i.bytes ≤ ys.length * 16 := Nat.mul_le_mul_left _ hby
                                                    _ ≤ _ := by omega) (Nat.le_refl _)
      simp only [Nat.zero_add, List.nil_append] at hown ⊢
      rcases hown with ⟨_, ⟨rfl, hz'⟩ | ⟨g', cap', cur', rfl, hbase, hg', hn', hm', hs', ht'⟩⟩
      · exact absurd hz' h0
      · refine ⟨_, w', o.upd g' t, hrun, Row.of_form rfl ⟨hg', Own.upd_same _ _ _⟩ hn' hm' (by simpa using hs') (by simpa using ht'), hgb, ?_, fun k hk => Own.upd_ne _ _ (by omega)⟩
        exact (Chg.grown (Chg.refl [t] w o) hgb (fun k hk => by simp [Value.ownBlock] at hk)).tag hbase t
    · by_cases hroom : xs.length + ys.length ≤ cap
      · have hrun := run_append_room (P := P) w tt ty e i ht hi g xs.length cap cur hg.1 ⟨b, f, none⟩ ys.length c ys (by rw [hs]; simp) hnews h1 hroom (by rw [hs]; omega)
        refine ⟨_, _, o, hrun, Row.of_form (by simp) ⟨setRow_heap w g cur _ e _ hg.1, hg.2⟩ (by simpa using hroom) hm ?_ ?_, ⟨rfl, rfl, rfl, by simp, fun k _ hk => setRow_other w g k _ (fun e => hk (by simp [Value.ownBlock, e]))⟩, ?_, fun _ _ => rfl⟩
        · simp [hs]; omega
        · simp only [hs, Nat.mul_one]
          rw [htk]
          simp [List.take_append, List.take_of_length_le]
        · refine Chg.grown (row := some g) (Chg.refl [t] w o) ⟨rfl, rfl, rfl, by simp, fun k _ hk => setRow_other w g k _ (fun e => hk (by simp [e]))⟩ (fun k hk => .inr ?_)
          injection hk with hk
          subst hk
          intro hh
          exact hh t (by simp) (by rw [hg.2]; exact List.suffix_refl _)
      · have hrun := run_append_grow (P := P) w tt ty e i z ht hi hz ⟨g, 0, none⟩ xs.length cap xs (by rw [hs]; simp) (fun j u hu => by
            have hj : j < xs.length := (List.getElem?_eq_some_iff.1 hu).1
            have e1 : (⟨g, 0, none⟩ : Addr).add j = ⟨g, j, none⟩ := by unfold Addr.add; split <;> simp_all
            rw [e1, hg.cells j, ← Array.getElem?_toList]
            rw [← htk, List.getElem?_take] at hu
            simpa [hj] using hu) ⟨b, f, none⟩ ys.length c ys (by rw [hs]; simp) hnews (by omega) (by omega) (growslice_fits (by omega) (by calc (xs.length + ys.length) * i.bytes ≤ (xs.length + ys.length) * 16 := Nat.mul_le_mul_left _ hby
                                                    _ ≤ _ := by omega))
        have hge := grownCap_ge w (xs.length + ys.length) cap e
        have hcm : grownCap w (xs.length + ys.length) cap e ≤ maxLen := grownCap_le_maxLen w _ cap e (by simp only [maxLen]; omega)
        refine ⟨_, _, o.upd w.heap.size t, hrun, Row.of_form (by simp) (At.new w.drew o t _) (by simpa using hge) hcm ?_ ?_, ⟨rfl, rfl, rfl, by simp, fun k hk _ => Below.heap_alloc w.drew _ k hk⟩, ?_, fun k hk => Own.upd_ne _ _ (by omega)⟩
        · simp [size_zeroCells, hzs]; omega
        · simp [List.take_append, List.take_of_length_le]
        · exact (((Chg.refl [t] w o).drew).alloc _).tag (Nat.le_refl _) t

/-- A list, with what stands from a to b turned. -/
def markF {α : Type} (xs : List α) (a b : Nat) (f : α → α) : List α := xs.mapIdx fun i x => if a ≤ i ∧ i < b then f x else x
theorem markF_len {α : Type} (xs : List α) (a b : Nat) (f : α → α) : (markF xs a b f).length = xs.length := by simp [markF]
theorem markF_none {α : Type} (xs : List α) (a b : Nat) (f : α → α) (h : b ≤ a) : markF xs a b f = xs := by
  apply List.ext_getElem?
  intro i
  simp only [markF, List.getElem?_mapIdx]
  rw [show (fun x => if a ≤ i ∧ i < b then f x else x) = id from by funext x; rw [if_neg (by omega)]; rfl]
  simp
theorem markF_succ {α : Type} (xs : List α) (a j : Nat) (f : α → α) (x : α) (ha : a ≤ j) (hx : xs[j]? = some x) : (markF xs a j f).set j (f x) = markF xs a (j + 1) f := by
  apply List.ext_getElem?
  intro i
  have hj : j < xs.length := (List.getElem?_eq_some_iff.1 hx).1
  simp only [markF, List.getElem?_set, List.getElem?_mapIdx, List.length_mapIdx]
  by_cases hi : j = i
  · subst hi
    simp only [if_pos, hj, hx, Option.map_some]
    rw [if_pos (by omega)]
  · simp only [hi, if_false]
    congr 1
    funext y
    by_cases h1 : a ≤ i ∧ i < j
    · rw [if_pos h1, if_pos (by omega)]
    · rw [if_neg h1, if_neg (by omega)]
theorem markF_at {α : Type} (xs : List α) (a j : Nat) (f : α → α) : (markF xs a j f)[j]? = xs[j]? := by
  simp [markF, List.getElem?_mapIdx]
end Go.Proofs.YthliihmhkhabeaaGreatDoor
