/- Maps whose keys are whole numbers or strings, as plain lists of pairs in the order in which the keys came: what a look-up, a store, a delete do. No condition. -/
import Derived.Test.YthliihmhkhabeaaGreatDoorIds05
import Derived.Maps.OwnOps
namespace Go.Proofs.YthliihmhkhabeaaGreatDoor
open Go Go.RowKit

section plain
variable {κ α : Type} [DecidableEq κ]
def mget : List (κ × α) → κ → Option α
  | [], _ => none
  | p :: l, k => if p.1 = k then some p.2 else mget l k
def mset : List (κ × α) → κ → α → List (κ × α)
  | [], k, v => [(k, v)]
  | p :: l, k, v => if p.1 = k then (k, v) :: l else p :: mset l k v
def mdel : List (κ × α) → κ → List (κ × α)
  | [], _ => []
  | p :: l, k => if p.1 = k then l else p :: mdel l k
/-- Where a key stands. -/
def midx : List (κ × α) → κ → Nat → Option (Nat × α)
  | [], _, _ => none
  | p :: l, k, i => if p.1 = k then some (i, p.2) else midx l k (i + 1)

theorem midx_get : ∀ (l : List (κ × α)) (k : κ) (i : Nat), (midx l k i).map (·.2) = mget l k
  | [], _, _ => rfl
  | p :: l, k, i => by
    unfold midx mget
    split
    · rfl
    · exact midx_get l k (i + 1)
theorem midx_lt : ∀ (l : List (κ × α)) (k : κ) (i j : Nat) (v : α), midx l k i = some (j, v) → i ≤ j ∧ j < i + l.length
  | [], _, _, _, _, h => by simp [midx] at h
  | p :: l, k, i, j, v, h => by
    unfold midx at h
    split at h
    · injection h with h; injection h with h1 h2; subst h1; simp
    · have := midx_lt l k (i + 1) j v h
      simp; omega
theorem mget_mset : ∀ (l : List (κ × α)) (k k' : κ) (v : α), mget (mset l k v) k' = if k = k' then some v else mget l k'
  | [], k, k', v => by simp [mset, mget]
  | p :: l, k, k', v => by
    unfold mset
    by_cases h : p.1 = k
    · rw [if_pos h]
      unfold mget
      by_cases h2 : k = k'
      · simp [h2]
      · have : p.1 ≠ k' := fun e => h2 (h.symm.trans e)
        simp [h2, this]
    · rw [if_neg h]
      unfold mget
      rw [mget_mset l k k' v]
      by_cases h2 : p.1 = k'
      · have : k ≠ k' := fun e => h (h2.trans e.symm)
        simp [h2, this]
      · simp [h2]
theorem mset_keys : ∀ (l : List (κ × α)) (k : κ) (v : α), (mset l k v).map (·.1) = if k ∈ l.map (·.1) then l.map (·.1) else l.map (·.1) ++ [k]
  | [], k, v => by simp [mset]
  | p :: l, k, v => by
    unfold mset
    by_cases h : p.1 = k
    · simp [h]
    · rw [if_neg h]
      have h' : k ≠ p.1 := fun e => h e.symm
      simp only [List.map_cons, List.mem_cons, h', false_or]
      rw [mset_keys l k v]
      split <;> simp
theorem mset_nodup (l : List (κ × α)) (k : κ) (v : α) (h : (l.map (·.1)).Nodup) : ((mset l k v).map (·.1)).Nodup := by
  rw [mset_keys]
  split
  · exact h
  · rw [List.nodup_append]
    refine ⟨h, by simp, ?_⟩
    intro a ha b hb
    simp at hb
    subst hb
    rintro rfl
    contradiction
theorem mget_none : ∀ (l : List (κ × α)) (k : κ), mget l k = none ↔ k ∉ l.map (·.1)
  | [], k => by simp [mget]
  | p :: l, k => by
    unfold mget
    by_cases h : p.1 = k
    · simp [h]
    · have h' : k ≠ p.1 := fun e => h e.symm
      rw [if_neg h, mget_none l k]
      simp [h']
theorem mdel_sub : ∀ (l : List (κ × α)) (k : κ), (mdel l k).Sublist l
  | [], _ => by simp [mdel]
  | p :: l, k => by
    unfold mdel
    split
    · exact List.sublist_cons_self p l
    · exact (mdel_sub l k).cons_cons p
theorem mget_mdel : ∀ (l : List (κ × α)) (k k' : κ), (l.map (·.1)).Nodup → mget (mdel l k) k' = if k = k' then none else mget l k'
  | [], k, k', _ => by simp [mdel, mget]
  | p :: l, k, k', h => by
    simp only [List.map_cons, List.nodup_cons] at h
    unfold mdel
    by_cases h1 : p.1 = k
    · rw [if_pos h1]
      by_cases h2 : k = k'
      · rw [if_pos h2]
        exact (mget_none l k').2 (by rw [← h2, ← h1]; exact h.1)
      · rw [if_neg h2]
        unfold mget
        rw [if_neg (fun e => h2 (h1.symm.trans e))]
        cases l <;> rfl
    · rw [if_neg h1]
      unfold mget
      rw [mget_mdel l k k' h.2]
      by_cases h2 : p.1 = k'
      · have : k ≠ k' := fun e => h1 (h2.trans e.symm)
        simp [h2, this]
      · simp [h2]
end plain

/-- What an entry holds. -/
def ekv (e : MapEntry) : Value × Value := (e.key, e.val)

/-- Keys of a kind that the model holds against each other at once. -/
structure PlainKey (P : Program) (kt : TypeId) {κ : Type} [DecidableEq κ] (K : κ → Value) where
  desc : TypeDesc
  ht : P.underlying kt = some desc
  same : ∀ a b, Instr.sameNow desc (K a) (K b) = some (decide (a = b))
  bits : ∀ a, Instr.sameBits 10000 (K a) (K a) = true
  check : ∀ e (a : κ) w, (Instr.checkKey e 10000 kt (K a)).run P w = .ok () w

def natKey (k : IntKind) (n : Nat) : Value := .int k n
def PlainKey.int {P : Program} {kt : TypeId} {k : IntKind} (h : P.underlying kt = some (.int k)) : PlainKey P kt (natKey k) where
  desc := .int k
  ht := h
  same a b := by
    simp only [Instr.sameNow, natKey, if_true]
    congr 1
    rw [Bool.eq_iff_iff]
    simp only [beq_iff_eq, decide_eq_true_eq]
    omega
  bits a := by simp [Instr.sameBits, natKey]
  check e a w := by
    show (Instr.checkKey e (9999 + 1) kt (natKey k a)).run P w = .ok () w
    unfold Instr.checkKey natKey
    simp only [Sem.run_bind, run_underlying h, Result.andThen]
    rfl

section
variable {P : Program} {κ α : Type} [DecidableEq κ] {K : κ → Value} {V : α → Value} {kt : TypeId}

theorem findNow_eq (H : PlainKey P kt K) (k : κ) : ∀ (es : List MapEntry) (m : List (κ × α)) (i : Nat), es.map ekv = m.map (fun p => (K p.1, V p.2)) →
    Instr.findNow H.desc (K k) es i = some ((midx m k i).map fun q => (q.1, V q.2))
  | [], [], i, _ => rfl
  | [], p :: m, i, h => by simp at h
  | e :: es, [], i, h => by simp at h
  | e :: es, p :: m, i, h => by
    simp only [List.map_cons, List.cons.injEq] at h
    obtain ⟨h1, h2⟩ := h
    simp only [ekv, Prod.mk.injEq] at h1
    unfold Instr.findNow midx
    rw [h1.1, H.same]
    by_cases hk : k = p.1
    · rw [decide_eq_true hk]
      simp [hk, h1.2]
    · rw [decide_eq_false hk]
      have hk' : ¬ p.1 = k := fun e => hk e.symm
      simp only [hk', if_false]
      exact findNow_eq H k es m (i + 1) h2

theorem run_findKey (H : PlainKey P kt K) (w : World) (k : κ) (es : List MapEntry) (m : List (κ × α)) (h : es.map ekv = m.map (fun p => (K p.1, V p.2))) :
    (Instr.findKey kt (K k) es).run P w = .ok ((midx m k 0).map fun q => (q.1, V q.2)) w := by
  unfold Instr.findKey
  simp only [Sem.run_bind, run_underlying H.ht, Result.andThen]
  rw [findNow_eq H k es m 0 h]
  rfl
end

/-- Block bm is a map that holds these pairs, in this order; it bears a tag. -/
def MapAt (w : World) (o : Own) (t : Tag) (bm : Nat) (kv : List (Value × Value)) : Prop :=
  ∃ es clk, At w o bm t (.map es clk) ∧ es.toList.map ekv = kv ∧ (∀ e ∈ es.toList, e.born < clk) ∧ (es.toList.map (·.born)).Nodup

section
variable {w w' : World} {o o' : Own} {t : Tag} {bm : Nat} {kv : List (Value × Value)} {L : List Tag}
theorem MapAt.chg (h : MapAt w o t bm kv) (hc : Chg L w o w' o') (hl : off L t) : MapAt w' o' t bm kv := by
  obtain ⟨es, clk, h1, h2⟩ := h
  exact ⟨es, clk, h1.chg hc hl, h2⟩
theorem MapAt.far (h : MapAt w o t bm kv) {p : Addr} (hp : o p.block ≠ t) (u : Value) : MapAt (w.setCell p u) o t bm kv := by
  obtain ⟨es, clk, h1, h2⟩ := h
  exact ⟨es, clk, h1.far (by rintro rfl; exact hp h1.2) u, h2⟩
theorem MapAt.tag_ (h : MapAt w o t bm kv) : o bm = t := by obtain ⟨_, _, h, _⟩ := h; exact h.2
theorem MapAt.lt (h : MapAt w o t bm kv) : bm < w.heap.size := by obtain ⟨_, _, h, _⟩ := h; exact h.lt
theorem MapAt.new (w : World) (o : Own) (t : Tag) : MapAt (w.alloc (.map #[] 0)) (o.upd w.heap.size t) t w.heap.size [] :=
  ⟨#[], 0, At.new _ _ _ _, rfl, by simp, by simp⟩
end

def setOb (w : World) (r : Nat) (o : Obj) : World := { w with heap := w.heap.setIfInBounds r o }
theorem setOb_heap (w : World) (r k : Nat) (ob : Obj) (h : k ≠ r) : (setOb w r ob).heap[k]? = w.heap[k]? := by
  simp only [setOb]
  rw [Array.getElem?_setIfInBounds_ne (Ne.symm h)]
theorem setOb_same (w : World) (r : Nat) (ob : Obj) (h : r < w.heap.size) : (setOb w r ob).heap[r]? = some ob := by
  simp [setOb, h]
end Go.Proofs.YthliihmhkhabeaaGreatDoor
/- Maps as plain lists of pairs, II: the operations themselves. No condition. -/
namespace Go.Proofs.YthliihmhkhabeaaGreatDoor
open Go Go.RowKit

section
variable {L : List Tag} {a b w : World} {o o' : Own} {k r : Nat} {t : Tag} {ob x : Obj}
theorem Chg.setOb (h : Chg L a o b o') (x : Obj) (hr : a.heap.size ≤ r ∨ ¬ off L (o r)) : Chg L a o (setOb b r x) o' :=
  ⟨h.os, h.tape, h.output, by have := h.size; simp [YthliihmhkhabeaaGreatDoor.setOb]; omega, fun k hk ho => by
    obtain ⟨h1, h2⟩ := h.keep k hk ho
    refine ⟨?_, h2⟩
    rw [setOb_heap _ _ _ _ (by rintro rfl; rcases hr with hr | hr; omega; exact hr ho)]
    exact h1⟩
theorem At.setOb (h : At w o k t ob) (hne : k ≠ r) (x : Obj) : At (setOb w r x) o k t ob := ⟨(setOb_heap w r k x hne).trans h.1, h.2⟩
theorem setOb_chg (w : World) (o : Own) (r : Nat) (x : Obj) : Chg [o r] w o (YthliihmhkhabeaaGreatDoor.setOb w r x) o := (Chg.refl _ _ _).setOb x (.inr (on_self _))
theorem setOb_cell (w : World) (r : Nat) (x : Obj) (p : Addr) (h : p.block ≠ r) : (YthliihmhkhabeaaGreatDoor.setOb w r x).cell? p = w.cell? p := by
  simp [World.cell?, setOb_heap w r _ x h]
theorem setOb_frozen (w : World) (r : Nat) (x : Obj) (p : Addr) (h : p.block ≠ r) : (YthliihmhkhabeaaGreatDoor.setOb w r x).frozen? p = w.frozen? p := by
  simp [World.frozen?, setOb_heap w r _ x h]
end

section
variable {P : Program} {κ α : Type} [DecidableEq κ] {K : κ → Value} {V : α → Value} {t kt et : TypeId} {w : World} {o : Own} {tg : Tag} {bm : Nat} {m : List (κ × α)}

theorem run_lookup (H : PlainKey P kt K) (ht : P.underlying t = some (.map kt et)) {z : Value} (hz : ∀ w, (zeroValue et).run P w = .ok z w) (h : MapAt w o tg bm (m.map fun p => (K p.1, V p.2))) (k : κ) (ok : Bool) :
    (Instr.lookup t (.map (some bm)) (K k) ok).run P w = .ok (if ok then .tuple #[((mget m k).map V).getD z, .bool (mget m k).isSome] else ((mget m k).map V).getD z) w := by
  obtain ⟨es, clk, hat, hkv, _⟩ := h
  have hf := run_findKey H w k es.toList m hkv
  have hc := fun e => H.check e k w
  rw [← midx_get m k 0]
  unfold Instr.lookup
  simp only [Sem.run_bind, run_underlying ht, Result.andThen, getObj, Sem.run, hat.1, Sem.run_pure]
  rw [hc]
  dsimp only
  rw [hf]
  dsimp only
  cases midx m k 0 with
  | none => cases ok <;> simp [hz, Result.andThen]
  | some q => cases ok <;> simp

theorem midx_at : ∀ (l : List (κ × α)) (k : κ) (i j : Nat) (v : α), midx l k i = some (j, v) → l[j - i]? = some (k, v) ∧ (∀ u, mset l k u = l.set (j - i) (k, u)) ∧ mdel l k = l.eraseIdx (j - i)
  | [], _, _, _, _, h => by simp [midx] at h
  | p :: l, k, i, j, v, h => by
    unfold midx at h
    split at h
    · rename_i hp
      injection h with h; injection h with h1 h2
      subst h1; subst h2; subst hp
      simp [mset, mdel]
    · rename_i hp
      have h1 := midx_lt l k (i + 1) j v h
      have ih := midx_at l k (i + 1) j v h
      obtain ⟨d, hd⟩ : ∃ d, j - i = d + 1 := ⟨j - i - 1, by omega⟩
      have hd2 : j - (i + 1) = d := by omega
      rw [hd2] at ih
      rw [hd]
      refine ⟨by simpa using ih.1, fun u => ?_, ?_⟩
      · unfold mset; rw [if_neg hp, ih.2.1 u]; simp
      · unfold mdel; rw [if_neg hp, ih.2.2]; simp
theorem midx_none : ∀ (l : List (κ × α)) (k : κ) (i : Nat), midx l k i = none → (∀ u, mset l k u = l ++ [(k, u)]) ∧ mdel l k = l
  | [], _, _, _ => by simp [mset, mdel]
  | p :: l, k, i, h => by
    unfold midx at h
    split at h
    · cases h
    · rename_i hp
      have ih := midx_none l k (i + 1) h
      exact ⟨fun u => by unfold mset; rw [if_neg hp, ih.1 u]; rfl, by unfold mdel; rw [if_neg hp, ih.2]⟩

theorem run_mapUpdate (H : PlainKey P kt K) (ht : P.underlying t = some (.map kt et)) (h : MapAt w o tg bm (m.map fun p => (K p.1, V p.2))) (k : κ) (v : α) :
    ∃ ob, (Instr.mapUpdate t (.map (some bm)) (K k) (V v)).run P w = .ok () (setOb w bm ob) ∧ MapAt (setOb w bm ob) o tg bm ((mset m k v).map fun p => (K p.1, V p.2)) := by
  obtain ⟨es, clk, hat, hkv, hb, hn⟩ := h
  have hf := run_findKey H w k es.toList m hkv
  have hc := fun e => H.check e k w
  have hlt := hat.lt
  unfold Instr.mapUpdate
  simp only [Sem.run_bind, run_underlying ht, Result.andThen, getObj, Sem.run, hat.1]
  rw [hc]
  dsimp only
  rw [hf]
  dsimp only
  cases hm : midx m k 0 with
  | none =>
    obtain ⟨h1, _⟩ := midx_none m k 0 hm
    refine ⟨.map (es.push { key := K k, val := V v, born := clk }) (clk + 1), ?_, _, _, ⟨setOb_same _ _ _ hlt, hat.2⟩, ?_, ?_, ?_⟩
    · simp [setObj, Sem.run, hat.1, setOb]
    · rw [h1 v]; simp [hkv, ekv]
    · intro e he
      simp at he
      rcases he with he | rfl
      · have := hb e (by simpa using he); omega
      · simp
    · simp only [Array.toList_push, List.map_append, List.map_cons, List.map_nil]
      rw [List.nodup_append]
      refine ⟨hn, by simp, ?_⟩
      intro x hx y hy
      simp at hy
      subst hy
      obtain ⟨e, he, rfl⟩ := List.mem_map.1 hx
      have := hb e he
      omega
  | some q =>
    obtain ⟨j, u⟩ := q
    obtain ⟨h1, h2, _⟩ := midx_at m k 0 j u hm
    simp only [Nat.sub_zero] at h1 h2
    have hlen : es.size = m.length := by have := congrArg List.length hkv; simpa using this
    have hj : j < es.size := by rw [hlen]; exact (List.getElem?_eq_some_iff.1 h1).1
    have hej : (es[j]'hj).key = K k := by
      have h4 : (es.toList.map ekv)[j]? = (m.map fun p => (K p.1, V p.2))[j]? := by rw [hkv]
      rw [List.getElem?_map, List.getElem?_map, h1] at h4
      simp [hj, ekv] at h4
      exact h4.1
    refine ⟨.map (es.modify j fun e => { e with key := K k, val := V v }) clk, ?_, _, _, ⟨setOb_same _ _ _ hlt, hat.2⟩, ?_, ?_, ?_⟩
    · simp [setObj, Sem.run, hat.1, setOb, Instr.keyThatStays, hj, hej, H.bits]
    · rw [h2 v, List.map_set, ← hkv]
      apply List.ext_getElem?
      intro i
      simp only [Array.toList_modify, List.getElem?_map, List.getElem?_modify, List.getElem?_set, List.length_map]
      by_cases hij : j = i
      · subst hij
        simp [hj, ekv]
      · simp [hij]
    · intro e he
      simp only [Array.toList_modify] at he
      obtain ⟨i, hi, rfl⟩ := List.mem_iff_getElem.1 he
      simp only [List.length_modify] at hi
      rw [List.getElem_modify]
      have h5 := hb (es.toList[i]'hi) (List.getElem_mem _)
      split
      · exact h5
      · exact h5
    · have : (es.modify j fun e => { e with key := K k, val := V v }).toList.map (·.born) = es.toList.map (·.born) := by
        apply List.ext_getElem?
        intro i
        simp only [Array.toList_modify, List.getElem?_map, List.getElem?_modify]
        by_cases hij : j = i
        · subst hij; simp [hj]
        · simp [hij]
      rw [this]; exact hn

theorem map_eraseIdx' {β γ : Type} (f : β → γ) : ∀ (l : List β) (i : Nat), (l.eraseIdx i).map f = (l.map f).eraseIdx i
  | [], _ => by simp
  | _ :: _, 0 => by simp
  | x :: l, i + 1 => by simp [map_eraseIdx' f l i]

theorem run_delete (H : PlainKey P kt K) (ht : P.underlying t = some (.map kt et)) (h : MapAt w o tg bm (m.map fun p => (K p.1, V p.2))) (k : κ) (ty : TypeId) (t2 : TypeId) :
    ∃ ob, (Builtin.delete_ #[t, t2] ty #[.map (some bm), K k]).run P w = .ok (.tuple #[]) (setOb w bm ob) ∧ MapAt (setOb w bm ob) o tg bm ((mdel m k).map fun p => (K p.1, V p.2)) := by
  obtain ⟨es, clk, hat, hkv, hb, hn⟩ := h
  have hf := run_findKey H w k es.toList m hkv
  have hc := fun e => H.check e k w
  have hlt := hat.lt
  unfold Builtin.delete_
  simp only [List.getElem?_toArray, List.getElem?_cons_zero, List.getElem?_cons_succ, Sem.run_bind, run_underlying ht, Result.andThen, getObj, Sem.run, hat.1]
  rw [hc]
  dsimp only
  rw [hf]
  dsimp only
  cases hm : midx m k 0 with
  | none =>
    obtain ⟨_, h1⟩ := midx_none m k 0 hm
    refine ⟨.map es clk, ?_, _, _, ⟨setOb_same _ _ _ hlt, hat.2⟩, by rw [h1]; exact hkv, hb, hn⟩
    simp [setObj, Sem.run, hat.1, setOb]
  | some q =>
    obtain ⟨j, u⟩ := q
    obtain ⟨_, _, h3⟩ := midx_at m k 0 j u hm
    simp only [Nat.sub_zero] at h3
    refine ⟨.map (es.eraseIdxIfInBounds j) clk, ?_, _, _, ⟨setOb_same _ _ _ hlt, hat.2⟩, ?_, ?_, ?_⟩
    · simp [setObj, Sem.run, hat.1, setOb]
    · rw [h3, map_eraseIdx', ← hkv, ← map_eraseIdx']
      simp
    · intro e he
      refine hb e ?_
      simp at he
      exact List.mem_of_mem_eraseIdx he
    · have : ((es.eraseIdxIfInBounds j).toList.map (·.born)).Sublist (es.toList.map (·.born)) := by
        simp
        exact (List.eraseIdx_sublist _ _).map _
      exact hn.sublist this

end
theorem run_len_map {P : Program} {κ α : Type} {K : κ → Value} {V : α → Value} {t kt et : TypeId} {w : World} {o : Own} {tg : Tag} {bm : Nat} {m : List (κ × α)} (ht : P.underlying t = some (.map kt et)) (h : MapAt w o tg bm (m.map fun p => (K p.1, V p.2))) (ty : TypeId) :
    (Builtin.len_ #[t] ty #[.map (some bm)]).run P w = .ok (.int .i64 m.length) w := by
  obtain ⟨es, clk, hat, hkv, _⟩ := h
  have hlen : es.size = m.length := by have := congrArg List.length hkv; simpa using this
  unfold Builtin.len_
  simp [run_underlying ht, getObj, Sem.run, hat.1, hlen, goInt]
end Go.Proofs.YthliihmhkhabeaaGreatDoor
/- Maps as plain lists of pairs, III: going through a map, in whatever order. No condition. -/
namespace Go.Proofs.YthliihmhkhabeaaGreatDoor
open Go Go.RowKit

/-- What a walk over a map has not come to yet. -/
def leftOf (es : List MapEntry) (seen : Array Nat) : List MapEntry := es.filter fun e => !seen.contains e.born

/-- Block it is a walk over map bm, which holds es at this clock; these entries are left; the last one that came has this stamp. -/
def Iter (w : World) (o : Own) (t : Tag) (it bm : Nat) (es : List MapEntry) (clk : Nat) (left : List MapEntry) (last : Option Nat) : Prop :=
  ∃ seen, At w o it t (.mapIter (some bm) clk seen clk) ∧ left = leftOf es seen ∧ seen.back? = last

section
variable {P : Program} {w w' : World} {o o' : Own} {t : Tag} {it bm clk : Nat} {es : List MapEntry} {left : List MapEntry} {last : Option Nat} {L : List Tag}
theorem Iter.chg (h : Iter w o t it bm es clk left last) (hc : Chg L w o w' o') (hl : off L t) : Iter w' o' t it bm es clk left last := by
  obtain ⟨seen, h1, h2⟩ := h
  exact ⟨seen, h1.chg hc hl, h2⟩

theorem run_range_map {tt kt et : TypeId} (ht : P.underlying tt = some (.map kt et)) {es : Array MapEntry} (hb : w.heap[bm]? = some (.map es clk)) :
    (Instr.range tt (.map (some bm))).run P w = .ok (.pointer (some ⟨w.heap.size, 0, none⟩)) (w.alloc (.mapIter (some bm) clk #[] clk)) := by
  unfold Instr.range
  simp only [Sem.run_bind, run_underlying ht, Result.andThen, getObj, Sem.run, hb, newObj]
  rfl

theorem Iter.start (w : World) (o : Own) (t : Tag) (bm clk : Nat) (es : List MapEntry) :
    Iter (w.alloc (.mapIter (some bm) clk #[] clk)) (o.upd w.heap.size t) t w.heap.size bm es clk es none :=
  ⟨#[], At.new _ _ _ _, by unfold leftOf; exact (List.filter_eq_self.2 (by simp)).symm, rfl⟩

theorem run_next_end (ty : TypeId) (h : Iter w o t it bm es clk left last) (hl : left = []) (hb : w.heap[bm]? = some (.map es.toArray clk)) (hlt : ∀ e ∈ es, e.born < clk) :
    (Instr.next (.pointer (some ⟨it, 0, none⟩)) false ty).run P w = .ok (.tuple #[.bool false]) w := by
  obtain ⟨seen, h1, h2, _⟩ := h
  have h3 : (es.toArray.filter fun e => !seen.contains e.born) = #[] := by
    rw [List.filter_toArray]
    show (leftOf es seen).toArray = #[]
    rw [← h2, hl]
  have h4 : (!seen.isEmpty && !es.toArray.isEmpty && es.toArray.all (fun e => decide (e.born ≥ clk))) = false := by
    cases es with
    | nil => simp
    | cons e es =>
      have : ¬ clk ≤ e.born := by have := hlt e (by simp); omega
      simp [this]
  unfold Instr.next
  simp only [Sem.run_bind, getObj, Sem.run, h1.1, Result.andThen, hb]
  simp only [h3, h4]
  simp [choose, Sem.run, Question.forced]

theorem run_next_more (ty : TypeId) (h : Iter w o t it bm es clk left last) (hl : left ≠ []) (hb : w.heap[bm]? = some (.map es.toArray clk)) (hlt : ∀ e ∈ es, e.born < clk) :
    ∃ e ∈ left, ∃ n x, (Instr.next (.pointer (some ⟨it, 0, none⟩)) false ty).run P w = .ok (.tuple #[.bool true, e.key, e.val]) (setOb (w.drewN n) it x) ∧
      Iter (setOb (w.drewN n) it x) o t it bm es clk (left.filter fun y => decide (y.born ≠ e.born)) (some e.born) := by
  obtain ⟨seen, h1, h2, _⟩ := h
  have h3 : (es.toArray.filter fun e => !seen.contains e.born) = left.toArray := by
    rw [List.filter_toArray, h2]
    rfl
  have hsub : ∀ e ∈ left, e ∈ es := fun e he => by rw [h2] at he; exact (List.mem_filter.1 he).1
  have h4 : (!seen.isEmpty && !es.toArray.isEmpty && es.toArray.all (fun e => decide (e.born ≥ clk))) = false := by
    cases es with
    | nil => simp
    | cons e es =>
      have : ¬ clk ≤ e.born := by have := hlt e (by simp); omega
      simp [this]
  have h5 : left.toArray.filter (fun e => decide (e.born < clk)) = left.toArray := by
    rw [List.filter_toArray]
    congr 1
    exact List.filter_eq_self.2 fun e he => by simpa using hlt e (hsub e he)
  have h6 : left.toArray.filter (fun e => decide (e.born ≥ clk)) = #[] := by
    rw [List.filter_toArray]
    congr 1
    exact List.filter_eq_nil_iff.2 fun e he => by have := hlt e (hsub e he); simp; omega
  have h7 : left.toArray.isEmpty = false := by
    cases left with
    | nil => exact absurd rfl hl
    | cons x l => rfl
  have hlen : 0 < left.length := List.length_pos_iff.2 hl
  have hitb : it < w.heap.size := h1.lt
  have pick : ∀ (bo n : Nat), Iter (setOb (w.drewN n) it (.mapIter (some bm) clk (seen.push bo) clk)) o t it bm es clk (left.filter fun y => decide (y.born ≠ bo)) (some bo) := by
    intro bo n
    refine ⟨seen.push bo, ⟨setOb_same _ _ _ hitb, h1.2⟩, ?_, by simp⟩
    rw [h2]
    unfold leftOf
    rw [List.filter_filter]
    congr 1
    funext y
    simp only [Array.contains_push, Bool.not_or, ne_eq]
    rw [Bool.and_comm, Bool.eq_iff_iff]
    simp
  by_cases h1f : left.length ≤ 1
  · refine ⟨left[0], List.getElem_mem _, 0, .mapIter (some bm) clk (seen.push left[0].born) clk, ?_, pick _ 0⟩
    unfold Instr.next
    simp only [Sem.run_bind, getObj, Sem.run, h1.1, Result.andThen, hb]
    simp only [h3, h4, h5, h6, h7]
    simp [choose, Sem.run, Question.forced, h1f, hlen, setObj, h1.1, setOb, World.drewN]
  · have hm : ∀ x, x % left.length < left.length := fun x => Nat.mod_lt _ hlen
    have hf : Question.forced (.mapNext left.length) = false := by simp [Question.forced]; omega
    refine ⟨left[(Question.mapNext left.length).cut (w.tape w.drawn (.mapNext left.length))]'(hm _), List.getElem_mem _, 1, .mapIter (some bm) clk (seen.push (left[(Question.mapNext left.length).cut (w.tape w.drawn (.mapNext left.length))]'(hm _)).born) clk, ?_, pick _ 1⟩
    have hm' : (Question.mapNext left.length).cut (w.tape w.drawn (.mapNext left.length)) < left.length := hm _
    unfold Instr.next
    simp only [Sem.run_bind, getObj, Sem.run, h1.1, Result.andThen, hb]
    simp only [h3, h4, h5, h6, h7]
    simp only [choose, Sem.run, Sem.run_bind, Result.andThen, Bool.false_eq_true, if_false, Array.empty_append, Array.append_empty, Array.size_map, List.size_toArray, hf]
    have h1d : w.drew.heap[it]? = some (.mapIter (some bm) clk seen clk) := h1.1
    simp [hm', setObj, Sem.run, h1d, setOb, World.drewN]
    exact ⟨⟨rfl, rfl⟩, rfl⟩

theorem run_entry (h : Iter w o t it bm es clk left last) {e : MapEntry} (he : e ∈ es) (hl : last = some e.born) (hb : w.heap[bm]? = some (.map es.toArray clk)) (hn : (es.map (·.born)).Nodup) :
    (Instr.entry (.pointer (some ⟨it, 0, none⟩))).run P w = .ok (.tuple #[e.key, e.val]) w := by
  obtain ⟨seen, h1, _, h3⟩ := h
  subst hl
  have hfind : es.find? (fun x => x.born == e.born) = some e := by
    have : ∀ (l : List MapEntry), (l.map (·.born)).Nodup → e ∈ l → l.find? (fun x => x.born == e.born) = some e := by
      intro l
      induction l with
      | nil => intro _ h; cases h
      | cons x l ih =>
        intro hn he
        simp only [List.map_cons, List.nodup_cons] at hn
        rw [List.find?_cons]
        rcases List.mem_cons.1 he with rfl | he
        · simp
        · have hne : (x.born == e.born) = false := by
            rw [beq_eq_false_iff_ne]
            intro h
            exact hn.1 (by rw [h]; exact List.mem_map.2 ⟨e, he, rfl⟩)
          rw [hne]
          exact ih hn.2 he
    exact this es hn he
  unfold Instr.entry
  simp only [Sem.run_bind, getObj, Sem.run, h1.1, Result.andThen, h3, hb]
  simp [hfind]

/-- One less is left. -/
theorem left_perm {left : List MapEntry} (hn : (left.map (·.born)).Nodup) {e : MapEntry} (he : e ∈ left) : left.Perm (e :: left.filter fun y => decide (y.born ≠ e.born)) := by
  induction left with
  | nil => cases he
  | cons x l ih =>
    simp only [List.map_cons, List.nodup_cons] at hn
    rcases List.mem_cons.1 he with rfl | he
    · have h1 : l.filter (fun y => decide (y.born ≠ e.born)) = l := List.filter_eq_self.2 fun y hy => by
        simp only [ne_eq, decide_eq_true_eq]
        intro h
        exact hn.1 (by rw [← h]; exact List.mem_map.2 ⟨y, hy, rfl⟩)
      rw [List.filter_cons]
      simp only [ne_eq, not_true_eq_false, decide_false, Bool.false_eq_true, if_false]
      simp only [ne_eq] at h1
      rw [h1]
    · have hne : x.born ≠ e.born := fun h => hn.1 (by rw [h]; exact List.mem_map.2 ⟨e, he, rfl⟩)
      rw [List.filter_cons]
      simp only [ne_eq, hne, not_false_eq_true, decide_true, if_true]
      exact ((ih hn.2 he).cons x).trans (List.Perm.swap _ _ _)
end

section
variable {P : Program} {ops : Array Oper} {Q : Exit → Act → World → Prop} {a : Act} {w : World} {rest : List Oper} {o : Oper}
theorem wpList_next (hg : o.guard = none) (x : Operand) (hop : o.op = .next x false) (xv : Value) (hx : a.eval x = xv) (v : Value) (w' : World) (hrun : (Instr.next xv false o.type).run P w = .ok v w')
    (h : wpList P ops Q rest (a.put o.dst v) w') : wpList P ops Q (o :: rest) a w := by
  refine wpList_plain hg fun K hK => ?_
  unfold Oper.wp execOp
  simp only [hop, hx, Sem.run_bind, hrun, Result.andThen]
  exact hK _ _ h
theorem wpList_entry (hg : o.guard = none) (x : Operand) (hop : o.op = .entry x) (xv : Value) (hx : a.eval x = xv) (v : Value) (w' : World) (hrun : (Instr.entry xv).run P w = .ok v w')
    (h : wpList P ops Q rest (a.put o.dst v) w') : wpList P ops Q (o :: rest) a w := by
  refine wpList_plain hg fun K hK => ?_
  unfold Oper.wp execOp
  simp only [hop, hx, Sem.run_bind, hrun, Result.andThen]
  exact hK _ _ h
theorem wpList_range (hg : o.guard = none) (tt : TypeId) (x : Operand) (hop : o.op = .range tt x) (xv : Value) (hx : a.eval x = xv) (v : Value) (w' : World) (hrun : (Instr.range tt xv).run P w = .ok v w')
    (h : wpList P ops Q rest (a.put o.dst v) w') : wpList P ops Q (o :: rest) a w := by
  refine wpList_plain hg fun K hK => ?_
  unfold Oper.wp execOp
  simp only [hop, hx, Sem.run_bind, hrun, Result.andThen]
  exact hK _ _ h
theorem wpList_look (hg : o.guard = none) (tt : TypeId) (x y : Operand) (ok : Bool) (hop : o.op = .lookup tt x y ok) (xv yv : Value) (hx : a.eval x = xv) (hy : a.eval y = yv) (v : Value) (hrun : (Instr.lookup tt xv yv ok).run P w = .ok v w)
    (h : wpList P ops Q rest (a.put o.dst v) w) : wpList P ops Q (o :: rest) a w := by
  refine wpList_plain hg fun K hK => ?_
  unfold Oper.wp execOp
  simp only [hop, hx, hy, Sem.run_bind, hrun, Result.andThen]
  exact hK _ _ h
theorem wpList_mupd (hg : o.guard = none) (tt : TypeId) (x y z : Operand) (hop : o.op = .mapUpdate tt x y z) (xv yv zv : Value) (hx : a.eval x = xv) (hy : a.eval y = yv) (hz : a.eval z = zv) (w' : World) (hrun : (Instr.mapUpdate tt xv yv zv).run P w = .ok () w')
    (h : wpList P ops Q rest (a.put o.dst undef) w') : wpList P ops Q (o :: rest) a w := by
  refine wpList_plain hg fun K hK => ?_
  unfold Oper.wp execOp
  simp only [hop, hx, hy, hz, Sem.run_bind, hrun, Result.andThen]
  exact hK _ _ h
end
end Go.Proofs.YthliihmhkhabeaaGreatDoor
