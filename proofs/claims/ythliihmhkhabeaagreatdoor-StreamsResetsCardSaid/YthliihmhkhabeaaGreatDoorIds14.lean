/- Maps as plain lists of pairs, IV: an entry asked for, then stored into (an assignment to several places at once). No condition. -/
import Derived.Test.YthliihmhkhabeaaGreatDoorIds07
namespace Go.Proofs.YthliihmhkhabeaaGreatDoor
open Go Go.RowKit

section
variable {P : Program} {κ α : Type} [DecidableEq κ] {K : κ → Value} {V : α → Value} {t kt et : TypeId} {w : World} {o : Own} {tg : Tag} {bm : Nat} {m : List (κ × α)}

theorem mset_mset : ∀ (l : List (κ × α)) (k : κ) (u v : α), mset (mset l k u) k v = mset l k v
  | [], k, u, v => by simp [mset]
  | p :: l, k, u, v => by
    have ih := mset_mset l k u v
    by_cases h : p.1 = k
    · simp [mset, h]
    · simp [mset, h, ih]

/-- The entry stored into. -/
theorem run_entryStore {es : Array MapEntry} {clk : Nat} {m1 : List (κ × α)} {k : κ} {u1 : α} {i : Nat} (hkv : es.toList.map ekv = m1.map fun p => (K p.1, V p.2)) (hb : ∀ e ∈ es.toList, e.born < clk) (hn : (es.toList.map (·.born)).Nodup)
    (hi : i < es.size) (hm : midx m1 k 0 = some (i, u1)) {w2 : World} (hw : w2.heap[bm]? = some (.map es clk)) (v : α) :
    ∃ ob2, (Instr.entryStore t (.map (some bm)) (.int .i64 (es[i]'hi).born) (V v)).run P w2 = .ok () (setOb w2 bm ob2) ∧ (∀ o' : Own, o' bm = tg → MapAt (setOb w2 bm ob2) o' tg bm ((mset m1 k v).map fun p => (K p.1, V p.2))) := by
  obtain ⟨h1, h2, _⟩ := midx_at m1 k 0 i u1 hm
  simp only [Nat.sub_zero] at h1 h2
  have hlt : bm < w2.heap.size := (Array.getElem?_eq_some_iff.1 hw).1
  have hfi : es.findIdx? (fun e => (e.born : Int) == ((es[i]'hi).born : Int)) = some i := by
    rw [Array.findIdx?_eq_some_iff_getElem]
    refine ⟨hi, by simp, fun j hj => ?_⟩
    have hne : (es[j]'(by omega)).born ≠ (es[i]'hi).born := by
      intro e
      have hj' : j < (es.toList.map (·.born)).length := by simp; omega
      have hi' : i < (es.toList.map (·.born)).length := by simp; omega
      have := (List.getElem_inj (h₀ := hj') (h₁ := hi') hn).1 (by simpa using e)
      omega
    simp; omega
  refine ⟨.map (es.modify i fun e => { e with val := V v }) clk, ?_, fun o' ho => ⟨_, _, ⟨setOb_same _ _ _ hlt, ho⟩, ?_, ?_, ?_⟩⟩
  · unfold Instr.entryStore
    simp [Sem.run_bind, getObj, Sem.run, hw, Result.andThen, asInt, asIntOf, hfi, setObj, setOb]
  · rw [h2 v, List.map_set, ← hkv]
    have hej : (es[i]'hi).key = K k := by
      have h4 : (es.toList.map ekv)[i]? = (m1.map fun p => (K p.1, V p.2))[i]? := by rw [hkv]
      rw [List.getElem?_map, List.getElem?_map, h1] at h4
      simp [hi, ekv] at h4
      exact h4.1
    apply List.ext_getElem?
    intro j
    simp only [Array.toList_modify, List.getElem?_map, List.getElem?_modify, List.getElem?_set, List.length_map]
    by_cases hij : i = j
    · subst hij
      simp [hi, ekv, hej]
    · simp [hij]
  · intro e he
    simp only [Array.toList_modify] at he
    obtain ⟨j, hj, rfl⟩ := List.mem_iff_getElem.1 he
    simp only [List.length_modify] at hj
    rw [List.getElem_modify]
    have h5 := hb (es.toList[j]'hj) (List.getElem_mem _)
    split
    · exact h5
    · exact h5
  · have : (es.modify i fun e => { e with val := V v }).toList.map (·.born) = es.toList.map (·.born) := by
      apply List.ext_getElem?
      intro j
      simp only [Array.toList_modify, List.getElem?_map, List.getElem?_modify]
      by_cases hij : i = j
      · subst hij; simp [hi]
      · simp [hij]
    rw [this]; exact hn

theorem midx_mset : ∀ (l : List (κ × α)) (k : κ) (u : α) (i : Nat), ∃ j, midx (mset l k u) k i = some (j, u) ∧ (midx l k i = none → j = i + l.length)
  | [], k, u, i => ⟨i, by simp [mset, midx], fun _ => rfl⟩
  | p :: l, k, u, i => by
    by_cases h : p.1 = k
    · exact ⟨i, by simp [mset, midx, h], fun hh => by simp [midx, h] at hh⟩
    · obtain ⟨j, h1, h2⟩ := midx_mset l k u (i + 1)
      refine ⟨j, by simp only [mset, h, if_false, midx]; exact h1, fun hh => ?_⟩
      simp only [midx, h, if_false] at hh
      have := h2 hh
      simp only [List.length_cons]
      omega

/-- m[k] asked for, to be stored into. -/
theorem run_mapEntry (H : PlainKey P kt K) (ht : P.underlying t = some (.map kt et)) (z0 : α) (hz : ∀ w, (zeroValue et).run P w = .ok (V z0) w) (h : MapAt w o tg bm (m.map fun p => (K p.1, V p.2))) (k : κ) (v : α) :
    ∃ ob1 v1 stamp, (Instr.mapEntry t (.map (some bm)) (K k)).run P w = .ok (.tuple #[v1, .int .i64 stamp]) (setOb w bm ob1) ∧
      ∃ ob2, (Instr.entryStore t (.map (some bm)) (.int .i64 stamp) (V v)).run P (setOb w bm ob1) = .ok () (setOb (setOb w bm ob1) bm ob2) ∧ MapAt (setOb (setOb w bm ob1) bm ob2) o tg bm ((mset m k v).map fun p => (K p.1, V p.2)) := by
  obtain ⟨es, clk, hat, hkv, hb, hn⟩ := h
  have hf := run_findKey H w k es.toList m hkv
  have hc := fun e => H.check e k w
  have hlt := hat.lt
  have hlen : es.size = m.length := by have := congrArg List.length hkv; simpa using this
  cases hm : midx m k 0 with
  | none =>
    rw [hm] at hf
    obtain ⟨j, hj1, hj2⟩ := midx_mset m k z0 0
    obtain ⟨h1, _⟩ := midx_none m k 0 hm
    have hjl : j = es.size := by rw [hj2 hm, hlen]; omega
    have hkv2 : (es.push { key := K k, val := V z0, born := clk }).toList.map ekv = (mset m k z0).map fun p => (K p.1, V p.2) := by rw [h1 z0]; simp [hkv, ekv]
    have hb2 : ∀ e ∈ (es.push { key := K k, val := V z0, born := clk }).toList, e.born < clk + 1 := by
      intro e he
      simp at he
      rcases he with he | rfl
      · have := hb e (by simpa using he); omega
      · simp
    have hn2 : ((es.push { key := K k, val := V z0, born := clk }).toList.map (·.born)).Nodup := by
      simp only [Array.toList_push, List.map_append, List.map_cons, List.map_nil]
      rw [List.nodup_append]
      refine ⟨hn, by simp, ?_⟩
      intro x hx y hy
      simp at hy
      subst hy
      obtain ⟨e, he, rfl⟩ := List.mem_map.1 hx
      have := hb e he
      omega
    obtain ⟨ob2, hr2, hm2⟩ := run_entryStore (P := P) (t := t) (tg := tg) hkv2 hb2 hn2 (i := j) (by rw [hjl]; simp) hj1 (w2 := setOb w bm (.map (es.push { key := K k, val := V z0, born := clk }) (clk + 1))) (setOb_same _ _ _ hlt) v
    rw [mset_mset] at hm2
    refine ⟨_, V z0, _, ?_, ob2, hr2, hm2 o hat.2⟩
    unfold Instr.mapEntry
    simp only [Sem.run_bind, run_underlying ht, Result.andThen, getObj, Sem.run, hat.1]
    rw [hc]
    dsimp only
    rw [hf]
    dsimp only
    subst hjl
    simp [setObj, Sem.run, hat.1, setOb, hz, goInt]
  | some q =>
    obtain ⟨i, u⟩ := q
    rw [hm] at hf
    obtain ⟨h1, h2, _⟩ := midx_at m k 0 i u hm
    simp only [Nat.sub_zero] at h1 h2
    have hi : i < es.size := by rw [hlen]; exact (List.getElem?_eq_some_iff.1 h1).1
    have hej : (es[i]'hi).key = K k := by
      have h4 : (es.toList.map ekv)[i]? = (m.map fun p => (K p.1, V p.2))[i]? := by rw [hkv]
      rw [List.getElem?_map, List.getElem?_map, h1] at h4
      simp [hi, ekv] at h4
      exact h4.1
    have hes : (es.modify i fun e => { e with key := K k }) = es := by
      apply Array.ext_getElem?
      intro j
      rw [Array.getElem?_modify]
      by_cases hij : i = j
      · subst hij
        simp [hi, ← hej]
      · simp [hij]
    obtain ⟨ob2, hr2, hm2⟩ := run_entryStore (P := P) (t := t) (tg := tg) hkv hb hn hi hm (w2 := setOb w bm (.map es clk)) (setOb_same _ _ _ hlt) v
    refine ⟨_, V u, _, ?_, ob2, hr2, hm2 o hat.2⟩
    unfold Instr.mapEntry
    simp only [Sem.run_bind, run_underlying ht, Result.andThen, getObj, Sem.run, hat.1]
    rw [hc]
    dsimp only
    rw [hf]
    dsimp only
    have hsb := H.bits k
    simp [setObj, Sem.run, hat.1, setOb, Instr.keyThatStays, hi, hej, hsb, Result.andThen, goInt, hes]
end

section
variable {P : Program} {ops : Array Oper} {Q : Exit → Act → World → Prop} {a : Act} {w : World} {rest : List Oper} {o : Oper}
theorem wpList_mentry (hg : o.guard = none) (tt : TypeId) (x y : Operand) (hop : o.op = .mapEntry tt x y) (xv yv : Value) (hx : a.eval x = xv) (hy : a.eval y = yv) (v : Value) (w' : World) (hrun : (Instr.mapEntry tt xv yv).run P w = .ok v w')
    (h : wpList P ops Q rest (a.put o.dst v) w') : wpList P ops Q (o :: rest) a w := by
  refine wpList_plain hg fun K hK => ?_
  unfold Oper.wp execOp
  simp only [hop, hx, hy, Sem.run_bind, hrun, Result.andThen]
  exact hK _ _ h
theorem wpList_estore (hg : o.guard = none) (tt : TypeId) (x y z : Operand) (hop : o.op = .entryStore tt x y z) (xv yv zv : Value) (hx : a.eval x = xv) (hy : a.eval y = yv) (hz : a.eval z = zv) (w' : World) (hrun : (Instr.entryStore tt xv yv zv).run P w = .ok () w')
    (h : wpList P ops Q rest (a.put o.dst undef) w') : wpList P ops Q (o :: rest) a w := by
  refine wpList_plain hg fun K hK => ?_
  unfold Oper.wp execOp
  simp only [hop, hx, hy, hz, Sem.run_bind, hrun, Result.andThen]
  exact hK _ _ h
end
end Go.Proofs.YthliihmhkhabeaaGreatDoor
