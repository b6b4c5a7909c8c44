/- Maps, VI: keys that are ints of either sign; a literal's entries. No condition. -/
import Derived.Test.YthliihmhkhabeaaGreatDoorIds14
namespace Go.Proofs.YthliihmhkhabeaaGreatDoor
open Go Go.RowKit

def intKey (k : IntKind) (n : Int) : Value := .int k n
def PlainKey.int' {P : Program} {kt : TypeId} {k : IntKind} (h : P.underlying kt = some (.int k)) : PlainKey P kt (intKey k) where
  desc := .int k
  ht := h
  same a b := by
    simp only [Instr.sameNow, intKey, if_true]
    congr 1
  bits a := by simp [Instr.sameBits, intKey]
  check e a w := by
    show (Instr.checkKey e (9999 + 1) kt (intKey k a)).run P w = .ok () w
    unfold Instr.checkKey intKey
    simp only [Sem.run_bind, run_underlying h, Result.andThen]
    rfl

section
variable {P : Program} {ops : Array Oper} {Q : Exit → Act → World → Prop} {a : Act} {w : World} {rest : List Oper} {o : Oper}
/-- An entry of a map's literal. -/
theorem wpList_minsert (hg : o.guard = none) (tt : TypeId) (x y z : Operand) (hop : o.op = .insert tt x y z) (xv yv zv : Value) (hx : a.eval x = xv) (hy : a.eval y = yv) (hz : a.eval z = zv) (w' : World) (hrun : (Instr.mapUpdate tt xv yv zv).run P w = .ok () w')
    (h : wpList P ops Q rest (a.put o.dst undef) w') : wpList P ops Q (o :: rest) a w := by
  refine wpList_plain hg fun K hK => ?_
  unfold Oper.wp execOp
  simp only [hop, hx, hy, hz, Sem.run_bind, hrun, Result.andThen]
  exact hK _ _ h

variable {α : Type} {V : α → Value} {kt et : TypeId} {ow : Own} {tg : Tag} {bm : Nat} {m : List (Int × α)}
/-- An entry is put behind those that there are. -/
theorem wpList_lit (hg : o.guard = none) (tt : TypeId) (x y z : Operand) (hop : o.op = .insert tt x y z) (hx : a.eval x = .map (some bm)) (k : Int) (kk : IntKind) (hy : a.eval y = .int kk k) (v : α) (hz : a.eval z = V v)
    (hk : P.underlying kt = some (.int kk)) (ht : P.underlying tt = some (.map kt et)) (hm : MapAt w ow tg bm (m.map fun p => (intKey kk p.1, V p.2)))
    (h : ∀ w', MapAt w' ow tg bm ((mset m k v).map fun p => (intKey kk p.1, V p.2)) → Chg [tg] w ow w' ow → wpList P ops Q rest (a.put o.dst undef) w') : wpList P ops Q (o :: rest) a w := by
  obtain ⟨ob, h1, h2⟩ := run_mapUpdate (P := P) (V := V) (PlainKey.int' hk) ht hm k v
  refine wpList_minsert hg tt x y z hop _ _ _ hx hy hz _ h1 (h _ h2 ?_)
  exact (Chg.refl [tg] w ow).setOb ob (.inr (by rw [hm.tag_]; exact on_self _))
end
end Go.Proofs.YthliihmhkhabeaaGreatDoor
