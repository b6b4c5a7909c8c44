/- What package outflow's functions do to a buffer that is held behind a pointer: each comes to the plain function of the same name. Conditions: the buffer is as its functions leave it (Out.Wf). -/
import Derived.Test.YthliihmhkhabeaaGreatDoorIds01
import Derived.Test.YthliihmhkhabeaaGreatDoorProg
namespace Go.Proofs.YthliihmhkhabeaaGreatDoor
open Go Go.RowKit

def bv (n : Nat) : Value := .int .u8 n
theorem bv_one (xs : List Nat) : ∀ u ∈ xs.map bv, u.oneCell' = true := by
  intro u hu
  obtain ⟨x, _, rfl⟩ := List.mem_map.1 hu
  rfl

theorem Tryz.infoU8 : (Tryz.prog.info? 5).map (fun i => (i.zero, i.size, i.bytes)) = some (some (.int .u8 0), 1, 1) := by kernel_rfl
theorem infoU8' : ∃ i : TypeInfo, Tryz.prog.info? 5 = some i ∧ i.zero = some (.int .u8 0) ∧ i.size = 1 ∧ i.bytes = 1 := by
  have h := Tryz.infoU8
  cases hi : Tryz.prog.info? 5 with
  | none => rw [hi] at h; cases h
  | some i => rw [hi] at h; simp at h; exact ⟨i, rfl, h.1, h.2.1, h.2.2⟩

/-- append of bytes onto a row of bytes. -/
theorem append_bytes (w : World) (ty : TypeId) {o : Own} {t s : Tag} {v v2 : Value} {xs ys : List Nat} (hr : Row w o t 5 v (xs.map bv)) (hy : Sl w o s v2 (ys.map bv)) (hb : xs.length + ys.length ≤ 1000000000000) :
    ∃ v' w' o', (Builtin.append_ #[42, 42] ty #[v, v2]).run Tryz.prog w = .ok v' w' ∧ Row w' o' t 5 v' ((xs ++ ys).map bv) ∧ w.grownBy w' v.ownBlock ∧ Chg [t] w o w' o' ∧ (∀ k, k < w.heap.size → o' k = o k) := by
  obtain ⟨i, hi, hz, hs, hby⟩ := infoU8'
  rw [List.map_append]
  exact run_append_row w ty 42 5 i _ Tryz.underlying42 hi hz hs (by omega) rfl hr hy (bv_one ys) (by simpa using hb)

theorem step_append_run {P : Program} {ops : Array Oper} {o : Oper} {a : Act} {w : World} {K : Act → World → Prop} {Q : Exit → Act → World → Prop} {E : Prop}
    (hg : o.guard = none) (s x : Operand) (t tn : TypeId) (hop : o.op = Op.call { callee := Callee.builtin Builtin.append, args := #[s, x], argTypes := #[t, tn] })
    (vs vx : Value) (hs : a.eval s = vs) (hx : a.eval x = vx) (v' : Value) (w' : World) (hr : (Builtin.append_ #[t, tn] o.type #[vs, vx]).run P w = .ok v' w')
    (hK : K (a.put o.dst v') w') : if Region.wanted o (yielded ops a.tmps) = true then Oper.wp P o a w K Q else E := by
  have hw : Region.wanted o (yielded ops a.tmps) = true := by simp [Region.wanted, hg]
  rw [if_pos hw]
  unfold Oper.wp
  simp [execOp, hop, resolve, invoke, builtin, hs, hx, hr, Result.andThen]
  exact hK

def idxI (xs : List Nat) (c : Nat) : Int := if c ∈ xs then (xs.idxOf c : Int) else -1
theorem indexByte_eq : ∀ (xs : List Nat) (c : Nat), (∀ x ∈ xs, x < 256) → c < 256 → Lib.indexByte (Lib.bytesOf (xs.map fun x : Nat => (x : Int))) (((c : Int)).toNat.toUInt8) = idxI xs c
  | [], c, _, _ => by simp [Lib.bytesOf, Lib.indexByte, idxI]
  | x :: xs, c, h, hc => by
    have ih := indexByte_eq xs c (fun y hy => h y (by simp [hy])) hc
    have hx : x < 256 := h x (by simp)
    have e : (UInt8.ofNat x == c.toUInt8) = decide (x = c) := by
      rw [Bool.eq_iff_iff]
      simp only [beq_iff_eq, decide_eq_true_eq]
      constructor
      · intro hh
        have := congrArg UInt8.toNat hh
        simp [Nat.toUInt8] at this
        omega
      · rintro rfl; rfl
    simp only [Lib.bytesOf, List.map_cons, Lib.indexByte] at ih ⊢
    simp only [Int.toNat_natCast] at ih ⊢
    rw [ih, e]
    unfold idxI
    by_cases hxc : x = c
    · subst hxc; simp
    · by_cases hm : c ∈ xs
      · have : c ≠ x := fun h => hxc h.symm
        simp [hm, List.idxOf_cons, beq_eq_false_iff_ne.2 hxc, hxc]
      · have : c ≠ x := fun h => hxc h.symm
        simp [hxc, hm, this]

set_option maxHeartbeats 400000 in
set_option maxRecDepth 100000 in
theorem IndexByte_ok {w : World} {o : Own} {s : Tag} {v : Value} {xs : List Nat} (c : Nat) (ci : Int) (hci : ci = c) (hx : ∀ x ∈ xs, x < 256) (hc : c < 256) (h : Sl w o s v (xs.map bv)) :
    Calls Tryz.prog 143 #[v, .int .u8 ci] w fun e w' => e = .returned (.int .i64 (idxI xs c)) ∧ w = w' := by
  subst hci
  have he := indexByte_eq xs c hx hc
  obtain ⟨A, cp, rfl, h1, h2, _, h3⟩ := h
  have hrun : (Extern.BytealgIndexByte.indexByte #[.slice A (xs.map bv).length cp, .int .u8 c]).run Tryz.prog w = .ok (.int .i64 (idxI xs c)) w := by
    by_cases h0 : 0 < (xs.map bv).length
    · obtain ⟨b, f, rfl, _, hcell⟩ := h3 h0
      rw [← he]
      exact Lib.run_indexByteSlice w b f _ cp (xs.map fun x : Nat => (x : Int)) (by simp) (fun i hi => by rw [hcell i hi]; simp at hi; simp [bv, hi]) c
    · have : xs = [] := List.eq_nil_of_length_eq_zero (by simpa using h0)
      subst this
      cases A with
      | none => exact Lib.run_indexByteNil w 0 cp c
      | some ad => exact Lib.run_indexByteNil w 0 cp c
  generalize (Value.slice A (xs.map bv).length cp) = v at hrun ⊢
  clear he h3
  go_enter Tryz.func143, Tryz.ntmps143
  go_wp2
  rw [run_callFunc_extern Tryz.func173 (by kernel_rfl) (by kernel_rfl) (by kernel_rfl) (e := Extern.BytealgIndexByte.indexByte) (by kernel_rfl), hrun]
  simp only [Result.andThen]
  rw [Oper.upon_value]
  go_wp2
  go_ret
  exact ⟨rfl, rfl⟩

@[go_sem] theorem eql_nil_bytes (w : World) (a : Option Addr) (l c : Nat) : (binOp .eql 42 (.slice a l c) (.slice none 0 0)).run Tryz.prog w = .ok (.bool a.isNone) w := by
  apply Lib.run_eql_slice_nil
  exact Tryz.underlying42

set_option maxRecDepth 100000 in
/-- slices.Clone of bytes: new memory. -/
theorem CloneB_ok {w : World} {o : Own} {s : Tag} {v : Value} {xs : List Nat} (h : Sl w o s v (xs.map bv)) (hl : xs.length ≤ 100000000) (t : Tag) :
    Calls Tryz.prog 145 #[v] w fun e w' => ∃ v' o', e = .returned v' ∧ Chg [] w o w' o' ∧ Row w' o' t 5 v' (xs.map bv) := by
  obtain ⟨A, cp, rfl, h1, h2, hz, h3⟩ := id h
  cases A with
  | none =>
    have hxs : xs = [] := by
      cases xs with
      | nil => rfl
      | cons x xs => obtain ⟨b, f, hh, _⟩ := h3 (by simp); cases hh
    subst hxs
    obtain rfl := hz rfl
    clear h h3 hz
    go_enter Tryz.func145, Tryz.ntmps145
    go_wp2
    go_ret
    exact ⟨_, o, rfl, Chg.refl _ _ _, Row.nil _ _ _ _⟩
  | some ad =>
    have hr0 : Row (w.alloc (.cells #[] 5)) (o.upd w.heap.size t) t 5 (.slice (some ⟨w.heap.size, 0, none⟩) 0 0) (([] : List Nat).map bv) :=
      Row.of_form rfl (At.new _ _ _ _) (by simp) (by simp) rfl (by simp)
    obtain ⟨v', w1, o1, hrun, hrow, hg, hch, hold⟩ := append_bytes (w.alloc (.cells #[] 5)) 42 (o := o.upd w.heap.size t) hr0 (h.chg (((Chg.refl [] w o).alloc _).tag (Nat.le_refl _) t) (off_nil _)) (by simp; omega)
    clear h h3 hr0 hz
    go_enter Tryz.func145, Tryz.ntmps145
    go_wp2_with (at_builtin; refine Lib.wpList_append_run _ rfl _ _ _ _ rfl _ _ rfl rfl _ _ hrun ?_)
    go_ret
    exact ⟨_, o1, rfl, (((Chg.refl [] w o).alloc _).tag (Nat.le_refl _) t).grown' hg hold (fun k hk => .inl (by simp [Value.ownBlock] at hk; omega)), hrow⟩

structure Out where
  b : List Nat
  s : List Nat
  fin : Bool
  en : Nat
  limit : Nat
  deriving DecidableEq

structure Out.Wf (O : Out) : Prop where
  len : O.b.length = O.s.length
  most : O.b.length ≤ 2000
  st : ∀ x ∈ O.s, x < 4
  en4 : O.en < 4
  by_ : ∀ x ∈ O.b, x < 256
  lim : O.limit < 18446744073709551616

def OutRep (w : World) (o : Own) (t : Tag) (k : Nat) (O : Out) : Prop :=
  O.Wf ∧ ∃ vb vs, At w o k t (.cells #[vb, vs, .bool O.fin, .int .u8 O.en, .int .u64 O.limit] 109 (0, 0)) ∧ Row w o (0 :: t) 5 vb (O.b.map bv) ∧ Row w o (1 :: t) 5 vs (O.s.map bv)

theorem off_sub {r t : Tag} {_n : Nat} (_h : off [r] t → True) : True := trivial

def Out.write (O : Out) (d : List Nat) : Out × Nat :=
  if O.fin then (O, 0) else
  let n := min d.length (2000 - O.b.length)
  ({ O with b := O.b ++ d.take n, s := O.s ++ List.replicate n 0 }, n)

theorem ONew_ok (w : World) (o : Own) (t : Tag) (l : Nat) (hl : l < 18446744073709551616) :
    Calls Tryz.prog 57 #[.int .u64 l] w fun e w' => ∃ k o', e = .returned (.pointer (some ⟨k, 0, none⟩)) ∧ Chg [] w o w' o' ∧ OutRep w' o' t k ⟨[], [], false, 0, l⟩ := by
  go_enter Tryz.func57, Tryz.ntmps57
  go_wp2
  go_ret
  refine ⟨w.heap.size, o.upd w.heap.size t, rfl, ((Chg.refl [] w o).alloc _).tag (Nat.le_refl _) t, ⟨by simp, by simp, by simp, by simp, by simp, hl⟩, _, _, At.new _ _ _ _, Row.nil _ _ _ _, Row.nil _ _ _ _⟩
end Go.Proofs.YthliihmhkhabeaaGreatDoor
/- What package outflow's functions do to a buffer, II. Conditions: the buffer is as its functions leave it (Out.Wf). -/
namespace Go.Proofs.YthliihmhkhabeaaGreatDoor
open Go Go.RowKit

theorem Sl.shapeB {w : World} {o : Own} {t : Tag} {v : Value} {xs : List Nat} (h : Sl w o t v (xs.map bv)) : ∃ A c, v = .slice A xs.length c := by
  obtain ⟨A, c, h, _⟩ := h
  exact ⟨A, c, by simpa using h⟩
theorem Sl.shape {w : World} {o : Own} {t : Tag} {v : Value} {xs : List Value} (h : Sl w o t v xs) : ∃ A c, v = .slice A xs.length c := by
  obtain ⟨A, c, h, _⟩ := h
  exact ⟨A, c, h⟩

theorem OWritten_ok {w : World} {o : Own} {t : Tag} {k : Nat} {O : Out} (h : OutRep w o t k O) :
    Calls Tryz.prog 69 #[.pointer (some ⟨k, 0, none⟩)] w fun e w' => e = .returned (.int .i64 O.b.length) ∧ w = w' := by
  obtain ⟨hw, vb, vs, hat, hrb, hrs⟩ := h
  have hc := hat.cells
  obtain ⟨A, c, rfl⟩ := hrb.sl.shapeB
  go_enter Tryz.func69, Tryz.ntmps69
  go_wp2
  go_ret
  exact ⟨by simp, rfl⟩

def Out.sent (O : Out) : Nat := if 0 ∈ O.s then O.s.idxOf 0 else O.s.length

set_option maxRecDepth 100000 in
theorem OSent_ok {w : World} {o : Own} {t : Tag} {k : Nat} {O : Out} (h : OutRep w o t k O) :
    Calls Tryz.prog 67 #[.pointer (some ⟨k, 0, none⟩)] w fun e w' => e = .returned (.int .u64 O.sent) ∧ w = w' := by
  obtain ⟨hw, vb, vs, hat, hrb, hrs⟩ := h
  have hc := hat.cells
  have hix := IndexByte_ok (xs := O.s) 0 0 rfl (fun x hx => by have := hw.st x hx; omega) (by omega) hrs.sl
  have hl : O.s.length ≤ 2000 := by have := hw.len; have := hw.most; omega
  have hi : O.s.idxOf 0 ≤ O.s.length := List.idxOf_le_length
  obtain ⟨A, c, rfl⟩ := hrs.sl.shapeB
  unfold Out.sent
  by_cases h0 : 0 ∈ O.s
  · simp only [idxI, h0, if_true] at hix ⊢
    have Hix := Lib.hid hix; clear hix
    go_enter Tryz.func67, Tryz.ntmps67
    go_wp2_with (go_at_call 143; refine Hix.out.mono ?_; rintro e w' ⟨rfl, rfl⟩)
    go_ret
    exact ⟨rfl, rfl⟩
  · simp only [idxI, h0, if_false] at hix ⊢
    have Hix := Lib.hid hix; clear hix
    go_enter Tryz.func67, Tryz.ntmps67
    go_wp2_with (go_at_call 143; refine Hix.out.mono ?_; rintro e w' ⟨rfl, rfl⟩)
    go_ret
    exact ⟨by simp, rfl⟩

def Out.raise (O : Out) (l : Nat) : Out × Bool := if l ≤ O.limit then (O, false) else ({ O with limit := l }, true)

theorem ORaise_ok {w : World} {o : Own} {t : Tag} {k l : Nat} {O : Out} (h : OutRep w o t k O) (hl : l < 18446744073709551616) :
    Calls Tryz.prog 71 #[.pointer (some ⟨k, 0, none⟩), .int .u64 l] w fun e w' => e = .returned (.bool (O.raise l).2) ∧ Chg [t] w o w' o ∧ OutRep w' o t k (O.raise l).1 := by
  have h' := h
  obtain ⟨hw, vb, vs, hat, hrb, hrs⟩ := h
  have hc := hat.cells
  have hf := hat.free
  unfold Out.raise
  by_cases hle : l ≤ O.limit
  · rw [if_pos hle]
    go_enter Tryz.func71, Tryz.ntmps71
    go_wp2
    go_ret
    exact ⟨rfl, Chg.refl _ _ _, h'⟩
  · rw [if_neg hle]
    go_enter Tryz.func71, Tryz.ntmps71
    go_wp2
    go_ret
    exact ⟨rfl, (Chg.refl _ _ _).setCell _ (.inr hat.on), ⟨hw.len, hw.most, hw.st, hw.en4, hw.by_, hl⟩, _, _, hat.set 4 _, hrb.far (by rw [hat.2]; exact tag_ne _ _) _, hrs.far (by rw [hat.2]; exact tag_ne _ _) _⟩

theorem OFinish_ok {w : World} {o : Own} {t : Tag} {k : Nat} {O : Out} (h : OutRep w o t k O) :
    Calls Tryz.prog 52 #[.pointer (some ⟨k, 0, none⟩)] w fun e w' => e = .returned (.bool (!O.fin)) ∧ Chg [t] w o w' o ∧ OutRep w' o t k { O with fin := true } := by
  have h' := h
  obtain ⟨hw, vb, vs, hat, hrb, hrs⟩ := h
  have hc := hat.cells
  have hf := hat.free
  cases hfin : O.fin with
  | true =>
    rw [hfin] at hc
    go_enter Tryz.func52, Tryz.ntmps52
    go_wp2
    go_ret
    exact ⟨rfl, Chg.refl _ _ _, by have : ({ O with fin := true } : Out) = O := (by cases O; simp_all); rw [this]; exact h'⟩
  | false =>
    rw [hfin] at hc
    go_enter Tryz.func52, Tryz.ntmps52
    go_wp2
    go_ret
    exact ⟨rfl, (Chg.refl _ _ _).setCell _ (.inr hat.on), ⟨hw.len, hw.most, hw.st, hw.en4, hw.by_, hw.lim⟩, _, _, hat.set 2 _, hrb.far (by rw [hat.2]; exact tag_ne _ _) _, hrs.far (by rw [hat.2]; exact tag_ne _ _) _⟩
end Go.Proofs.YthliihmhkhabeaaGreatDoor
