/- The streams' table, II: what a table is, how it lies in memory; bit, mine, New. No condition. -/
import Derived.Test.YthliihmhkhabeaaGreatDoorIds12
import Derived.Deep.MidRow
namespace Go.Proofs.YthliihmhkhabeaaGreatDoor
open Go Go.RowKit

/-- A stream. -/
structure St where
  out : Option Out
  inn : Option In
  max : Nat
  given : Nat
  reset : Bool
  over : Bool
  code : Nat
  in2 : Nat
  stop : Nat
  finished : Bool
  done : Bool
  tell : List (Nat × Bool)
  stopped : Bool
  taken : Nat

/-- A table of streams. -/
structure Tb where
  client : Bool
  own : Par
  m : List (Nat × St)
  op0 : Nat
  op1 : Nat
  op2 : Nat
  op3 : Nat
  lim0 : Nat
  lim1 : Nat
  stream : Nat
  data : Nat
  read : Nat
  tell : Bool

def u64m : Nat := 18446744073709551616

structure St.Wf (s : St) : Prop where
  max64 : s.max < 18446744073709551616
  given64 : s.given < 18446744073709551616
  code64 : s.code < 18446744073709551616
  in264 : s.in2 < 18446744073709551616
  stop64 : s.stop < 18446744073709551616
  taken64 : s.taken < 18446744073709551616
  tk : (s.tell.map (·.1)).Nodup

structure Tb.Wf (T : Tb) : Prop where
  own : T.own.Wf
  d100 : T.own.data ≤ 100000
  s100 : T.own.stream ≤ 100000
  n60 : T.own.streams ≤ 1152921504606846976
  o0 : T.op0 ≤ T.lim0
  o1 : T.op1 ≤ T.lim0
  o2 : T.op2 ≤ T.lim1
  o3 : T.op3 ≤ T.lim1
  l0 : T.lim0 ≤ 40
  l1 : T.lim1 ≤ 40
  stream64 : T.stream < 18446744073709551616
  data64 : T.data < 18446744073709551616
  read64 : T.read < 18446744073709551616
  nd : (T.m.map (·.1)).Nodup
  id64 : ∀ p ∈ T.m, p.1 < 18446744073709551616

def ptr (k : Nat) : Value := .pointer (some ⟨k, 0, none⟩)
def optPtr : Option Nat → Value
  | none => .pointer none
  | some k => ptr k

/-- The part that goes out, if there is one. -/
def OutOpt (w : World) (o : Own) (t : Tag) : Option Nat → Option Out → Prop
  | none, none => True
  | some k, some O => OutRep w o t k O
  | _, _ => False
def InOpt (w : World) (o : Own) (t : Tag) : Option Nat → Option In → Prop
  | none, none => True
  | some k, some I => InRep w o t k I
  | _, _ => False

def tellKV (m : List (Nat × Bool)) : List (Value × Value) := m.map fun p => (natKey .i64 p.1, .bool p.2)

def StRep (w : World) (o : Own) (t : Tag) (k : Nat) (s : St) : Prop :=
  s.Wf ∧ ∃ ko ki bm, At w o k t (.cells #[optPtr ko, optPtr ki, .int .u64 s.max, .int .u64 s.given, .bool s.reset, .bool s.over, .int .u64 s.code, .int .u64 s.in2, .int .u64 s.stop, .bool s.finished, .bool s.done, .map (some bm), .bool s.stopped, .int .u64 s.taken] 81 (0, 0)) ∧
    OutOpt w o (0 :: t) ko s.out ∧ InOpt w o (1 :: t) ki s.inn ∧ MapAt w o (2 :: t) bm (tellKV s.tell)

def stKV (blk : Nat → Nat) (m : List (Nat × St)) : List (Value × Value) := m.map fun p => (natKey .u64 p.1, ptr (blk p.1))

def Tb.cells (T : Tb) (bm : Nat) : Array Value := #[.bool T.client, .int .u64 T.own.idle, .int .u64 T.own.data, .int .u64 T.own.stream, .int .u64 T.own.streams, .bool T.own.has, bv (T.own.tok 0), bv (T.own.tok 1), bv (T.own.tok 2), bv (T.own.tok 3), bv (T.own.tok 4), bv (T.own.tok 5), bv (T.own.tok 6), bv (T.own.tok 7), bv (T.own.tok 8), bv (T.own.tok 9), bv (T.own.tok 10), bv (T.own.tok 11), bv (T.own.tok 12), bv (T.own.tok 13), bv (T.own.tok 14), bv (T.own.tok 15),
  .map (some bm), .int .u64 T.op0, .int .u64 T.op1, .int .u64 T.op2, .int .u64 T.op3, .int .u64 T.lim0, .int .u64 T.lim1, .int .u64 T.stream, .int .u64 T.data, .int .u64 T.read, .bool T.tell]

def TbAt (w : World) (o : Own) (t : Tag) (k bm : Nat) (blk : Nat → Nat) (T : Tb) : Prop :=
  T.Wf ∧ At w o k t (.cells (T.cells bm) 75 (0, 0)) ∧ MapAt w o (0 :: t) bm (stKV blk T.m) ∧ ∀ p ∈ T.m, StRep w o ((p.1 + 1) :: t) (blk p.1) p.2
def TbRep (w : World) (o : Own) (t : Tag) (k : Nat) (T : Tb) : Prop := ∃ bm blk, TbAt w o t k bm blk T

section
variable {L : List Tag} {w w' : World} {o o' : Own} {t : Tag} {k : Nat}
theorem OutOpt.chg {ko : Option Nat} {O : Option Out} (h : OutOpt w o t ko O) (hc : Chg L w o w' o') (hl : ∀ u, t <:+ u → off L u) : OutOpt w' o' t ko O := by
  cases ko <;> cases O <;> simp only [OutOpt] at h ⊢
  obtain ⟨hw, vb, vs, h1, h2, h3⟩ := h
  exact ⟨hw, vb, vs, h1.chg hc (hl _ (List.suffix_refl _)), h2.chg hc (hl _ (List.suffix_cons _ _)), h3.chg hc (hl _ (List.suffix_cons _ _))⟩
theorem InOpt.chg {ki : Option Nat} {I : Option In} (h : InOpt w o t ki I) (hc : Chg L w o w' o') (hl : ∀ u, t <:+ u → off L u) : InOpt w' o' t ki I := by
  cases ki <;> cases I <;> simp only [InOpt] at h ⊢
  exact InRep.chg h hc (hl _ (List.suffix_refl _)) (hl _ (List.suffix_cons _ _))
theorem StRep.chg {s : St} (h : StRep w o t k s) (hc : Chg L w o w' o') (hl : ∀ u, t <:+ u → off L u) : StRep w' o' t k s := by
  obtain ⟨hw, ko, ki, bm, h1, h2, h3, h4⟩ := h
  exact ⟨hw, ko, ki, bm, h1.chg hc (hl _ (List.suffix_refl _)), h2.chg hc fun u hu => hl u ((List.suffix_cons _ _).trans hu), h3.chg hc fun u hu => hl u ((List.suffix_cons _ _).trans hu), h4.chg hc (hl _ (List.suffix_cons _ _))⟩
theorem TbAt.chg {bm : Nat} {blk : Nat → Nat} {T : Tb} (h : TbAt w o t k bm blk T) (hc : Chg L w o w' o') (hl : ∀ u, t <:+ u → off L u) : TbAt w' o' t k bm blk T := by
  obtain ⟨hw, h1, h2, h3⟩ := h
  exact ⟨hw, h1.chg hc (hl _ (List.suffix_refl _)), h2.chg hc (hl _ (List.suffix_cons _ _)), fun p hp => (h3 p hp).chg hc fun u hu => hl u ((List.suffix_cons _ _).trans hu)⟩
theorem TbRep.chg {T : Tb} (h : TbRep w o t k T) (hc : Chg L w o w' o') (hl : ∀ u, t <:+ u → off L u) : TbRep w' o' t k T := by
  obtain ⟨bm, blk, h⟩ := h
  exact ⟨bm, blk, h.chg hc hl⟩
end

def bitN (b : Bool) : Nat := if b then 1 else 0
set_option maxRecDepth 100000 in
theorem sbit_ok {w : World} (b : Bool) : Calls Tryz.prog 28 #[.bool b] w fun e w' => e = .returned (.int .u64 (bitN b)) ∧ w = w' := by
  cases b with
  | true =>
    go_enter Tryz.func28, Tryz.ntmps28
    go_wp2
    go_ret
    exact ⟨rfl, rfl⟩
  | false =>
    go_enter Tryz.func28, Tryz.ntmps28
    go_wp2
    go_ret
    exact ⟨rfl, rfl⟩

def Tb.mine (T : Tb) (id : Nat) : Bool := (id % 2 == 0) == T.client
theorem and1 (id : Nat) (hid : id < 18446744073709551616) : bits .and .u64 (id : Int) 1 = ((id % 2 : Nat) : Int) := by
  rw [and_one_u64 _ (by omega) (by omega)]; omega
theorem and2 (id : Nat) (hid : id < 18446744073709551616) : bits .and .u64 (id : Int) 2 = ((id / 2 % 2 * 2 : Nat) : Int) := by
  have h := bits_and_u64_nat id 2 hid (by omega)
  have h2 : id &&& 2 = id / 2 % 2 * 2 := by
    apply Nat.eq_of_testBit_eq
    intro i
    have e2 : id / 2 % 2 * 2 = (id / 2 % 2) <<< 1 := by simp [Nat.shiftLeft_eq]
    rw [e2, Nat.testBit_and, Nat.testBit_shiftLeft]
    rcases i with _ | _ | i
    · simp [Nat.testBit]
    · simp [Nat.testBit, Nat.shiftRight_succ]
    · have h3 : Nat.testBit 2 (i + 2) = false := by
        rw [show (2 : Nat) = 2 ^ 1 from rfl, Nat.testBit_two_pow]; simp
      have h4 : Nat.testBit (id / 2 % 2) (i + 1) = false := by
        apply Nat.testBit_lt_two_pow
        have : id / 2 % 2 < 2 := Nat.mod_lt _ (by omega)
        calc id / 2 % 2 < 2 := this
          _ ≤ 2 ^ (i + 1) := by rw [Nat.pow_succ]; have := Nat.one_le_two_pow (n := i); omega
      simp [h3, h4]
  rw [h2] at h
  exact h

set_option maxRecDepth 100000 in
theorem mine_ok {w : World} {k : Nat} {c : Bool} (h : w.cell? ⟨k, 0, none⟩ = some (.bool c)) (id : Nat) (hid : id < 18446744073709551616) :
    Calls Tryz.prog 56 #[ptr k, .int .u64 id] w fun e w' => e = .returned (.bool ((id % 2 == 0) == c)) ∧ w = w' := by
  unfold ptr
  have hb := and1 id hid
  have he : (((id % 2 : Nat) : Int) == 0) = (id % 2 == 0) := by
    rw [Bool.eq_iff_iff]; simp; omega
  generalize id % 2 = q at hb he ⊢
  generalize (q == 0) = r at he ⊢
  go_enter Tryz.func56, Tryz.ntmps56
  go_wp2
  go_ret
  exact ⟨rfl, rfl⟩

def Tb.new (c : Bool) (p : Par) : Tb := { client := c, own := { p with data := min p.data 100000, stream := min p.stream 100000 }, m := [], op0 := 0, op1 := 0, op2 := 0, op3 := 0, lim0 := 0, lim1 := 0, stream := 0, data := 0, read := 0, tell := false }

theorem Tb.new_wf (c : Bool) {p : Par} (h : p.Wf) (hm : p.may = true) : (Tb.new c p).Wf := by
  have h1 := h.i64; have h2 := h.d64; have h3 := h.s64; have h4 := h.n64
  have h5 : p.streams ≤ 1152921504606846976 := by
    simp only [Par.may, Bool.and_eq_true, decide_eq_true_eq] at hm
    exact hm.1.2
  have hd : min p.data 100000 < 18446744073709551616 := by omega
  have hs : min p.stream 100000 < 18446744073709551616 := by omega
  have z : (0 : Nat) < 18446744073709551616 := by omega
  have z4 : (0 : Nat) ≤ 40 := by omega
  exact ⟨⟨h1, hd, hs, h4, h.t8⟩, Nat.min_le_right _ _, Nat.min_le_right _ _, h5, Nat.le_refl _, Nat.le_refl _, Nat.le_refl _, Nat.le_refl _, z4, z4, z, z, z, List.nodup_nil, fun p hp => by cases hp⟩

theorem infoPP : (Tryz.prog.info? 29).map (·.size) = some 21 := by kernel_rfl

/-- Parameters that lie whole in a block are read whole. -/
theorem loadPar {w : World} {b o : Nat} {C : Array Value} (hs : C.size = 21) (hc : ∀ j, j < 21 → w.cell? ⟨b, o + j, none⟩ = C[j]?) : (Instr.loadAt 29 (.pointer (some ⟨b, o, none⟩))).run Tryz.prog w = .ok (.agg C) w := by
  have hl : C.toList.length = 21 := by simp [hs]
  have := run_loadAt_mid (P := Tryz.prog) w b o 29 C.toList _ (fun j v hv => by
    have hj : j < 21 := by rw [← hl]; exact (List.getElem?_eq_some_iff.1 hv).1
    rw [hc j hj, ← Array.getElem?_toList]; exact hv) Tryz.underlying29 rfl (by rw [hl]; exact infoPP)
  rwa [Array.toArray_toList] at this

theorem cell_newC (w : World) (C : Array Value) (t : TypeId) (j : Nat) : (w.alloc (.cells C t)).cell? ⟨w.heap.size, j, none⟩ = C[j]? := by
  have h := heap_alloc_new w (.cells C t)
  simp only [World.cell?, h]
  simp

theorem parRange (w : World) (C : Array Value) (t : TypeId) : (w.alloc (.cells C t)).rangeAt w.heap.size 0 C.toList := fun j v hv => by
  rw [Nat.zero_add, cell_newC, ← Array.getElem?_toList]; exact hv

set_option maxRecDepth 100000 in
theorem New_no' {w : World} (o : Own) (c : Bool) (C : Array Value) (hsz : (Tryz.prog.info? 29).map (·.size) = some C.toList.length) (H : RowKit.Hid (∀ w, Calls Tryz.prog 27 #[.agg C] w fun e w' => e = .returned (.bool false) ∧ w' = w.alloc (.cells C 29))) :
    Calls Tryz.prog 8 #[.bool c, .agg C] w fun e w' => e = .returned (.pointer none) ∧ Chg [] w o w' o := by
  have hr := Lib.hid (parRange w C 29)
  have Hsz := Lib.hid hsz; clear hsz
  go_enter Tryz.func8, Tryz.ntmps8
  go_wp2_with (first
    | (refine wpList_load_mid (P := Tryz.prog) rfl 29 _ rfl w.heap.size 0 rfl C.toList _ hr.out Tryz.underlying29 rfl Hsz.out ?_; simp only [Array.toArray_toList])
    | (go_at_call 27; refine (H.out _).mono ?_; rintro e w' ⟨rfl, rfl⟩))
  go_ret
  exact ⟨rfl, ((Chg.refl [] w o).alloc _).alloc _⟩
theorem New_no {w : World} (o : Own) (c : Bool) (p : Par) (hm : p.may = false) :
    Calls Tryz.prog 8 #[.bool c, p.val] w fun e w' => e = .returned (.pointer none) ∧ Chg [] w o w' o :=
  New_no' o c p.cells infoPP (Lib.hid fun w => by have := PMay_ok (w := w) p; rw [hm] at this; exact this)

theorem parRange' {w : World} {b : Nat} {C : Array Value} (h : ∀ j, w.cell? ⟨b, j, none⟩ = C[j]?) : w.rangeAt b 0 C.toList := fun j v hv => by
  rw [Nat.zero_add, h, ← Array.getElem?_toList]; exact hv

def NewPost (w : World) (o : Own) (t : Tag) (T : Tb) (e : Ending) (w' : World) : Prop := ∃ k o', e = .returned (ptr k) ∧ Chg [] w o w' o' ∧ TbRep w' o' t k T

set_option maxRecDepth 100000 in
theorem New_yes {w : World} (o : Own) (t : Tag) (c : Bool) (p : Par) (hw : p.Wf) (hm : p.may = true) :
    Calls Tryz.prog 8 #[.bool c, p.val] w fun e w' => NewPost w o t (Tb.new c p) e w' := by
  have hwf := Lib.hid (Tb.new_wf c hw hm)
  obtain ⟨d1, hd1⟩ : ∃ d, d = min p.data 100000 := ⟨_, rfl⟩
  obtain ⟨d2, hd2⟩ : ∃ d, d = min p.stream 100000 := ⟨_, rfl⟩
  have H : RowKit.Hid (∀ w, Calls Tryz.prog 27 #[.agg p.cells] w fun e w' => e = .returned (.bool true) ∧ w' = w.alloc (.cells p.cells 29)) := Lib.hid fun w => by have := PMay_ok (w := w) p; rw [hm] at this; exact this
  have hC1 : p.cells[1]? = some (.int .u64 p.data) := rfl
  have hC2 : p.cells[2]? = some (.int .u64 p.stream) := rfl
  have hD : RowKit.Hid ((p.cells.setIfInBounds 1 (.int .u64 d1)).setIfInBounds 2 (.int .u64 d2) = ({ p with data := d1, stream := d2 } : Par).cells) := rfl
  have Hsz : RowKit.Hid ((Tryz.prog.info? 29).map (·.size) = some p.cells.toList.length) := infoPP
  have Hsz2 : RowKit.Hid ((Tryz.prog.info? 29).map (·.size) = some (({ p with data := d1, stream := d2 } : Par).cells).toList.length) := infoPP
  unfold Par.val
  have hnew : Tb.new c p = { client := c, own := { p with data := d1, stream := d2 }, m := [], op0 := 0, op1 := 0, op2 := 0, op3 := 0, lim0 := 0, lim1 := 0, stream := 0, data := 0, read := 0, tell := false } := by rw [hd1, hd2]; rfl
  rw [hnew] at hwf ⊢
  have Hn := Lib.hid hnew; clear hnew
  have h1 : (p.data : Int) ≤ 100000 ∧ d1 = p.data ∨ (100000 : Int) < p.data ∧ d1 = 100000 := by omega
  have h2 : (p.stream : Int) ≤ 100000 ∧ d2 = p.stream ∨ (100000 : Int) < p.stream ∧ d2 = 100000 := by omega
  clear hd1 hd2 hw hm
  have hmm := @run_makeMap Tryz.prog
  generalize hC : p.cells = C at *
  clear hC
  have hr := Lib.hid (parRange w C 29)
  have ha1 := At.new w o (1 :: t) (.cells ((C.setIfInBounds 1 (.int .u64 d1)).setIfInBounds 2 (.int .u64 d2)) 29)
  have ha4 := ha1.alloc (.cells C 29)
  have hch4 := (((Chg.refl [] w o).alloc (.cells ((C.setIfInBounds 1 (.int .u64 d1)).setIfInBounds 2 (.int .u64 d2)) 29)).tag (Nat.le_refl _) (1 :: t)).alloc (.cells C 29)
  have hr4 := Lib.hid (parRange' ha4.cells)
  have e4 : RowKit.Hid (((C.setIfInBounds 1 (.int .u64 d1)).setIfInBounds 2 (.int .u64 d2)).toList = ({ p with data := d1, stream := d2 } : Par).cells.toList) := by rw [hD]; exact rfl
  rw [e4.out] at hr4
  have Hfin : RowKit.Hid (∀ W e, W = ((((w.alloc (.cells ((C.setIfInBounds 1 (.int .u64 d1)).setIfInBounds 2 (.int .u64 d2)) 29)).alloc (.cells C 29)).alloc (.map #[] 0)).alloc (.cells (({ client := c, own := { p with data := d1, stream := d2 }, m := [], op0 := 0, op1 := 0, op2 := 0, op3 := 0, lim0 := 0, lim1 := 0, stream := 0, data := 0, read := 0, tell := false } : Tb).cells (w.heap.size + 1 + 1)) 75)) → e = Ending.returned (ptr (w.heap.size + 1 + 1 + 1)) → NewPost w o t { client := c, own := { p with data := d1, stream := d2 }, m := [], op0 := 0, op1 := 0, op2 := 0, op3 := 0, lim0 := 0, lim1 := 0, stream := 0, data := 0, read := 0, tell := false } e W) := by
    rintro W e rfl rfl
    generalize hW4 : ((w.alloc (.cells ((C.setIfInBounds 1 (.int .u64 d1)).setIfInBounds 2 (.int .u64 d2)) 29)).alloc (.cells C 29)) = W4 at hch4 ⊢
    generalize ho4 : o.upd w.heap.size (1 :: t) = o4 at hch4
    have s4 : W4.heap.size = w.heap.size + 1 + 1 := by rw [← hW4]; simp
    have hm := MapAt.new W4 o4 (0 :: t)
    have k1 := ((Chg.refl [] W4 o4).alloc (.map #[] 0)).tag (Nat.le_refl _) (0 :: t)
    generalize hW5 : W4.alloc (.map #[] 0) = W5 at hm k1 ⊢
    generalize ho5 : o4.upd W4.heap.size (0 :: t) = o5 at hm k1
    have s5 : W5.heap.size = w.heap.size + 1 + 1 + 1 := by rw [← hW5]; simp [s4]
    have ht := At.new W5 o5 t (.cells (({ client := c, own := { p with data := d1, stream := d2 }, m := [], op0 := 0, op1 := 0, op2 := 0, op3 := 0, lim0 := 0, lim1 := 0, stream := 0, data := 0, read := 0, tell := false } : Tb).cells (w.heap.size + 1 + 1)) 75)
    have k2 := ((Chg.refl [] W5 o5).alloc (.cells (({ client := c, own := { p with data := d1, stream := d2 }, m := [], op0 := 0, op1 := 0, op2 := 0, op3 := 0, lim0 := 0, lim1 := 0, stream := 0, data := 0, read := 0, tell := false } : Tb).cells (w.heap.size + 1 + 1)) 75)).tag (Nat.le_refl _) t
    refine ⟨_, _, rfl, (hch4.trans k1).trans k2, w.heap.size + 1 + 1, fun _ => 0, hwf.out, ?_, ?_, fun p hp => by cases hp⟩
    · rw [← s5]; exact ht
    · have hm' := hm.chg k2 (off_nil _)
      rw [s4] at hm'
      exact hm'
  clear hch4 ha4 ha1 Hn hwf hD e4
  have hC1' := hC1
  rcases h1 with ⟨h1, rfl⟩ | ⟨h1, rfl⟩ <;> rcases h2 with ⟨h2, rfl⟩ | ⟨h2, rfl⟩
  all_goals
    go_enter Tryz.func8, Tryz.ntmps8
    go_upto_region 3 with (first
      | (refine wpList_load_mid (P := Tryz.prog) rfl 29 _ rfl w.heap.size 0 rfl C.toList _ hr.out Tryz.underlying29 rfl Hsz.out ?_; simp only [Array.toArray_toList])
      | (go_at_call 27; refine (H.out _).mono ?_; rintro e w' ⟨rfl, rfl⟩))
    go_upto_region 4 with fail
    go_wp2_with (refine wpList_load_mid (P := Tryz.prog) rfl 29 _ rfl w.heap.size 0 rfl _ _ hr4.out Tryz.underlying29 rfl Hsz2.out ?_; simp only [Par.cells])
    go_ret
    exact Hfin.out _ _ rfl rfl
end Go.Proofs.YthliihmhkhabeaaGreatDoor
/- The streams' table, III: a stream that comes to be. No condition. -/
namespace Go.Proofs.YthliihmhkhabeaaGreatDoor
open Go Go.RowKit

def Tb.hasOut (T : Tb) (id : Nat) : Bool := T.mine id || id / 2 % 2 == 0
def Tb.hasIn (T : Tb) (id : Nat) : Bool := !T.mine id || id / 2 % 2 == 0
def Tb.fresh (T : Tb) (id : Nat) : St :=
  { out := if T.hasOut id then some ⟨[], [], false, 0, 0⟩ else none, inn := if T.hasIn id then some (In.new T.own.stream) else none, max := T.stream, given := 0, reset := false, over := false, code := 0, in2 := 0, stop := 0, finished := false, done := false, tell := [], stopped := false, taken := 0 }
def Tb.make (T : Tb) (id : Nat) : Tb := { T with m := mset T.m id (T.fresh id) }

def upd (f : Nat → Nat) (a b : Nat) : Nat → Nat := fun x => if x = a then b else f x
theorem upd_same (f : Nat → Nat) (a b : Nat) : upd f a b a = b := by simp [upd]
theorem upd_ne (f : Nat → Nat) {a x : Nat} (b : Nat) (h : x ≠ a) : upd f a b x = f x := by simp [upd, h]

def blks (blk : Nat → Nat) (m : List (Nat × St)) : List (Nat × Nat) := m.map fun p => (p.1, blk p.1)
theorem stKV_blks (blk : Nat → Nat) (m : List (Nat × St)) : stKV blk m = (blks blk m).map fun q => (natKey .u64 q.1, ptr q.2) := by
  simp [stKV, blks]
theorem mget_blks (blk : Nat → Nat) : ∀ (m : List (Nat × St)) (id : Nat), mget (blks blk m) id = (mget m id).map fun _ => blk id
  | [], id => rfl
  | p :: m, id => by
    have ih := mget_blks blk m id
    simp only [blks, List.map_cons] at ih ⊢
    unfold mget
    by_cases h : p.1 = id
    · subst h; simp
    · simp only [h, if_false]; exact ih
theorem mset_blks (blk : Nat → Nat) (s : St) : ∀ (m : List (Nat × St)) (id k : Nat), (m.map (·.1)).Nodup → mset (blks blk m) id k = blks (upd blk id k) (mset m id s)
  | [], id, k, _ => by simp [blks, mset, upd]
  | p :: m, id, k, hn => by
    simp only [List.map_cons, List.nodup_cons] at hn
    have ih := mset_blks blk s m id k hn.2
    simp only [blks, List.map_cons] at ih ⊢
    unfold mset
    by_cases h : p.1 = id
    · subst h
      simp only [if_true, List.map_cons, upd_same, List.cons.injEq, true_and]
      apply List.map_congr_left
      intro q hq
      rw [upd_ne]
      rintro e
      exact hn.1 (by rw [← e]; exact List.mem_map.2 ⟨q, hq, rfl⟩)
    · simp only [h, if_false, List.map_cons, upd_ne blk k h, List.cons.injEq, true_and]
      exact ih

theorem mem_mset {s : St} {id : Nat} : ∀ {m : List (Nat × St)} {p : Nat × St}, (m.map (·.1)).Nodup → p ∈ mset m id s → p = (id, s) ∨ p ∈ m ∧ p.1 ≠ id
  | [], p, _, h => by simp [mset] at h; exact .inl h
  | q :: m, p, hn, h => by
    simp only [List.map_cons, List.nodup_cons] at hn
    unfold mset at h
    by_cases hq : q.1 = id
    · rw [if_pos hq] at h
      rcases List.mem_cons.1 h with h | h
      · exact .inl h
      · right
        refine ⟨List.mem_cons_of_mem _ h, ?_⟩
        rintro e
        exact hn.1 (by rw [hq, ← e]; exact List.mem_map.2 ⟨p, h, rfl⟩)
    · rw [if_neg hq] at h
      rcases List.mem_cons.1 h with h | h
      · right; rw [h]; exact ⟨List.mem_cons_self, hq⟩
      · rcases mem_mset hn.2 h with h | ⟨h, h'⟩
        · exact .inl h
        · exact .inr ⟨List.mem_cons_of_mem _ h, h'⟩

theorem off_deep {n m : Nat} {t u : Tag} (h : n ≠ m) (hu : (m :: t) <:+ u) : off [n :: t] u := off_one.2 fun hh => by
  have h1 := List.suffix_of_suffix_length_le hh hu (by simp)
  exact off_one.1 (off_sib (n := n) (m := m) t h) h1

/-- The table behind a turn of one stream (kept or new) and of its map. -/
theorem TbAt.put {w W W' : World} {o o' : Own} {t : Tag} {k bm ks : Nat} {blk : Nat → Nat} {T : Tb} {id : Nat} {s : St} (h : TbAt w o t k bm blk T) (hid : id < 18446744073709551616)
    (hch : Chg [(id + 1) :: t] w o W o') (hst : StRep W' o' ((id + 1) :: t) ks s) (hm : MapAt W' o' (0 :: t) bm ((mset (blks blk T.m) id ks).map fun q => (natKey .u64 q.1, ptr q.2))) (hch2 : Chg [0 :: t] W o' W' o') :
    TbAt W' o' t k bm (upd blk id ks) { T with m := mset T.m id s } ∧ Chg [0 :: t, (id + 1) :: t] w o W' o' := by
  obtain ⟨hw, hat, hmap, hss⟩ := h
  have hkeys := mset_nodup T.m id s hw.nd
  refine ⟨⟨{ hw with nd := hkeys, id64 := ?_ }, ?_, ?_, ?_⟩, ?_⟩
  · intro p hp
    rcases mem_mset hw.nd hp with rfl | ⟨hp, _⟩
    · exact hid
    · exact hw.id64 p hp
  · exact (hat.chg hch (off_child _ _)).chg hch2 (off_child _ _)
  · rw [stKV_blks, ← mset_blks blk s T.m id ks hw.nd]; exact hm
  · intro p hp
    rcases mem_mset hw.nd hp with rfl | ⟨hp, hne⟩
    · rw [upd_same]; exact hst
    · rw [upd_ne _ _ hne]
      exact ((hss p hp).chg hch fun u hu => off_deep (by omega) hu).chg hch2 fun u hu => off_deep (by omega) hu
  · refine (hch.mono fun u hu => ?_).trans (hch2.mono fun u hu => ?_)
    · rw [off_one]; exact hu _ (by simp)
    · rw [off_one]; exact hu _ (by simp)
end Go.Proofs.YthliihmhkhabeaaGreatDoor
/- The streams' table, IV: make. No condition. -/
namespace Go.Proofs.YthliihmhkhabeaaGreatDoor
open Go Go.RowKit

def MakePost (w : World) (o : Own) (t : Tag) (k bm : Nat) (blk : Nat → Nat) (T : Tb) (id : Nat) (e : Ending) (w' : World) : Prop :=
  ∃ ks o', e = .returned (ptr ks) ∧ TbAt w' o' t k bm (upd blk id ks) (T.make id) ∧ Chg [0 :: t, (id + 1) :: t] w o w' o'

theorem OutOpt.far {w : World} {o : Own} {t : Tag} {ko : Option Nat} {O : Option Out} (h : OutOpt w o t ko O) {p : Addr} {L : Tag} (hp : o p.block = L) (hl : ∀ u, t <:+ u → off [L] u) (u : Value) : OutOpt (w.setCell p u) o t ko O :=
  h.chg ((Chg.refl [L] w o).setCell u (.inr (by rw [hp]; exact on_self _))) hl
theorem InOpt.far {w : World} {o : Own} {t : Tag} {ki : Option Nat} {I : Option In} (h : InOpt w o t ki I) {p : Addr} {L : Tag} (hp : o p.block = L) (hl : ∀ u, t <:+ u → off [L] u) (u : Value) : InOpt (w.setCell p u) o t ki I :=
  h.chg ((Chg.refl [L] w o).setCell u (.inr (by rw [hp]; exact on_self _))) hl

/-- A parent's store leaves what lies below a child as it was (blocks bear one tag each). -/
theorem OutOpt.store {n : Nat} {w : World} {o : Own} {t : Tag} {ko : Option Nat} {O : Option Out} (h : OutOpt w o (n :: t) ko O) {p : Addr} (hp : o p.block = t) (u : Value) : OutOpt (w.setCell p u) o (n :: t) ko O := by
  have hne : ∀ {q : Tag}, (n :: t) <:+ q → t ≠ q := fun hq e => by have := hq.length_le; rw [← e] at this; simp only [List.length_cons] at this; omega
  cases ko <;> cases O <;> simp only [OutOpt] at h ⊢
  obtain ⟨hw, vb, vs, h1, h2, h3⟩ := h
  exact ⟨hw, vb, vs, h1.far (by rintro e; exact hne (List.suffix_refl _) (by rw [← h1.2, e, hp])) u, h2.far (by rw [hp]; exact hne (List.suffix_cons _ _)) u, h3.far (by rw [hp]; exact hne (List.suffix_cons _ _)) u⟩
theorem InOpt.store {n : Nat} {w : World} {o : Own} {t : Tag} {ki : Option Nat} {I : Option In} (h : InOpt w o (n :: t) ki I) {p : Addr} (hp : o p.block = t) (u : Value) : InOpt (w.setCell p u) o (n :: t) ki I := by
  have hne : ∀ {q : Tag}, (n :: t) <:+ q → t ≠ q := fun hq e => by have := hq.length_le; rw [← e] at this; simp only [List.length_cons] at this; omega
  cases ki <;> cases I <;> simp only [InOpt] at h ⊢
  obtain ⟨hw, bm, h1, h2⟩ := h
  exact ⟨hw, bm, h1.far (by rintro e; exact hne (List.suffix_refl _) (by rw [← h1.2, e, hp])) u, h2.far (by rw [hp]; exact hne (List.suffix_cons _ _)) u⟩

def St.cells (s : St) (ko ki : Option Nat) (bm : Nat) : Array Value := #[optPtr ko, optPtr ki, .int .u64 s.max, .int .u64 s.given, .bool s.reset, .bool s.over, .int .u64 s.code, .int .u64 s.in2, .int .u64 s.stop, .bool s.finished, .bool s.done, .map (some bm), .bool s.stopped, .int .u64 s.taken]

theorem fresh_wf (T : Tb) (id : Nat) (h : T.Wf) : (T.fresh id).Wf := by
  have z : (0 : Nat) < 18446744073709551616 := by omega
  exact ⟨h.stream64, z, z, z, z, z, List.nodup_nil⟩

/-- The world behind the stream's own block, its map. -/
theorem makeStart {w : World} (o : Own) (t : Tag) (id : Nat) (C : Array Value) :
    ∃ o1, Chg [] w o ((w.alloc (.map #[] 0)).alloc (.cells C 81)) o1 ∧ At ((w.alloc (.map #[] 0)).alloc (.cells C 81)) o1 (w.heap.size + 1) ((id + 1) :: t) (.cells C 81 (0, 0)) ∧ MapAt ((w.alloc (.map #[] 0)).alloc (.cells C 81)) o1 (2 :: (id + 1) :: t) w.heap.size [] := by
  have hm := MapAt.new w o (2 :: (id + 1) :: t)
  have k1 := ((Chg.refl [] w o).alloc (.map #[] 0)).tag (Nat.le_refl _) (2 :: (id + 1) :: t)
  generalize hW : w.alloc (.map #[] 0) = W at *
  have s1 : W.heap.size = w.heap.size + 1 := by rw [← hW]; simp
  generalize o.upd w.heap.size (2 :: (id + 1) :: t) = o1 at *
  have ht := At.new W o1 ((id + 1) :: t) (.cells C 81)
  have k2 := ((Chg.refl [] W o1).alloc (.cells C 81)).tag (Nat.le_refl _) ((id + 1) :: t)
  rw [s1] at ht k2
  exact ⟨_, k1.trans k2, ht, hm.chg k2 (off_nil _)⟩

theorem makeEnd {w W : World} {o o' : Own} {t : Tag} {k bm ks : Nat} {blk : Nat → Nat} {T : Tb} {id : Nat} (h : TbAt w o t k bm blk T) (hid : id < 18446744073709551616) (c : Chg [] w o W o') (hst : StRep W o' ((id + 1) :: t) ks (T.fresh id)) :
    ∃ ob, (Instr.mapUpdate 72 (.map (some bm)) (.int .u64 id) (.pointer (some ⟨ks, 0, none⟩))).run Tryz.prog W = .ok () (setOb W bm ob) ∧ MakePost w o t k bm blk T id (.returned (ptr ks)) (setOb W bm ob) := by
  have hm := h.2.2.1.chg c (off_nil _)
  rw [stKV_blks] at hm
  obtain ⟨ob, hup, hm2⟩ := run_mapUpdate (P := Tryz.prog) (V := ptr) (PlainKey.int Tryz.underlying26) Tryz.underlying72 hm id ks
  have hch : Chg [0 :: t] W o' (setOb W bm ob) o' := by
    have := setOb_chg W o' bm ob
    rwa [hm.tag_] at this
  obtain ⟨h1, h2⟩ := h.put hid c.of_nil (hst.chg hch fun u hu => off_deep (by omega) hu) hm2 hch
  exact ⟨ob, hup, ks, o', rfl, h1, h2⟩
end Go.Proofs.YthliihmhkhabeaaGreatDoor
/- The streams' table, V: make, walked. No condition. -/
namespace Go.Proofs.YthliihmhkhabeaaGreatDoor
open Go Go.RowKit

set_option maxRecDepth 100000 in
theorem make_out {w : World} {o : Own} {t : Tag} {k bm : Nat} {blk : Nat → Nat} {T : Tb} (h : TbAt w o t k bm blk T) (id : Nat) (hid : id < 18446744073709551616) (h1 : T.mine id = true) (h2 : id / 2 % 2 = 1) :
    Calls Tryz.prog 29 #[ptr k, .int .u64 id] w fun e w' => MakePost w o t k bm blk T id e w' := by
  have hmine : RowKit.Hid (∀ w : World, w.cell? ⟨k, 0, none⟩ = some (.bool T.client) → Calls Tryz.prog 56 #[.pointer (some ⟨k, 0, none⟩), .int .u64 id] w fun e w' => e = .returned (.bool true) ∧ w = w') := fun w hw => by
    have := mine_ok hw id hid; unfold Tb.mine at h1; rw [h1] at this; exact this
  have hb : bits .and .u64 (id : Int) 2 = 2 := by have := and2 id hid; rw [h2] at this; exact this
  have hfr : T.fresh id = { out := some ⟨[], [], false, 0, 0⟩, inn := none, max := T.stream, given := 0, reset := false, over := false, code := 0, in2 := 0, stop := 0, finished := false, done := false, tell := [], stopped := false, taken := 0 } := by
    simp [Tb.fresh, Tb.hasOut, Tb.hasIn, h1, h2]
  have Hfr := Lib.hid hfr; clear hfr
  obtain ⟨o1, hch1, sat1, tell1⟩ := makeStart o t id (w := w) #[.pointer none, .pointer none, .int .u64 T.stream, .int .u64 0, .bool false, .bool false, .int .u64 0, .int .u64 0, .int .u64 0, .bool false, .bool false, .map (some w.heap.size), .bool false, .int .u64 0]
  have hat := h.2.1
  have hkl := hat.lt
  have hc := hat.cells
  unfold Tb.cells at hc
  have hat1 := hat.chg hch1 (off_nil _)
  have hc1 := Lib.hid (show ((w.alloc (.map #[] 0)).alloc (.cells #[.pointer none, .pointer none, .int .u64 T.stream, .int .u64 0, .bool false, .bool false, .int .u64 0, .int .u64 0, .int .u64 0, .bool false, .bool false, .map (some w.heap.size), .bool false, .int .u64 0] 81)).cell? ⟨k, 0, none⟩ = some (.bool T.client) from hat1.cells 0)
  have hmm := @run_makeMap Tryz.prog
  have H := Lib.hid h
  have hwf := h.1
  clear h
  unfold ptr
  go_enter Tryz.func29, Tryz.ntmps29
  go_wp2_with (go_at_call 56; refine (hmine.out _ (by exact hc1.out)).mono ?_; rintro e w' ⟨rfl, rfl⟩)
  refine (ONew_ok _ o1 (0 :: (id + 1) :: t) 0 (by omega)).mono ?_
  rintro e w2 ⟨ko, o2, rfl, hch2, hrep2⟩
  have sat2 := sat1.chg hch2 (off_nil _)
  have sc2 := sat2.cells
  have sf2 := sat2.free
  have sat3 := sat2.set 0 (.pointer (some ⟨ko, 0, none⟩))
  have hch3 := ((hch1.trans hch2).setCell (p := ⟨w.heap.size + 1, 0, none⟩) (.pointer (some ⟨ko, 0, none⟩)) (.inl (Nat.le_succ _)))
  have hat3 := hat.chg hch3 (off_nil _)
  have hc3 := Lib.hid ((hat3.cells 0).trans (show (T.cells bm)[0]? = some (Value.bool T.client) from rfl))
  have hcc3 := hat3.cells
  unfold Tb.cells at hcc3
  have out3 : OutOpt _ o2 (0 :: (id + 1) :: t) (some ko) (some ⟨[], [], false, 0, 0⟩) := OutOpt.store (p := ⟨w.heap.size + 1, 0, none⟩) (h := (show OutOpt w2 o2 (0 :: (id + 1) :: t) (some ko) (some ⟨[], [], false, 0, 0⟩) from hrep2)) sat2.2 (.pointer (some ⟨ko, 0, none⟩))
  have tell3 := (tell1.chg hch2 (off_nil _)).far (p := ⟨w.heap.size + 1, 0, none⟩) (by rw [sat2.2]; exact tag_ne _ _) (.pointer (some ⟨ko, 0, none⟩))
  obtain ⟨ob, hup, hfin⟩ := makeEnd H.out hid hch3 ⟨fresh_wf T id hwf, some ko, none, w.heap.size, by rw [Hfr.out]; exact sat3, by rw [Hfr.out]; exact out3, by rw [Hfr.out]; trivial, by rw [Hfr.out]; exact tell3⟩
  have Hfin := Lib.hid hfin
  clear hfin tell3 out3 hat3 hch3 sat3 hrep2 hch2
  go_wp2_with (go_at_call 56; refine (hmine.out _ (by exact hc3.out)).mono ?_; rintro e w' ⟨rfl, rfl⟩)
  go_ret
  exact Hfin.out
set_option maxRecDepth 100000 in
theorem make_in {w : World} {o : Own} {t : Tag} {k bm : Nat} {blk : Nat → Nat} {T : Tb} (h : TbAt w o t k bm blk T) (id : Nat) (hid : id < 18446744073709551616) (h1 : T.mine id = false) (h2 : id / 2 % 2 = 1) :
    Calls Tryz.prog 29 #[ptr k, .int .u64 id] w fun e w' => MakePost w o t k bm blk T id e w' := by
  have hmine : RowKit.Hid (∀ w : World, w.cell? ⟨k, 0, none⟩ = some (.bool T.client) → Calls Tryz.prog 56 #[.pointer (some ⟨k, 0, none⟩), .int .u64 id] w fun e w' => e = .returned (.bool false) ∧ w = w') := fun w hw => by
    have := mine_ok hw id hid; unfold Tb.mine at h1; rw [h1] at this; exact this
  have hb : bits .and .u64 (id : Int) 2 = 2 := by have := and2 id hid; rw [h2] at this; exact this
  have hfr : T.fresh id = { out := none, inn := some (In.new T.own.stream), max := T.stream, given := 0, reset := false, over := false, code := 0, in2 := 0, stop := 0, finished := false, done := false, tell := [], stopped := false, taken := 0 } := by
    simp [Tb.fresh, Tb.hasOut, Tb.hasIn, h1, h2]
  have Hfr := Lib.hid hfr; clear hfr
  obtain ⟨o1, hch1, sat1, tell1⟩ := makeStart o t id (w := w) #[.pointer none, .pointer none, .int .u64 T.stream, .int .u64 0, .bool false, .bool false, .int .u64 0, .int .u64 0, .int .u64 0, .bool false, .bool false, .map (some w.heap.size), .bool false, .int .u64 0]
  have hat := h.2.1
  have hkl := hat.lt
  have hc := hat.cells
  unfold Tb.cells at hc
  have hat1 := hat.chg hch1 (off_nil _)
  have hc1 := Lib.hid (show ((w.alloc (.map #[] 0)).alloc (.cells #[.pointer none, .pointer none, .int .u64 T.stream, .int .u64 0, .bool false, .bool false, .int .u64 0, .int .u64 0, .int .u64 0, .bool false, .bool false, .map (some w.heap.size), .bool false, .int .u64 0] 81)).cell? ⟨k, 0, none⟩ = some (.bool T.client) from hat1.cells 0)
  have hmm := @run_makeMap Tryz.prog
  have H := Lib.hid h
  have hwf := h.1
  have hs100 := hwf.s100
  clear h
  unfold ptr
  go_enter Tryz.func29, Tryz.ntmps29
  go_wp2_with (go_at_call 56; refine (hmine.out _ (by exact hc1.out)).mono ?_; rintro e w' ⟨rfl, rfl⟩)
  refine (RNew_ok o1 (1 :: (id + 1) :: t) T.own.stream hs100).mono ?_
  rintro e w2 ⟨ki, o2, rfl, _, hch2, hrep2⟩
  have sat2 := sat1.chg hch2 (off_nil _)
  have sc2 := sat2.cells
  have sf2 := sat2.free
  have sat3 := sat2.set 1 (.pointer (some ⟨ki, 0, none⟩))
  have hch3 := ((hch1.trans hch2).setCell (p := ⟨w.heap.size + 1, 1, none⟩) (.pointer (some ⟨ki, 0, none⟩)) (.inl (Nat.le_succ _)))
  have hat3 := hat.chg hch3 (off_nil _)
  have hcc3 := hat3.cells
  unfold Tb.cells at hcc3
  have in3 : InOpt _ o2 (1 :: (id + 1) :: t) (some ki) (some (In.new T.own.stream)) := InOpt.store (p := ⟨w.heap.size + 1, 1, none⟩) (h := (show InOpt w2 o2 (1 :: (id + 1) :: t) (some ki) (some (In.new T.own.stream)) from hrep2)) sat2.2 (.pointer (some ⟨ki, 0, none⟩))
  have tell3 := (tell1.chg hch2 (off_nil _)).far (p := ⟨w.heap.size + 1, 1, none⟩) (by rw [sat2.2]; exact tag_ne _ _) (.pointer (some ⟨ki, 0, none⟩))
  obtain ⟨ob, hup, hfin⟩ := makeEnd H.out hid hch3 ⟨fresh_wf T id hwf, none, some ki, w.heap.size, by rw [Hfr.out]; exact sat3, by rw [Hfr.out]; trivial, by rw [Hfr.out]; exact in3, by rw [Hfr.out]; exact tell3⟩
  have Hfin := Lib.hid hfin
  clear hfin tell3 in3 hat3 hch3 sat3 hrep2 hch2
  go_wp2
  go_ret
  exact Hfin.out
set_option maxRecDepth 100000 in
theorem make_both {w : World} {o : Own} {t : Tag} {k bm : Nat} {blk : Nat → Nat} {T : Tb} (h : TbAt w o t k bm blk T) (id : Nat) (hid : id < 18446744073709551616) (m : Bool) (h1 : T.mine id = m) (h2 : id / 2 % 2 = 0) :
    Calls Tryz.prog 29 #[ptr k, .int .u64 id] w fun e w' => MakePost w o t k bm blk T id e w' := by
  have hmine : RowKit.Hid (∀ w : World, w.cell? ⟨k, 0, none⟩ = some (.bool T.client) → Calls Tryz.prog 56 #[.pointer (some ⟨k, 0, none⟩), .int .u64 id] w fun e w' => e = .returned (.bool m) ∧ w = w') := fun w hw => by
    have := mine_ok hw id hid; unfold Tb.mine at h1; rw [h1] at this; exact this
  have hb : bits .and .u64 (id : Int) 2 = 0 := by have := and2 id hid; rw [h2] at this; exact this
  have hfr : T.fresh id = { out := some ⟨[], [], false, 0, 0⟩, inn := some (In.new T.own.stream), max := T.stream, given := 0, reset := false, over := false, code := 0, in2 := 0, stop := 0, finished := false, done := false, tell := [], stopped := false, taken := 0 } := by
    simp [Tb.fresh, Tb.hasOut, Tb.hasIn, h1, h2]
  have Hfr := Lib.hid hfr; clear hfr
  obtain ⟨o1, hch1, sat1, tell1⟩ := makeStart o t id (w := w) #[.pointer none, .pointer none, .int .u64 T.stream, .int .u64 0, .bool false, .bool false, .int .u64 0, .int .u64 0, .int .u64 0, .bool false, .bool false, .map (some w.heap.size), .bool false, .int .u64 0]
  have hat := h.2.1
  have hkl := hat.lt
  have hc := hat.cells
  unfold Tb.cells at hc
  have hat1 := hat.chg hch1 (off_nil _)
  have hc1 := Lib.hid (show ((w.alloc (.map #[] 0)).alloc (.cells #[.pointer none, .pointer none, .int .u64 T.stream, .int .u64 0, .bool false, .bool false, .int .u64 0, .int .u64 0, .int .u64 0, .bool false, .bool false, .map (some w.heap.size), .bool false, .int .u64 0] 81)).cell? ⟨k, 0, none⟩ = some (.bool T.client) from hat1.cells 0)
  have hmm := @run_makeMap Tryz.prog
  have H := Lib.hid h
  have hwf := h.1
  have hs100 := hwf.s100
  clear h
  unfold ptr
  clear h1
  cases m
  all_goals
    go_enter Tryz.func29, Tryz.ntmps29
    go_wp2_with (go_at_call 56; refine (hmine.out _ (by exact hc1.out)).mono ?_; rintro e w' ⟨rfl, rfl⟩)
    refine (ONew_ok _ o1 (0 :: (id + 1) :: t) 0 (by omega)).mono ?_
    rintro e w2 ⟨ko, o2, rfl, hch2, hrep2⟩
    have sat2 := sat1.chg hch2 (off_nil _)
    have sc2 := sat2.cells
    have sf2 := sat2.free
    have sat3 := sat2.set 0 (.pointer (some ⟨ko, 0, none⟩))
    have hch3 := ((hch1.trans hch2).setCell (p := ⟨w.heap.size + 1, 0, none⟩) (.pointer (some ⟨ko, 0, none⟩)) (.inl (Nat.le_succ _)))
    have hat3 := hat.chg hch3 (off_nil _)
    have hc3 := Lib.hid ((hat3.cells 0).trans (show (T.cells bm)[0]? = some (Value.bool T.client) from rfl))
    have hcc3 := hat3.cells
    unfold Tb.cells at hcc3
    have out3 : OutOpt _ o2 (0 :: (id + 1) :: t) (some ko) (some ⟨[], [], false, 0, 0⟩) := OutOpt.store (p := ⟨w.heap.size + 1, 0, none⟩) (h := (show OutOpt w2 o2 (0 :: (id + 1) :: t) (some ko) (some ⟨[], [], false, 0, 0⟩) from hrep2)) sat2.2 (.pointer (some ⟨ko, 0, none⟩))
    have tell3 := (tell1.chg hch2 (off_nil _)).far (p := ⟨w.heap.size + 1, 0, none⟩) (by rw [sat2.2]; exact tag_ne _ _) (.pointer (some ⟨ko, 0, none⟩))
    go_wp2_with (go_at_call 56; refine (hmine.out _ (by exact hc3.out)).mono ?_; rintro e w' ⟨rfl, rfl⟩)
    refine (RNew_ok o2 (1 :: (id + 1) :: t) T.own.stream hs100).mono ?_
    rintro e w4 ⟨ki, o4, rfl, _, hch4, hrep4⟩
    have sat4 := sat3.chg hch4 (off_nil _)
    have sc4 := sat4.cells
    have sf4 := sat4.free
    have sat5 := sat4.set 1 (.pointer (some ⟨ki, 0, none⟩))
    have hch5 := ((hch3.trans hch4).setCell (p := ⟨w.heap.size + 1, 1, none⟩) (.pointer (some ⟨ki, 0, none⟩)) (.inl (Nat.le_succ _)))
    have hat5 := hat.chg hch5 (off_nil _)
    have hcc5 := hat5.cells
    unfold Tb.cells at hcc5
    have in5 : InOpt _ o4 (1 :: (id + 1) :: t) (some ki) (some (In.new T.own.stream)) := InOpt.store (p := ⟨w.heap.size + 1, 1, none⟩) (h := (show InOpt w4 o4 (1 :: (id + 1) :: t) (some ki) (some (In.new T.own.stream)) from hrep4)) sat4.2 (.pointer (some ⟨ki, 0, none⟩))
    have out5 : OutOpt _ o4 (0 :: (id + 1) :: t) (some ko) (some ⟨[], [], false, 0, 0⟩) := OutOpt.store (p := ⟨w.heap.size + 1, 1, none⟩) (h := out3.chg hch4 fun _ _ => off_nil _) sat4.2 (.pointer (some ⟨ki, 0, none⟩))
    have tell5 := (tell3.chg hch4 (off_nil _)).far (p := ⟨w.heap.size + 1, 1, none⟩) (by rw [sat4.2]; exact tag_ne _ _) (.pointer (some ⟨ki, 0, none⟩))
    obtain ⟨ob, hup, hfin⟩ := makeEnd H.out hid hch5 ⟨fresh_wf T id hwf, some ko, some ki, w.heap.size, by rw [Hfr.out]; exact sat5, by rw [Hfr.out]; exact out5, by rw [Hfr.out]; exact in5, by rw [Hfr.out]; exact tell5⟩
    have Hfin := Lib.hid hfin
    clear hfin tell5 in5 out5 hat5 hch5 sat5 hrep4 hch4 tell3 out3 hat3 hch3 sat3 hrep2 hch2
    go_wp2
    go_ret
    exact Hfin.out

theorem make_ok {w : World} {o : Own} {t : Tag} {k bm : Nat} {blk : Nat → Nat} {T : Tb} (h : TbAt w o t k bm blk T) (id : Nat) (hid : id < 18446744073709551616) :
    Calls Tryz.prog 29 #[ptr k, .int .u64 id] w fun e w' => MakePost w o t k bm blk T id e w' := by
  rcases Nat.mod_two_eq_zero_or_one (id / 2) with h2 | h2
  · exact make_both h id hid _ rfl h2
  · cases h1 : T.mine id with
    | true => exact make_out h id hid h1 h2
    | false => exact make_in h id hid h1 h2
end Go.Proofs.YthliihmhkhabeaaGreatDoor
/- The streams' table, VI: a store into the table's own block; Open. No condition. -/
namespace Go.Proofs.YthliihmhkhabeaaGreatDoor
open Go Go.RowKit

theorem longer {u q t : Tag} (hu : t.length < u.length) (hq : u <:+ q) : t ≠ q := fun e => by have := hq.length_le; rw [← e] at this; omega
theorem OutOpt.store' {w : World} {o : Own} {u : Tag} {ko : Option Nat} {O : Option Out} (h : OutOpt w o u ko O) {p : Addr} (hp : (o p.block).length < u.length) (x : Value) : OutOpt (w.setCell p x) o u ko O := by
  cases ko <;> cases O <;> simp only [OutOpt] at h ⊢
  obtain ⟨hw, vb, vs, h1, h2, h3⟩ := h
  exact ⟨hw, vb, vs, h1.far (by rintro e; exact longer hp (List.suffix_refl _) (by rw [← h1.2, e])) x, h2.far (longer hp (List.suffix_cons _ _)) x, h3.far (longer hp (List.suffix_cons _ _)) x⟩
theorem InOpt.store' {w : World} {o : Own} {u : Tag} {ki : Option Nat} {I : Option In} (h : InOpt w o u ki I) {p : Addr} (hp : (o p.block).length < u.length) (x : Value) : InOpt (w.setCell p x) o u ki I := by
  cases ki <;> cases I <;> simp only [InOpt] at h ⊢
  obtain ⟨hw, bm, h1, h2⟩ := h
  exact ⟨hw, bm, h1.far (by rintro e; exact longer hp (List.suffix_refl _) (by rw [← h1.2, e])) x, h2.far (longer hp (List.suffix_cons _ _)) x⟩
theorem StRep.store' {w : World} {o : Own} {u : Tag} {k : Nat} {s : St} (h : StRep w o u k s) {p : Addr} (hp : (o p.block).length < u.length) (x : Value) : StRep (w.setCell p x) o u k s := by
  obtain ⟨hw, ko, ki, bm, h1, h2, h3, h4⟩ := h
  exact ⟨hw, ko, ki, bm, h1.far (by rintro e; exact longer hp (List.suffix_refl _) (by rw [← h1.2, e])) x, h2.store' (by simp; omega) x, h3.store' (by simp; omega) x, h4.far (longer hp (List.suffix_cons _ _)) x⟩
theorem TbAt.store {w : World} {o : Own} {t : Tag} {k bm : Nat} {blk : Nat → Nat} {T T' : Tb} (h : TbAt w o t k bm blk T) (hw : T'.Wf) (hm : T'.m = T.m) (i : Nat) (x : Value) (hc : (T.cells bm).setIfInBounds i x = T'.cells bm) : TbAt (w.setCell ⟨k, i, none⟩ x) o t k bm blk T' := by
  obtain ⟨_, hat, hmap, hss⟩ := h
  refine ⟨hw, by rw [← hc]; exact hat.set i x, by rw [hm]; exact hmap.far (by rw [hat.2]; exact tag_ne t 0) x, by rw [hm]; exact fun p hp => (hss p hp).store' (by rw [hat.2]; simp) x⟩
theorem TbAt.drewN {w : World} {o : Own} {t : Tag} {k bm : Nat} {blk : Nat → Nat} {T : Tb} (h : TbAt w o t k bm blk T) (n : Nat) : TbAt (w.drewN n) o t k bm blk T := h.chg ((Chg.refl [] w o).drewN n) fun _ _ => off_nil _

def Tb.kind (T : Tb) (one : Bool) : Nat := 2 * bitN one + bitN (!T.client)
def Tb.opened (T : Tb) : Nat → Nat
  | 0 => T.op0
  | 1 => T.op1
  | 2 => T.op2
  | _ => T.op3
def Tb.lim (T : Tb) (one : Bool) : Nat := if one then T.lim1 else T.lim0
def Tb.bump (T : Tb) : Nat → Tb
  | 0 => { T with op0 := T.op0 + 1 }
  | 1 => { T with op1 := T.op1 + 1 }
  | 2 => { T with op2 := T.op2 + 1 }
  | _ => { T with op3 := T.op3 + 1 }
def Tb.open_ (T : Tb) (one : Bool) : (Nat × Nat) × Tb :=
  if T.lim one ≤ T.opened (T.kind one) then ((0, 5), T)
  else ((4 * T.opened (T.kind one) + T.kind one, 0), (T.bump (T.kind one)).make (4 * T.opened (T.kind one) + T.kind one))

def OpenPost (w : World) (o : Own) (t : Tag) (k : Nat) (r : (Nat × Nat) × Tb) (e : Ending) (w' : World) : Prop :=
  ∃ o', e = .returned (.tuple #[.int .u64 r.1.1, .int .i64 r.1.2]) ∧ TbRep w' o' t k r.2 ∧ Chg [t] w o w' o'

theorem below_t {t : Tag} {n m : Nat} : ∀ u, off [t] u → off [n :: t, m :: t] u := fun u hu r hr => by
  rw [off_one] at hu
  simp at hr
  rcases hr with rfl | rfl
  · exact fun h => hu ((List.suffix_cons _ _).trans h)
  · exact fun h => hu ((List.suffix_cons _ _).trans h)

theorem sbitT {n : Nat} (w : World) : Calls Tryz.prog 28 #[.bool true] (w.drewN n) fun e w'' => e = .returned (.int .u64 1) ∧ ∃ m, w'' = w.drewN m := Calls.quiet_of_same ((sbit_ok true).mono fun _ _ ⟨h1, h2⟩ => ⟨h1, h2.symm⟩)
theorem sbitF {n : Nat} (w : World) : Calls Tryz.prog 28 #[.bool false] (w.drewN n) fun e w'' => e = .returned (.int .u64 0) ∧ ∃ m, w'' = w.drewN m := Calls.quiet_of_same ((sbit_ok false).mono fun _ _ ⟨h1, h2⟩ => ⟨h1, h2.symm⟩)

set_option maxRecDepth 100000 in
theorem Open_full {w : World} {o : Own} {t : Tag} {k : Nat} {T : Tb} (h : TbRep w o t k T) (one : Bool) (hf : T.lim one ≤ T.opened (T.kind one)) :
    Calls Tryz.prog 11 #[ptr k, .bool one] w fun e w' => e = .returned (.tuple #[.int .u64 0, .int .i64 5]) ∧ ∃ n, w' = w.drewN n := by
  obtain ⟨bm, blk, hw, hat, hmap, hss⟩ := h
  have hc := hat.cells
  unfold Tb.cells at hc
  have hbT := Lib.hid fun (n : Nat) (w : World) => sbitT (n := n) w
  have hbF := Lib.hid fun (n : Nat) (w : World) => sbitF (n := n) w
  have h0 := hw.l0; have h1 := hw.l1; have h2 := hw.o0; have h3 := hw.o1; have h4 := hw.o2; have h5 := hw.o3
  unfold Tb.kind bitN at hf
  unfold ptr
  cases hcl : T.client <;> cases one <;> rw [hcl] at hc hf <;> simp only [Tb.lim, Tb.opened] at hf
  all_goals simp at hf
  all_goals
    go_enter Tryz.func11, Tryz.ntmps11
    go_wp2
    go_quiet ((go_at_call 28; first | exact hbT.out _ _ | exact hbF.out _ _))
    go_wp2
    have hcW : ∀ i, (w.drewN nq).cell? ⟨k, i, none⟩ = _ := hc
    generalize hW : w.drewN nq = W at hcW ⊢
    have HW := Lib.hid hW; clear hW
    go_quiet ((go_at_call 28; first | exact hbT.out _ _ | exact hbF.out _ _))
    go_wp2
    go_ret2
    exact ⟨rfl, _, by rw [← HW.out, World.drewN_drewN]⟩
set_option maxRecDepth 100000 in
theorem Open_0 {w : World} {o : Own} {t : Tag} {k : Nat} {T : Tb} (h : TbRep w o t k T) (hcl : T.client = true) (hf : T.op0 < T.lim0) :
    Calls Tryz.prog 11 #[ptr k, .bool false] w fun e w' => OpenPost w o t k ((4 * T.op0 + 0, 0), ({ T with op0 := T.op0 + 1 } : Tb).make (4 * T.op0 + 0)) e w' := by
  obtain ⟨bm, blk, h⟩ := h
  have H := Lib.hid h
  obtain ⟨hw, hat, hmap, hss⟩ := h
  have hc := hat.cells
  have hfr := hat.free
  unfold Tb.cells at hc
  have hbT := Lib.hid fun (n : Nat) (w : World) => sbitT (n := n) w
  have hbF := Lib.hid fun (n : Nat) (w : World) => sbitF (n := n) w
  have h0 := hw.l0; have h1 := hw.l1; have h2 := hw.o0; have h3 := hw.o1; have h4 := hw.o2; have h5 := hw.o3
  have hw2 : ({ T with op0 := T.op0 + 1 } : Tb).Wf := { hw with o0 := hf }
  have hst : RowKit.Hid (∀ W, TbAt W o t k bm blk T → TbAt (W.setCell ⟨k, 23, none⟩ (.int .u64 ((T.op0 : Int) + 1))) o t k bm blk { T with op0 := T.op0 + 1 }) := fun W hW => hW.store hw2 rfl 23 _ rfl
  have hmk : RowKit.Hid (∀ W, TbAt W o t k bm blk { T with op0 := T.op0 + 1 } → Calls Tryz.prog 29 #[ptr k, .int .u64 (4 * (T.op0 : Int) + 0)] W fun e w' => MakePost W o t k bm blk { T with op0 := T.op0 + 1 } (4 * T.op0 + 0) e w') := fun W hW => by
    have := make_ok hW (4 * T.op0 + 0) (by omega)
    have e : (((4 * T.op0 + 0 : Nat)) : Int) = 4 * (T.op0 : Int) + 0 := by omega
    rwa [e] at this
  unfold ptr at hmk ⊢
  have hf' : (T.op0 : Int) < T.lim0 := by omega
  have h40 : (T.op0 : Int) ≤ 40 := by omega
  rw [hcl] at hc
  clear h0 h1 h2 h3 h4 h5 hf hmap hss hw hw2
  go_enter Tryz.func11, Tryz.ntmps11
  go_wp2
  go_quiet ((go_at_call 28; first | exact hbT.out _ _ | exact hbF.out _ _))
  go_wp2
  have hcW : ∀ i, (w.drewN nq).cell? ⟨k, i, none⟩ = _ := hc
  have hfW : ∀ i, (w.drewN nq).frozen? ⟨k, i, none⟩ = false := hfr
  have HW : RowKit.Hid (TbAt (w.drewN nq) o t k bm blk T ∧ Chg [t] w o (w.drewN nq) o) := ⟨H.out.drewN nq, (Chg.refl _ _ _).drewN nq⟩
  generalize w.drewN nq = W at hcW hfW HW ⊢
  go_quiet ((go_at_call 28; first | exact hbT.out _ _ | exact hbF.out _ _))
  go_wp2
  have hcV : ∀ i, (W.drewN nq).cell? ⟨k, i, none⟩ = _ := hcW
  have hfV : ∀ i, (W.drewN nq).frozen? ⟨k, i, none⟩ = false := hfW
  have HV : RowKit.Hid (TbAt (W.drewN nq) o t k bm blk T ∧ Chg [t] w o (W.drewN nq) o) := ⟨HW.out.1.drewN nq, HW.out.2.drewN nq⟩
  generalize W.drewN nq = V at hcV hfV HV ⊢
  refine wp_region_still_tail 10 (by kernel_rfl) (by kernel_rfl) ?_
  simp only [List.take_succ_cons, List.take_zero, List.drop_succ_cons, List.drop_zero]
  repeat still_step
  refine wpStill_nil ?_
  go_wp2_with (go_at_call 29; refine (hmk.out _ (hst.out _ (HV.out.1.drewN 1))).mono ?_; rintro e w' ⟨ks, o', rfl, hT, hch⟩)
  go_ret2
  refine ⟨o', ?_, ⟨bm, _, hT⟩, ((HV.out.2.drewN 1).setCell _ (.inr ?_)).trans (hch.mono below_t)⟩
  · congr 3
  · rw [hat.2]; exact on_self t
set_option maxRecDepth 100000 in
theorem Open_1 {w : World} {o : Own} {t : Tag} {k : Nat} {T : Tb} (h : TbRep w o t k T) (hcl : T.client = false) (hf : T.op1 < T.lim0) :
    Calls Tryz.prog 11 #[ptr k, .bool false] w fun e w' => OpenPost w o t k ((4 * T.op1 + 1, 0), ({ T with op1 := T.op1 + 1 } : Tb).make (4 * T.op1 + 1)) e w' := by
  obtain ⟨bm, blk, h⟩ := h
  have H := Lib.hid h
  obtain ⟨hw, hat, hmap, hss⟩ := h
  have hc := hat.cells
  have hfr := hat.free
  unfold Tb.cells at hc
  have hbT := Lib.hid fun (n : Nat) (w : World) => sbitT (n := n) w
  have hbF := Lib.hid fun (n : Nat) (w : World) => sbitF (n := n) w
  have h0 := hw.l0; have h1 := hw.l1; have h2 := hw.o0; have h3 := hw.o1; have h4 := hw.o2; have h5 := hw.o3
  have hw2 : ({ T with op1 := T.op1 + 1 } : Tb).Wf := { hw with o1 := hf }
  have hst : RowKit.Hid (∀ W, TbAt W o t k bm blk T → TbAt (W.setCell ⟨k, 24, none⟩ (.int .u64 ((T.op1 : Int) + 1))) o t k bm blk { T with op1 := T.op1 + 1 }) := fun W hW => hW.store hw2 rfl 24 _ rfl
  have hmk : RowKit.Hid (∀ W, TbAt W o t k bm blk { T with op1 := T.op1 + 1 } → Calls Tryz.prog 29 #[ptr k, .int .u64 (4 * (T.op1 : Int) + 1)] W fun e w' => MakePost W o t k bm blk { T with op1 := T.op1 + 1 } (4 * T.op1 + 1) e w') := fun W hW => by
    have := make_ok hW (4 * T.op1 + 1) (by omega)
    have e : (((4 * T.op1 + 1 : Nat)) : Int) = 4 * (T.op1 : Int) + 1 := by omega
    rwa [e] at this
  unfold ptr at hmk ⊢
  have hf' : (T.op1 : Int) < T.lim0 := by omega
  have h40 : (T.op1 : Int) ≤ 40 := by omega
  rw [hcl] at hc
  clear h0 h1 h2 h3 h4 h5 hf hmap hss hw hw2
  go_enter Tryz.func11, Tryz.ntmps11
  go_wp2
  go_quiet ((go_at_call 28; first | exact hbT.out _ _ | exact hbF.out _ _))
  go_wp2
  have hcW : ∀ i, (w.drewN nq).cell? ⟨k, i, none⟩ = _ := hc
  have hfW : ∀ i, (w.drewN nq).frozen? ⟨k, i, none⟩ = false := hfr
  have HW : RowKit.Hid (TbAt (w.drewN nq) o t k bm blk T ∧ Chg [t] w o (w.drewN nq) o) := ⟨H.out.drewN nq, (Chg.refl _ _ _).drewN nq⟩
  generalize w.drewN nq = W at hcW hfW HW ⊢
  go_quiet ((go_at_call 28; first | exact hbT.out _ _ | exact hbF.out _ _))
  go_wp2
  have hcV : ∀ i, (W.drewN nq).cell? ⟨k, i, none⟩ = _ := hcW
  have hfV : ∀ i, (W.drewN nq).frozen? ⟨k, i, none⟩ = false := hfW
  have HV : RowKit.Hid (TbAt (W.drewN nq) o t k bm blk T ∧ Chg [t] w o (W.drewN nq) o) := ⟨HW.out.1.drewN nq, HW.out.2.drewN nq⟩
  generalize W.drewN nq = V at hcV hfV HV ⊢
  refine wp_region_still_tail 10 (by kernel_rfl) (by kernel_rfl) ?_
  simp only [List.take_succ_cons, List.take_zero, List.drop_succ_cons, List.drop_zero]
  repeat still_step
  refine wpStill_nil ?_
  go_wp2_with (go_at_call 29; refine (hmk.out _ (hst.out _ (HV.out.1.drewN 1))).mono ?_; rintro e w' ⟨ks, o', rfl, hT, hch⟩)
  go_ret2
  refine ⟨o', ?_, ⟨bm, _, hT⟩, ((HV.out.2.drewN 1).setCell _ (.inr ?_)).trans (hch.mono below_t)⟩
  · congr 3
  · rw [hat.2]; exact on_self t
set_option maxRecDepth 100000 in
theorem Open_2 {w : World} {o : Own} {t : Tag} {k : Nat} {T : Tb} (h : TbRep w o t k T) (hcl : T.client = true) (hf : T.op2 < T.lim1) :
    Calls Tryz.prog 11 #[ptr k, .bool true] w fun e w' => OpenPost w o t k ((4 * T.op2 + 2, 0), ({ T with op2 := T.op2 + 1 } : Tb).make (4 * T.op2 + 2)) e w' := by
  obtain ⟨bm, blk, h⟩ := h
  have H := Lib.hid h
  obtain ⟨hw, hat, hmap, hss⟩ := h
  have hc := hat.cells
  have hfr := hat.free
  unfold Tb.cells at hc
  have hbT := Lib.hid fun (n : Nat) (w : World) => sbitT (n := n) w
  have hbF := Lib.hid fun (n : Nat) (w : World) => sbitF (n := n) w
  have h0 := hw.l0; have h1 := hw.l1; have h2 := hw.o0; have h3 := hw.o1; have h4 := hw.o2; have h5 := hw.o3
  have hw2 : ({ T with op2 := T.op2 + 1 } : Tb).Wf := { hw with o2 := hf }
  have hst : RowKit.Hid (∀ W, TbAt W o t k bm blk T → TbAt (W.setCell ⟨k, 25, none⟩ (.int .u64 ((T.op2 : Int) + 1))) o t k bm blk { T with op2 := T.op2 + 1 }) := fun W hW => hW.store hw2 rfl 25 _ rfl
  have hmk : RowKit.Hid (∀ W, TbAt W o t k bm blk { T with op2 := T.op2 + 1 } → Calls Tryz.prog 29 #[ptr k, .int .u64 (4 * (T.op2 : Int) + 2)] W fun e w' => MakePost W o t k bm blk { T with op2 := T.op2 + 1 } (4 * T.op2 + 2) e w') := fun W hW => by
    have := make_ok hW (4 * T.op2 + 2) (by omega)
    have e : (((4 * T.op2 + 2 : Nat)) : Int) = 4 * (T.op2 : Int) + 2 := by omega
    rwa [e] at this
  unfold ptr at hmk ⊢
  have hf' : (T.op2 : Int) < T.lim1 := by omega
  have h40 : (T.op2 : Int) ≤ 40 := by omega
  rw [hcl] at hc
  clear h0 h1 h2 h3 h4 h5 hf hmap hss hw hw2
  go_enter Tryz.func11, Tryz.ntmps11
  go_wp2
  go_quiet ((go_at_call 28; first | exact hbT.out _ _ | exact hbF.out _ _))
  go_wp2
  have hcW : ∀ i, (w.drewN nq).cell? ⟨k, i, none⟩ = _ := hc
  have hfW : ∀ i, (w.drewN nq).frozen? ⟨k, i, none⟩ = false := hfr
  have HW : RowKit.Hid (TbAt (w.drewN nq) o t k bm blk T ∧ Chg [t] w o (w.drewN nq) o) := ⟨H.out.drewN nq, (Chg.refl _ _ _).drewN nq⟩
  generalize w.drewN nq = W at hcW hfW HW ⊢
  go_quiet ((go_at_call 28; first | exact hbT.out _ _ | exact hbF.out _ _))
  go_wp2
  have hcV : ∀ i, (W.drewN nq).cell? ⟨k, i, none⟩ = _ := hcW
  have hfV : ∀ i, (W.drewN nq).frozen? ⟨k, i, none⟩ = false := hfW
  have HV : RowKit.Hid (TbAt (W.drewN nq) o t k bm blk T ∧ Chg [t] w o (W.drewN nq) o) := ⟨HW.out.1.drewN nq, HW.out.2.drewN nq⟩
  generalize W.drewN nq = V at hcV hfV HV ⊢
  refine wp_region_still_tail 10 (by kernel_rfl) (by kernel_rfl) ?_
  simp only [List.take_succ_cons, List.take_zero, List.drop_succ_cons, List.drop_zero]
  repeat still_step
  refine wpStill_nil ?_
  go_wp2_with (go_at_call 29; refine (hmk.out _ (hst.out _ (HV.out.1.drewN 1))).mono ?_; rintro e w' ⟨ks, o', rfl, hT, hch⟩)
  go_ret2
  refine ⟨o', ?_, ⟨bm, _, hT⟩, ((HV.out.2.drewN 1).setCell _ (.inr ?_)).trans (hch.mono below_t)⟩
  · congr 3
  · rw [hat.2]; exact on_self t
set_option maxRecDepth 100000 in
theorem Open_3 {w : World} {o : Own} {t : Tag} {k : Nat} {T : Tb} (h : TbRep w o t k T) (hcl : T.client = false) (hf : T.op3 < T.lim1) :
    Calls Tryz.prog 11 #[ptr k, .bool true] w fun e w' => OpenPost w o t k ((4 * T.op3 + 3, 0), ({ T with op3 := T.op3 + 1 } : Tb).make (4 * T.op3 + 3)) e w' := by
  obtain ⟨bm, blk, h⟩ := h
  have H := Lib.hid h
  obtain ⟨hw, hat, hmap, hss⟩ := h
  have hc := hat.cells
  have hfr := hat.free
  unfold Tb.cells at hc
  have hbT := Lib.hid fun (n : Nat) (w : World) => sbitT (n := n) w
  have hbF := Lib.hid fun (n : Nat) (w : World) => sbitF (n := n) w
  have h0 := hw.l0; have h1 := hw.l1; have h2 := hw.o0; have h3 := hw.o1; have h4 := hw.o2; have h5 := hw.o3
  have hw2 : ({ T with op3 := T.op3 + 1 } : Tb).Wf := { hw with o3 := hf }
  have hst : RowKit.Hid (∀ W, TbAt W o t k bm blk T → TbAt (W.setCell ⟨k, 26, none⟩ (.int .u64 ((T.op3 : Int) + 1))) o t k bm blk { T with op3 := T.op3 + 1 }) := fun W hW => hW.store hw2 rfl 26 _ rfl
  have hmk : RowKit.Hid (∀ W, TbAt W o t k bm blk { T with op3 := T.op3 + 1 } → Calls Tryz.prog 29 #[ptr k, .int .u64 (4 * (T.op3 : Int) + 3)] W fun e w' => MakePost W o t k bm blk { T with op3 := T.op3 + 1 } (4 * T.op3 + 3) e w') := fun W hW => by
    have := make_ok hW (4 * T.op3 + 3) (by omega)
    have e : (((4 * T.op3 + 3 : Nat)) : Int) = 4 * (T.op3 : Int) + 3 := by omega
    rwa [e] at this
  unfold ptr at hmk ⊢
  have hf' : (T.op3 : Int) < T.lim1 := by omega
  have h40 : (T.op3 : Int) ≤ 40 := by omega
  rw [hcl] at hc
  clear h0 h1 h2 h3 h4 h5 hf hmap hss hw hw2
  go_enter Tryz.func11, Tryz.ntmps11
  go_wp2
  go_quiet ((go_at_call 28; first | exact hbT.out _ _ | exact hbF.out _ _))
  go_wp2
  have hcW : ∀ i, (w.drewN nq).cell? ⟨k, i, none⟩ = _ := hc
  have hfW : ∀ i, (w.drewN nq).frozen? ⟨k, i, none⟩ = false := hfr
  have HW : RowKit.Hid (TbAt (w.drewN nq) o t k bm blk T ∧ Chg [t] w o (w.drewN nq) o) := ⟨H.out.drewN nq, (Chg.refl _ _ _).drewN nq⟩
  generalize w.drewN nq = W at hcW hfW HW ⊢
  go_quiet ((go_at_call 28; first | exact hbT.out _ _ | exact hbF.out _ _))
  go_wp2
  have hcV : ∀ i, (W.drewN nq).cell? ⟨k, i, none⟩ = _ := hcW
  have hfV : ∀ i, (W.drewN nq).frozen? ⟨k, i, none⟩ = false := hfW
  have HV : RowKit.Hid (TbAt (W.drewN nq) o t k bm blk T ∧ Chg [t] w o (W.drewN nq) o) := ⟨HW.out.1.drewN nq, HW.out.2.drewN nq⟩
  generalize W.drewN nq = V at hcV hfV HV ⊢
  refine wp_region_still_tail 10 (by kernel_rfl) (by kernel_rfl) ?_
  simp only [List.take_succ_cons, List.take_zero, List.drop_succ_cons, List.drop_zero]
  repeat still_step
  refine wpStill_nil ?_
  go_wp2_with (go_at_call 29; refine (hmk.out _ (hst.out _ (HV.out.1.drewN 1))).mono ?_; rintro e w' ⟨ks, o', rfl, hT, hch⟩)
  go_ret2
  refine ⟨o', ?_, ⟨bm, _, hT⟩, ((HV.out.2.drewN 1).setCell _ (.inr ?_)).trans (hch.mono below_t)⟩
  · congr 3
  · rw [hat.2]; exact on_self t
theorem Open_ok {w : World} {o : Own} {t : Tag} {k : Nat} {T : Tb} (h : TbRep w o t k T) (one : Bool) :
    Calls Tryz.prog 11 #[ptr k, .bool one] w fun e w' => OpenPost w o t k (T.open_ one) e w' := by
  unfold Tb.open_
  by_cases hf : T.lim one ≤ T.opened (T.kind one)
  · rw [if_pos hf]
    refine (Open_full h one hf).mono ?_
    rintro e w' ⟨rfl, n, rfl⟩
    exact ⟨o, rfl, h.chg ((Chg.refl [] w o).drewN n) fun _ _ => off_nil _, (Chg.refl _ _ _).drewN n⟩
  · rw [if_neg hf]
    cases hcl : T.client <;> cases one <;> simp only [Tb.lim, Tb.kind, bitN, hcl, Tb.opened, Tb.bump, Bool.not_true, Bool.not_false, if_true, if_false, Nat.mul_zero, Nat.mul_one, Nat.add_zero, Nat.zero_add, Bool.false_eq_true] at hf ⊢
    · have q := Open_1 h hcl (by omega)
      simp only [hcl] at q
      exact q
    · have q := Open_3 h hcl (by omega)
      simp only [hcl] at q
      exact q
    · have q := Open_0 h hcl (by omega)
      simp only [hcl] at q
      exact q
    · have q := Open_2 h hcl (by omega)
      simp only [hcl] at q
      exact q
end Go.Proofs.YthliihmhkhabeaaGreatDoor
/- The streams' table, VII: a stream looked up; outPart, inPart; a stream turned. No condition. -/
namespace Go.Proofs.YthliihmhkhabeaaGreatDoor
open Go Go.RowKit

theorem mem_of_mget {α : Type} : ∀ {m : List (Nat × α)} {id : Nat} {s : α}, mget m id = some s → (id, s) ∈ m
  | [], id, s, h => by cases h
  | p :: m, id, s, h => by
    unfold mget at h
    by_cases hp : p.1 = id
    · rw [if_pos hp] at h; injection h with h; subst h; subst hp; exact List.mem_cons_self
    · rw [if_neg hp] at h; exact List.mem_cons_of_mem _ (mem_of_mget h)

def Tb.blkOf (T : Tb) (blk : Nat → Nat) (id : Nat) : Value := optPtr ((mget T.m id).map fun _ => blk id)

theorem TbAt.look {w : World} {o : Own} {t : Tag} {k bm : Nat} {blk : Nat → Nat} {T : Tb} (h : TbAt w o t k bm blk T) (id : Nat) :
    (Instr.lookup 72 (.map (some bm)) (.int .u64 id) false).run Tryz.prog w = .ok (T.blkOf blk id) w := by
  have hm := h.2.2.1
  rw [stKV_blks] at hm
  have := run_lookup (P := Tryz.prog) (V := ptr) (PlainKey.int Tryz.underlying26) Tryz.underlying72 (z := .pointer none) (fun w => by simp [Tryz.zeroValue76]) hm id false
  rw [mget_blks] at this
  unfold Tb.blkOf
  cases hg : mget T.m id with
  | none => rw [hg] at this; exact this
  | some s => rw [hg] at this; exact this

theorem TbAt.st {w : World} {o : Own} {t : Tag} {k bm : Nat} {blk : Nat → Nat} {T : Tb} (h : TbAt w o t k bm blk T) {id : Nat} {s : St} (hs : mget T.m id = some s) : StRep w o ((id + 1) :: t) (blk id) s := h.2.2.2 _ (mem_of_mget hs)

theorem mset_map_fst {α : Type} (m : List (Nat × α)) {id : Nat} {s : α} (s' : α) (hs : mget m id = some s) : (mset m id s').map (·.1) = m.map (·.1) := by
  rw [mset_keys, if_pos]
  exact List.mem_map.2 ⟨(id, s), mem_of_mget hs, rfl⟩

/-- One stream's parts were turned. -/
theorem TbAt.turn {w w' : World} {o o' : Own} {t : Tag} {k bm : Nat} {blk : Nat → Nat} {T : Tb} {id : Nat} {s s' : St} (h : TbAt w o t k bm blk T) (hs : mget T.m id = some s) (hch : Chg [(id + 1) :: t] w o w' o') (hst : StRep w' o' ((id + 1) :: t) (blk id) s') :
    TbAt w' o' t k bm blk { T with m := mset T.m id s' } ∧ Chg [t] w o w' o' := by
  obtain ⟨hw, hat, hmap, hss⟩ := h
  have hk := mset_map_fst T.m s' hs
  refine ⟨⟨{ hw with nd := by rw [hk]; exact hw.nd, id64 := ?_ }, hat.chg hch (off_child _ _), ?_, ?_⟩, hch.up (List.suffix_cons _ _)⟩
  · intro p hp
    rcases mem_mset hw.nd hp with rfl | ⟨hp, _⟩
    · exact hw.id64 (id, s) (mem_of_mget hs)
    · exact hw.id64 p hp
  · have e : stKV blk (mset T.m id s') = stKV blk T.m := by
      have h1 : ∀ m : List (Nat × St), stKV blk m = (m.map (·.1)).map fun i => (natKey .u64 i, ptr (blk i)) := fun m => by simp [stKV]
      rw [h1, h1, hk]
    simp only
    rw [e]
    exact hmap.chg hch (off_sib _ (by omega))
  · intro p hp
    rcases mem_mset hw.nd hp with rfl | ⟨hp, hne⟩
    · exact hst
    · exact (hss p hp).chg hch fun u hu => off_deep (by omega) hu

def St.outErr (s : St) : Nat := if s.out.isNone then 6 else if s.reset then 8 else 0
def Tb.outErr (T : Tb) (id : Nat) : Nat := match mget T.m id with
  | none => 6
  | some s => s.outErr
def St.inErr (s : St) : Nat := if s.inn.isNone then 6 else if s.over then 8 else 0
def Tb.inErr (T : Tb) (id : Nat) : Nat := match mget T.m id with
  | none => 6
  | some s => s.inErr

set_option maxRecDepth 100000 in
theorem outPart_ok {w : World} {o : Own} {t : Tag} {k bm : Nat} {blk : Nat → Nat} {T : Tb} (h : TbAt w o t k bm blk T) (id : Nat) :
    Calls Tryz.prog 32 #[ptr k, .int .u64 id] w fun e w' => e = .returned (.tuple #[if T.outErr id = 0 then ptr (blk id) else .pointer none, .int .i64 (T.outErr id)]) ∧ w = w' := by
  have hl := h.look id
  have hat := h.2.1
  have hc := hat.cells
  unfold Tb.cells at hc
  unfold Tb.blkOf optPtr at hl
  unfold Tb.outErr ptr
  cases hs : mget T.m id with
  | none =>
    rw [hs] at hl
    simp only [Option.map_none] at hl
    clear hs
    go_enter Tryz.func32, Tryz.ntmps32
    go_wp2
    go_ret2
    exact ⟨rfl, rfl⟩
  | some s =>
    obtain ⟨hw, ko, ki, bt, hst, ho, hi, ht⟩ := h.st hs
    have hcs := hst.cells
    rw [hs] at hl
    simp only [Option.map_some, ptr] at hl
    clear hs hi ht
    cases ko with
    | none =>
      cases hso : s.out with
      | some O => rw [hso] at ho; exact ho.elim
      | none =>
        simp only [optPtr] at hcs
        have he : s.outErr = 6 := by unfold St.outErr; rw [hso]; rfl
        simp only [he]
        clear he hso
        go_enter Tryz.func32, Tryz.ntmps32
        go_wp2
        go_ret2
        exact ⟨rfl, rfl⟩
    | some ko =>
      cases hso : s.out with
      | none => rw [hso] at ho; exact ho.elim
      | some O =>
        simp only [optPtr, ptr] at hcs
        have he : s.outErr = if s.reset then 8 else 0 := by unfold St.outErr; rw [hso]; rfl
        simp only [he]
        clear ho hso he
        cases hr : s.reset with
        | true =>
          rw [hr] at hcs
          simp only [if_true, Nat.reduceEqDiff, if_false]
          go_enter Tryz.func32, Tryz.ntmps32
          go_wp2
          go_ret2
          exact ⟨rfl, rfl⟩
        | false =>
          rw [hr] at hcs
          simp only [Bool.false_eq_true, if_false, if_true]
          go_enter Tryz.func32, Tryz.ntmps32
          go_wp2
          go_ret2
          exact ⟨rfl, rfl⟩
set_option maxRecDepth 100000 in
theorem inPart_ok {w : World} {o : Own} {t : Tag} {k bm : Nat} {blk : Nat → Nat} {T : Tb} (h : TbAt w o t k bm blk T) (id : Nat) :
    Calls Tryz.prog 48 #[ptr k, .int .u64 id] w fun e w' => e = .returned (.tuple #[if T.inErr id = 0 then ptr (blk id) else .pointer none, .int .i64 (T.inErr id)]) ∧ w = w' := by
  have hl := h.look id
  have hat := h.2.1
  have hc := hat.cells
  unfold Tb.cells at hc
  unfold Tb.blkOf optPtr at hl
  unfold Tb.inErr ptr
  cases hs : mget T.m id with
  | none =>
    rw [hs] at hl
    simp only [Option.map_none] at hl
    clear hs
    go_enter Tryz.func48, Tryz.ntmps48
    go_wp2
    go_ret2
    exact ⟨rfl, rfl⟩
  | some s =>
    obtain ⟨hw, ko, ki, bt, hst, ho, hi, ht⟩ := h.st hs
    have hcs := hst.cells
    rw [hs] at hl
    simp only [Option.map_some, ptr] at hl
    clear hs ho ht
    cases ki with
    | none =>
      cases hso : s.inn with
      | some O => rw [hso] at hi; exact hi.elim
      | none =>
        simp only [optPtr] at hcs
        have he : s.inErr = 6 := by unfold St.inErr; rw [hso]; rfl
        simp only [he]
        clear he hso
        go_enter Tryz.func48, Tryz.ntmps48
        go_wp2
        go_ret2
        exact ⟨rfl, rfl⟩
    | some ki =>
      cases hso : s.inn with
      | none => rw [hso] at hi; exact hi.elim
      | some O =>
        simp only [optPtr, ptr] at hcs
        have he : s.inErr = if s.over then 8 else 0 := by unfold St.inErr; rw [hso]; rfl
        simp only [he]
        clear hi hso he
        cases hr : s.over with
        | true =>
          rw [hr] at hcs
          simp only [if_true, Nat.reduceEqDiff, if_false]
          go_enter Tryz.func48, Tryz.ntmps48
          go_wp2
          go_ret2
          exact ⟨rfl, rfl⟩
        | false =>
          rw [hr] at hcs
          simp only [Bool.false_eq_true, if_false, if_true]
          go_enter Tryz.func48, Tryz.ntmps48
          go_wp2
          go_ret2
          exact ⟨rfl, rfl⟩
end Go.Proofs.YthliihmhkhabeaaGreatDoor
/- The streams' table, VIII: Write, Finish. No condition. -/
namespace Go.Proofs.YthliihmhkhabeaaGreatDoor
open Go Go.RowKit

def Tb.set (T : Tb) (id : Nat) (s : St) : Tb := { T with m := mset T.m id s }
def Tb.write (T : Tb) (id : Nat) (d : List Nat) : (Nat × Nat) × Tb := match mget T.m id with
  | none => ((0, 6), T)
  | some s => match s.out with
    | none => ((0, 6), T)
    | some O => if s.reset then ((0, 8), T) else if s.finished then ((0, 8), T) else (((O.write d).2, 0), T.set id { s with out := some (O.write d).1 })
def TWritePost (w : World) (o : Own) (t : Tag) (k : Nat) (r : (Nat × Nat) × Tb) (e : Ending) (w' : World) : Prop :=
  ∃ o', e = .returned (.tuple #[.int .i64 r.1.1, .int .i64 r.1.2]) ∧ TbRep w' o' t k r.2 ∧ Chg [t] w o w' o'

set_option maxRecDepth 100000 in
theorem TWrite_ok {w : World} {o : Own} {t s' : Tag} {k : Nat} {T : Tb} (h : TbRep w o t k T) (id : Nat) {v : Value} {d : List Nat} (hd : Sl w o s' v (d.map bv)) (hd8 : ∀ x ∈ d, x < 256) :
    Calls Tryz.prog 14 #[ptr k, .int .u64 id, v] w fun e w' => TWritePost w o t k (T.write id d) e w' := by
  obtain ⟨bm, blk, h⟩ := h
  have HO := Lib.hid (outPart_ok h id)
  have H := Lib.hid h
  unfold ptr at HO ⊢
  have hno : ∀ r : Nat, r ≠ 0 → T.outErr id = r → T.write id d = ((0, r), T) → Calls Tryz.prog 14 #[.pointer (some ⟨k, 0, none⟩), .int .u64 id, v] w fun e w' => TWritePost w o t k (T.write id d) e w' := by
    intro r hr0 hr hw
    rw [hr, if_neg hr0] at HO
    rw [hw]
    have hr1 : (r : Int) ≠ 0 := by omega
    clear hw hr h
    go_enter Tryz.func14, Tryz.ntmps14
    go_wp2_with (go_at_call 32; refine HO.out.mono ?_; rintro e w' ⟨rfl, rfl⟩)
    go_ret2
    exact ⟨o, rfl, ⟨bm, blk, H.out⟩, Chg.refl _ _ _⟩
  cases hs : mget T.m id with
  | none => exact hno 6 (by decide) (by unfold Tb.outErr; rw [hs]) (by unfold Tb.write; rw [hs])
  | some s =>
    cases hso : s.out with
    | none => exact hno 6 (by decide) (by unfold Tb.outErr; rw [hs]; simp [St.outErr, hso]) (by unfold Tb.write; rw [hs]; simp [hso])
    | some O =>
      cases hr : s.reset with
      | true => exact hno 8 (by decide) (by unfold Tb.outErr; rw [hs]; simp [St.outErr, hso, hr]) (by unfold Tb.write; rw [hs]; simp [hso, hr])
      | false =>
        clear hno
        rw [show T.outErr id = 0 from by unfold Tb.outErr; rw [hs]; simp [St.outErr, hso, hr]] at HO
        obtain ⟨hsw, ko, ki, bt, hst, ho, hi, ht⟩ := h.st hs
        have hcs := hst.cells
        have hw : T.write id d = if s.finished then ((0, 8), T) else (((O.write d).2, 0), T.set id { s with out := some (O.write d).1 }) := by
          unfold Tb.write; rw [hs]; simp [hso, hr]
        rw [hw]
        clear hw
        cases ko with
        | none => rw [hso] at ho; exact ho.elim
        | some ko =>
          rw [hso] at ho
          have HW := Lib.hid (OWrite_ok (O := O) ho hd hd8)
          have Hst := Lib.hid hst; clear hst
          simp only [optPtr, ptr] at hcs
          by_cases hf : s.finished = true
          · rw [if_pos hf]
            rw [hf] at hcs
            clear h hs hso hr hi ht ho hd
            go_enter Tryz.func14, Tryz.ntmps14
            go_wp2_with (go_at_call 32; refine HO.out.mono ?_; rintro e w' ⟨rfl, rfl⟩)
            go_ret2
            exact ⟨o, rfl, ⟨bm, blk, H.out⟩, Chg.refl _ _ _⟩
          · rw [if_neg hf]
            rw [Bool.not_eq_true] at hf
            rw [hf] at hcs
            have Hfin : RowKit.Hid (∀ o' w', Chg [0 :: (id + 1) :: t] w o w' o' → OutRep w' o' (0 :: (id + 1) :: t) ko (O.write d).1 → TbRep w' o' t k (T.set id { s with out := some (O.write d).1 }) ∧ Chg [t] w o w' o') := by
              intro o' w' hch hO
              obtain ⟨h1, h2⟩ := h.turn hs (hch.up (List.suffix_cons _ _)) (s' := { s with out := some (O.write d).1 }) ⟨⟨hsw.max64, hsw.given64, hsw.code64, hsw.in264, hsw.stop64, hsw.taken64, hsw.tk⟩, some ko, ki, bt, Hst.out.chg hch (off_child _ _), hO, hi.chg hch fun u hu => off_deep (by omega) hu, ht.chg hch (off_sib _ (by omega))⟩
              exact ⟨⟨bm, blk, h1⟩, h2⟩
            clear h hs hso hr hi ht ho hd
            go_enter Tryz.func14, Tryz.ntmps14
            go_wp2_with (first
              | (go_at_call 32; refine HO.out.mono ?_; rintro e w' ⟨rfl, rfl⟩)
              | (go_at_call 33; refine HW.out.mono ?_; rintro e w' ⟨o', rfl, hch, hO⟩))
            go_ret2
            obtain ⟨h1, h2⟩ := Hfin.out _ _ hch hO
            exact ⟨o', rfl, h1, h2⟩
end Go.Proofs.YthliihmhkhabeaaGreatDoor
