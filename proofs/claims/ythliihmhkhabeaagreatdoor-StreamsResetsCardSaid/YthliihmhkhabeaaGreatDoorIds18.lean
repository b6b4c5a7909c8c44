/- The streams' table, XVIII: a frame's value; the takes that call no in part. No condition. -/
import Derived.Test.YthliihmhkhabeaaGreatDoorIds16
import Derived.Test.YthliihmhkhabeaaGreatDoorIds17
namespace Go.Proofs.YthliihmhkhabeaaGreatDoor
open Go Go.RowKit

/-- A frame, its ranges aside. -/
structure Fr where
  kind : Int
  id : Nat
  a : Nat
  b : Nat
  code : Nat
  flag : Bool
  data : List Nat
  tok : Nat → Nat
structure Fr.Wf (f : Fr) : Prop where
  id64 : f.id < 18446744073709551616
  a64 : f.a < 18446744073709551616
  b64 : f.b < 18446744073709551616
  code64 : f.code < 18446744073709551616
  data8 : ∀ c ∈ f.data, c < 256
  tok8 : ∀ j, f.tok j < 256
def Fr.cells (f : Fr) (dv rv : Value) : Array Value := #[.int .i64 f.kind, .int .u64 f.id, .int .u64 f.a, .int .u64 f.b, .int .u64 f.code, .bool f.flag, dv, rv, bv (f.tok 0), bv (f.tok 1), bv (f.tok 2), bv (f.tok 3), bv (f.tok 4), bv (f.tok 5), bv (f.tok 6), bv (f.tok 7), bv (f.tok 8), bv (f.tok 9), bv (f.tok 10), bv (f.tok 11), bv (f.tok 12), bv (f.tok 13), bv (f.tok 14), bv (f.tok 15)]
theorem infoFR : (Tryz.prog.info? 52).map (·.size) = some 24 := by kernel_rfl

def Tb.takeData (T : Tb) (a : Nat) : Tb := { T with data := max T.data a }
def Tb.takeStreams (T : Tb) (a : Nat) (one : Bool) : Tb := if one then { T with lim1 := max T.lim1 (min a 40) } else { T with lim0 := max T.lim0 (min a 40) }
def Tb.takeLimit (T : Tb) (id a : Nat) : Nat × Tb :=
  if T.findErr id true = 0 then (match mget (T.outOf id).m id with
    | none => (0, T.outOf id)
    | some s => (0, (T.outOf id).set id { s with max := max s.max a })) else (T.findErr id true, T)
def Tb.takeStop (T : Tb) (id code : Nat) : Nat × Tb :=
  if T.findErr id true = 0 then (match mget (T.outOf id).m id with
    | none => (0, T.outOf id)
    | some s => (0, if s.reset || doneO s.out then T.outOf id else ((T.outOf id).reset id code).2)) else (T.findErr id true, T)

theorem outOf_some {T : Tb} {id : Nat} (h : T.findErr id true = 0) : ∃ s, mget (T.outOf id).m id = some s := by
  unfold Tb.outOf
  rw [if_pos h]
  cases hs : mget T.m id with
  | none => exact ⟨T.fresh id, by simp [Tb.make, mget_mset]⟩
  | some s => exact ⟨s, hs⟩
theorem outOf_err {T : Tb} {id : Nat} (h : T.findErr id true ≠ 0) : T.outOf id = T := by
  unfold Tb.outOf
  rw [if_neg h]

/-- A frame that was handed in lies in a new block. -/
structure Boxed (w : World) (f : Fr) (C : Array Value) (dv rv : Value) (W : World) : Prop where
  eq : W = w.alloc (.cells C 52)
  C : C = f.cells dv rv
theorem boxed (w : World) (f : Fr) (dv rv : Value) : ∃ C W, Boxed w f C dv rv W := ⟨_, _, rfl, rfl⟩
section
variable {w W : World} {f : Fr} {C : Array Value} {dv rv : Value}
theorem Boxed.cell (h : Boxed w f C dv rv W) (j : Nat) : W.cell? ⟨w.heap.size, j, none⟩ = (f.cells dv rv)[j]? := by rw [h.eq, h.C]; exact cell_newC w _ _ j
theorem Boxed.chg (h : Boxed w f C dv rv W) (o : Own) : Chg [] w o W o := by rw [h.eq]; exact (Chg.refl [] w o).alloc _
theorem Boxed.tb (h : Boxed w f C dv rv W) {o : Own} {t : Tag} {k bm : Nat} {blk : Nat → Nat} {T : Tb} (ht : TbAt w o t k bm blk T) : TbAt W o t k bm blk T := ht.chg (h.chg o) fun _ _ => off_nil _
end

set_option maxHeartbeats 400000 in
set_option maxRecDepth 100000 in
theorem takeData_ok {w : World} {o : Own} {t : Tag} {k : Nat} {T : Tb} (h : TbRep w o t k T) (f : Fr) (hf : f.Wf) (dv rv : Value) :
    Calls Tryz.prog 45 #[ptr k, .agg (f.cells dv rv)] w fun e w' => NumPost w o t k (0, T.takeData f.a) e w' := by
  obtain ⟨bm, blk, h⟩ := h
  obtain ⟨C, W, hB⟩ := boxed w f dv rv
  obtain ⟨mx, hmx⟩ : ∃ mx : Nat, mx = max T.data f.a := ⟨_, rfl⟩
  obtain ⟨mI, hmI⟩ : ∃ mI : Int, mI = mx := ⟨_, rfl⟩
  have hx1 : (T.data : Int) < f.a ∧ mI = f.a ∨ (f.a : Int) ≤ T.data ∧ mI = T.data := by omega
  have hWf := h.1
  have hb64 := hf.a64
  have hd64 := h.1.data64
  have b2 : W.cell? ⟨w.heap.size, 2, none⟩ = some (.int .u64 f.a) := hB.cell 2
  have h1 := hB.tb h
  have hc := h1.2.1.cells
  have hff := h1.2.1.free
  have hfin : RowKit.Hid (∀ n, NumPost w o t k (0, T.takeData f.a) (.returned (.int .i64 0)) ((W.drewN n).setCell ⟨k, 30, none⟩ (.int .u64 mI))) := by
    intro n
    refine ⟨o, rfl, ⟨bm, blk, (h1.drewN n).store (T' := T.takeData f.a) ?_ rfl 30 _ (by unfold Tb.takeData; rw [← hmx, hmI]; rfl)⟩, (((hB.chg o).drewN n).of_nil).setCell _ (.inr h.2.1.on)⟩
    exact ⟨hWf.own, hWf.d100, hWf.s100, hWf.n60, hWf.o0, hWf.o1, hWf.o2, hWf.o3, hWf.l0, hWf.l1, hWf.stream64, by unfold Tb.takeData; simp only; omega, hWf.read64, hWf.nd, hWf.id64⟩
  unfold Tb.cells at hc
  unfold ptr
  rw [← hB.C]
  have hW := hB.eq
  clear h h1 hWf hmx hmI hB
  rcases hx1 with ⟨hx1, rfl⟩ | ⟨hx1, rfl⟩
  all_goals
    go_enter Tryz.func45, Tryz.ntmps45
    go_upto_region 1 with fail
    rw [← hW]
    clear hW
    go_region
    all_goals go_wp2
    all_goals go_ret
    all_goals exact hfin.out 1

set_option maxHeartbeats 400000 in
set_option maxRecDepth 100000 in
theorem takeStreams_ok {w : World} {o : Own} {t : Tag} {k : Nat} {T : Tb} (h : TbRep w o t k T) (f : Fr) (hf : f.Wf) (dv rv : Value) :
    Calls Tryz.prog 46 #[ptr k, .agg (f.cells dv rv)] w fun e w' => NumPost w o t k (0, T.takeStreams f.a f.flag) e w' := by
  obtain ⟨bm, blk, h⟩ := h
  obtain ⟨C, W, hB⟩ := boxed w f dv rv
  have hWf := h.1
  have hb64 := hf.a64
  have l0 := hWf.l0
  have l1 := hWf.l1
  have b2 : W.cell? ⟨w.heap.size, 2, none⟩ = some (.int .u64 f.a) := hB.cell 2
  have b5 : W.cell? ⟨w.heap.size, 5, none⟩ = some (.bool f.flag) := hB.cell 5
  have h1 := hB.tb h
  have hc := h1.2.1.cells
  have hff := h1.2.1.free
  have hW := hB.eq
  unfold ptr
  rw [← hB.C]
  cases hfl : f.flag with
  | false =>
    obtain ⟨mn, hmn⟩ : ∃ mn : Int, mn = ((min f.a 40 : Nat) : Int) := ⟨_, rfl⟩
    have hx0 : (f.a : Int) ≤ 40 ∧ mn = f.a ∨ (40 : Int) < f.a ∧ mn = 40 := by omega
    obtain ⟨mI, hmI⟩ : ∃ mI : Int, mI = ((max T.lim0 (min f.a 40) : Nat) : Int) := ⟨_, rfl⟩
    have hx1 : (T.lim0 : Int) < mn ∧ mI = mn ∨ mn ≤ (T.lim0 : Int) ∧ mI = T.lim0 := by omega
    have hfin : RowKit.Hid (∀ n, NumPost w o t k (0, T.takeStreams f.a false) (.returned (.int .i64 0)) ((W.drewN n).setCell ⟨k, 27, none⟩ (.int .u64 mI))) := by
      intro n
      refine ⟨o, rfl, ⟨bm, blk, (h1.drewN n).store (T' := T.takeStreams f.a false) ?_ rfl 27 _ (by unfold Tb.takeStreams; rw [hmI]; rfl)⟩, (((hB.chg o).drewN n).of_nil).setCell _ (.inr h.2.1.on)⟩
      have e0 := hWf.o0; have e1 := hWf.o1
      exact ⟨hWf.own, hWf.d100, hWf.s100, hWf.n60, by simp only [Tb.takeStreams]; show T.op0 ≤ max _ _; omega, by show T.op1 ≤ max _ _; omega, hWf.o2, hWf.o3, by show max _ _ ≤ 40; omega, hWf.l1, hWf.stream64, hWf.data64, hWf.read64, hWf.nd, hWf.id64⟩
    unfold Tb.cells at hc
    rw [hfl] at b5
    clear h h1 hWf hmn hmI hB hfl
    rcases hx0 with ⟨hx0, rfl⟩ | ⟨hx0, rfl⟩ <;> rcases hx1 with ⟨hx1, rfl⟩ | ⟨hx1, rfl⟩
    all_goals
      go_enter Tryz.func46, Tryz.ntmps46
      go_upto_region 1 with fail
      rw [← hW]
      clear hW
      go_wp2_with (go_at_call 28; refine (sbit_ok false).mono ?_; rintro e w' ⟨rfl, rfl⟩; unfold bitN; simp only [Bool.false_eq_true, if_false])
      go_region
      all_goals go_wp2
      all_goals go_ret
      all_goals exact hfin.out 1
  | true =>
    obtain ⟨mn, hmn⟩ : ∃ mn : Int, mn = ((min f.a 40 : Nat) : Int) := ⟨_, rfl⟩
    have hx0 : (f.a : Int) ≤ 40 ∧ mn = f.a ∨ (40 : Int) < f.a ∧ mn = 40 := by omega
    obtain ⟨mI, hmI⟩ : ∃ mI : Int, mI = ((max T.lim1 (min f.a 40) : Nat) : Int) := ⟨_, rfl⟩
    have hx1 : (T.lim1 : Int) < mn ∧ mI = mn ∨ mn ≤ (T.lim1 : Int) ∧ mI = T.lim1 := by omega
    have hfin : RowKit.Hid (∀ n, NumPost w o t k (0, T.takeStreams f.a true) (.returned (.int .i64 0)) ((W.drewN n).setCell ⟨k, 28, none⟩ (.int .u64 mI))) := by
      intro n
      refine ⟨o, rfl, ⟨bm, blk, (h1.drewN n).store (T' := T.takeStreams f.a true) ?_ rfl 28 _ (by unfold Tb.takeStreams; rw [hmI]; rfl)⟩, (((hB.chg o).drewN n).of_nil).setCell _ (.inr h.2.1.on)⟩
      have e0 := hWf.o2; have e1 := hWf.o3
      exact ⟨hWf.own, hWf.d100, hWf.s100, hWf.n60, hWf.o0, hWf.o1, by show T.op2 ≤ max _ _; omega, by show T.op3 ≤ max _ _; omega, hWf.l0, by show max _ _ ≤ 40; omega, hWf.stream64, hWf.data64, hWf.read64, hWf.nd, hWf.id64⟩
    unfold Tb.cells at hc
    rw [hfl] at b5
    clear h h1 hWf hmn hmI hB hfl
    rcases hx0 with ⟨hx0, rfl⟩ | ⟨hx0, rfl⟩ <;> rcases hx1 with ⟨hx1, rfl⟩ | ⟨hx1, rfl⟩
    all_goals
      go_enter Tryz.func46, Tryz.ntmps46
      go_upto_region 1 with fail
      rw [← hW]
      clear hW
      go_wp2_with (go_at_call 28; refine (sbit_ok true).mono ?_; rintro e w' ⟨rfl, rfl⟩; unfold bitN; simp only [if_true])
      go_region
      all_goals go_wp2
      all_goals go_ret
      all_goals exact hfin.out 1

theorem off_root {t : Tag} (ht : t ≠ []) : off [t] [] := off_one.2 fun h => ht (List.suffix_nil.1 h)
def boxOwn (o : Own) (w : World) : Own := o.upd w.heap.size []
section
variable {w W : World} {f : Fr} {C : Array Value} {dv rv : Value}
theorem Boxed.at_ (h : Boxed w f C dv rv W) (o : Own) : At W (boxOwn o w) w.heap.size [] (.cells (f.cells dv rv) 52 (0, 0)) := by rw [h.eq, h.C]; exact At.new w o [] _
theorem Boxed.chg' (h : Boxed w f C dv rv W) (o : Own) : Chg [] w o W (boxOwn o w) := (h.chg o).tag (Nat.le_refl _) []
theorem Boxed.tb' (h : Boxed w f C dv rv W) {o : Own} {t : Tag} {k bm : Nat} {blk : Nat → Nat} {T : Tb} (ht : TbAt w o t k bm blk T) : TbAt W (boxOwn o w) t k bm blk T := ht.chg (h.chg' o) fun _ _ => off_nil _
end

set_option maxHeartbeats 400000 in
set_option maxRecDepth 100000 in
theorem takeLimit_ok {w : World} {o : Own} {t : Tag} (ht : t ≠ []) {k : Nat} {T : Tb} (h : TbRep w o t k T) (f : Fr) (hf : f.Wf) (dv rv : Value) :
    Calls Tryz.prog 44 #[ptr k, .agg (f.cells dv rv)] w fun e w' => NumPost w o t k (T.takeLimit f.id f.a) e w' := by
  obtain ⟨bm, blk, h⟩ := h
  obtain ⟨C, W, hB⟩ := boxed w f dv rv
  have hb64 := hf.a64
  have b1 : W.cell? ⟨w.heap.size, 1, none⟩ = some (.int .u64 f.id) := hB.cell 1
  have h1 := hB.tb' h
  have HO := Lib.hid (outOf_ok h1 f.id hf.id64)
  have hW := hB.eq
  have BAT := Lib.hid (hB.at_ o)
  have hch0 := Lib.hid (hB.chg' o)
  unfold ptr at HO ⊢
  rw [← hB.C]
  unfold Tb.takeLimit
  by_cases he : T.findErr f.id true = 0
  · rw [if_pos he]
    obtain ⟨s, hs⟩ := outOf_some he
    rw [hs]
    simp only
    have HE := Lib.hid he; have HS := Lib.hid hs
    clear he hs h h1 hB
    obtain ⟨mI, hmI⟩ : ∃ mI : Int, mI = ((max s.max f.a : Nat) : Int) := ⟨_, rfl⟩
    have hx1 : (s.max : Int) < f.a ∧ mI = f.a ∨ (f.a : Int) ≤ s.max ∧ mI = s.max := by omega
    have hfin : RowKit.Hid (∀ (w1 : World) (o1 : Own) (blk' : Nat → Nat) (ko ki : Option Nat) (bt n : Nat), TbAt w1 o1 t k bm blk' (T.outOf f.id) → StAt w1 o1 ((f.id + 1) :: t) (blk' f.id) (s.cells ko ki bt) ko ki bt s.out s.inn s.tell → s.Wf → Chg [t] w o w1 o1 →
        NumPost w o t k (0, (T.outOf f.id).set f.id { s with max := max s.max f.a }) (.returned (.int .i64 0)) ((w1.drewN n).setCell ⟨blk' f.id, 2, none⟩ (.int .u64 mI))) := by
      intro w1 o1 blk' ko ki bt n hT hS hsw hch
      have a1 := (hS.drewN n).set 2 (.int .u64 mI)
      have hc2 : Chg [(f.id + 1) :: t] w1 o1 ((w1.drewN n).setCell ⟨blk' f.id, 2, none⟩ (.int .u64 mI)) o1 := ((Chg.refl _ w1 o1).drewN n).setCell _ (.inr hS.at_.on)
      obtain ⟨x1, x2⟩ := hT.turn HS.out hc2 (s' := { s with max := max s.max f.a }) (StAt.rep (ko := ko) (ki := ki) (bt := bt) ⟨by simp only; have := hsw.max64; omega, hsw.given64, hsw.code64, hsw.in264, hsw.stop64, hsw.taken64, hsw.tk⟩ (by rw [hmI] at a1 ⊢; exact a1))
      exact ⟨o1, rfl, ⟨bm, blk', x1⟩, hch.trans x2⟩
    clear hmI
    rcases hx1 with ⟨hx1, rfl⟩ | ⟨hx1, rfl⟩
    all_goals
      go_enter Tryz.func44, Tryz.ntmps44
      go_upto_region 1 with fail
      rw [← hW]
      clear hW
      go_upto_region 3 with (go_at_call 79; refine HO.out.mono ?_; rintro e w1 ⟨p, blk', o1, rfl, hp, hT, hch⟩; rw [HE.out, hp HE.out]; have hsw := Lib.hid (hT.st HS.out).1; obtain ⟨ko, ki, bt, c2⟩ := (hT.st HS.out).at'; have b2 : w1.cell? ⟨w.heap.size, 2, none⟩ = some (.int .u64 f.a) := (BAT.out.chg hch (off_root ht)).cells 2; have HT := Lib.hid hT; have Hch := Lib.hid (hch0.out.of_nil.trans hch); have C2 := Lib.hid c2; have c3 := c2.at_.cells; have c4 := c2.at_.free; unfold St.cells at c3; clear hT hch c2 hp; unfold ptr)
      go_region
      all_goals go_wp2
      all_goals go_ret
      all_goals exact hfin.out _ _ _ _ _ _ 1 HT.out C2.out hsw.out Hch.out
  · rw [if_neg he]
    have he0 := outOf_err he
    have hn : (T.findErr f.id true : Int) ≠ 0 := by omega
    have hfin : RowKit.Hid (∀ er : Nat, er = T.findErr f.id true → ∀ w1 o1 blk', TbAt w1 o1 t k bm blk' (T.outOf f.id) → Chg [t] w o w1 o1 → NumPost w o t k (T.findErr f.id true, T) (.returned (.int .i64 er)) w1) := by
      rintro er rfl w1 o1 blk' hT hch
      rw [he0] at hT
      exact ⟨o1, rfl, ⟨bm, blk', hT⟩, hch⟩
    unfold OutOfPost at HO
    obtain ⟨er, her⟩ : ∃ er, er = T.findErr f.id true := ⟨_, rfl⟩
    rw [← her] at HO hn
    have Her := Lib.hid her
    clear her he0 he h h1 hB
    go_enter Tryz.func44, Tryz.ntmps44
    go_upto_region 1 with fail
    rw [← hW]
    clear hW
    go_wp2_with (go_at_call 79; refine HO.out.mono ?_; rintro e w1 ⟨p, blk', o1, rfl, hp, hT, hch⟩; have HT := Lib.hid hT; have Hch := Lib.hid (hch0.out.of_nil.trans hch); clear hT hch hp)
    go_ret
    exact hfin.out _ Her.out _ _ _ HT.out Hch.out

set_option maxHeartbeats 400000 in
set_option maxRecDepth 100000 in
theorem takeStop_ok {w : World} {o : Own} {t : Tag} (ht : t ≠ []) {k : Nat} {T : Tb} (h : TbRep w o t k T) (f : Fr) (hf : f.Wf) (dv rv : Value) :
    Calls Tryz.prog 43 #[ptr k, .agg (f.cells dv rv)] w fun e w' => NumPost w o t k (T.takeStop f.id f.code) e w' := by
  obtain ⟨bm, blk, h⟩ := h
  obtain ⟨C, W, hB⟩ := boxed w f dv rv
  have b1 : W.cell? ⟨w.heap.size, 1, none⟩ = some (.int .u64 f.id) := hB.cell 1
  have h1 := hB.tb' h
  have HO := Lib.hid (outOf_ok h1 f.id hf.id64)
  have hW := hB.eq
  have BAT := Lib.hid (hB.at_ o)
  have hch0 := Lib.hid (hB.chg' o)
  have hc64 := Lib.hid hf.code64
  unfold ptr at HO ⊢
  rw [← hB.C]
  unfold Tb.takeStop
  by_cases he : T.findErr f.id true = 0
  · rw [if_pos he]
    obtain ⟨s, hs⟩ := outOf_some he
    rw [hs]
    simp only
    have HE := Lib.hid he; have HS := Lib.hid hs
    clear he hs h h1 hB
    have hfin : RowKit.Hid (∀ (w1 : World) (o1 : Own) (blk' : Nat → Nat), (s.reset || doneO s.out) = true → TbAt w1 o1 t k bm blk' (T.outOf f.id) → Chg [t] w o w1 o1 →
        NumPost w o t k (0, if s.reset || doneO s.out then T.outOf f.id else ((T.outOf f.id).reset f.id f.code).2) (.returned (.int .i64 0)) w1) := by
      intro w1 o1 blk' hb hT hch
      rw [hb, if_pos rfl]
      exact ⟨o1, rfl, ⟨bm, blk', hT⟩, hch⟩
    have hfin2 : RowKit.Hid (∀ (w1 w2 : World) (o1 : Own) (e : Ending), (s.reset || doneO s.out) = false → Chg [t] w o w1 o1 → NumPost w1 o1 t k ((T.outOf f.id).reset f.id f.code) e w2 →
        NumPost w o t k (0, if s.reset || doneO s.out then T.outOf f.id else ((T.outOf f.id).reset f.id f.code).2) (.returned (.int .i64 0)) w2) := by
      rintro w1 w2 o1 e hb hch ⟨o2, rfl, h2, h3⟩
      rw [hb, if_neg (by simp)]
      exact ⟨o2, rfl, h2, hch.trans h3⟩
    cases hr : s.reset with
    | true =>
      rw [hr] at hfin hfin2
      go_enter Tryz.func43, Tryz.ntmps43
      go_upto_region 1 with fail
      rw [← hW]
      clear hW
      go_wp2_with (go_at_call 79; refine HO.out.mono ?_; rintro e w1 ⟨p, blk', o1, rfl, hp, hT, hch⟩; rw [HE.out, hp HE.out]; obtain ⟨ko, ki, bt, c2⟩ := (hT.st HS.out).at'; have HT := Lib.hid hT; have Hch := Lib.hid (hch0.out.of_nil.trans hch); have C2 := Lib.hid c2; have c3 := c2.at_.cells; unfold St.cells at c3; rw [hr] at c3; clear hT hch c2 hp; unfold ptr)
      go_ret
      exact hfin.out _ _ _ rfl HT.out Hch.out
    | false =>
      rw [hr] at hfin hfin2
      cases hd : doneO s.out with
      | true =>
        rw [hd] at hfin hfin2
        go_enter Tryz.func43, Tryz.ntmps43
        go_upto_region 1 with fail
        rw [← hW]
        clear hW
        go_wp2_with (first
          | (go_at_call 79; refine HO.out.mono ?_; rintro e w1 ⟨p, blk', o1, rfl, hp, hT, hch⟩; rw [HE.out, hp HE.out]; obtain ⟨ko, ki, bt, c2⟩ := (hT.st HS.out).at'; have HT := Lib.hid hT; have Hch := Lib.hid (hch0.out.of_nil.trans hch); have C2 := Lib.hid (ODone_opt c2.out); have c3 := c2.at_.cells; unfold St.cells at c3; rw [hr] at c3; rw [hd] at C2; clear hT hch c2 hp; unfold ptr)
          | (go_at_call 47; refine C2.out.mono ?_; rintro e w2 ⟨rfl, rfl⟩))
        go_ret
        exact hfin.out _ _ _ rfl HT.out Hch.out
      | false =>
        rw [hd] at hfin hfin2
        go_enter Tryz.func43, Tryz.ntmps43
        go_upto_region 1 with fail
        rw [← hW]
        clear hW
        go_wp2_with (first
          | (go_at_call 79; refine HO.out.mono ?_; rintro e w1 ⟨p, blk', o1, rfl, hp, hT, hch⟩; rw [HE.out, hp HE.out]; obtain ⟨ko, ki, bt, c2⟩ := (hT.st HS.out).at'
             have b1 : w1.cell? ⟨w.heap.size, 1, none⟩ = some (.int .u64 f.id) := (BAT.out.chg hch (off_root ht)).cells 1
             have b4 : w1.cell? ⟨w.heap.size, 4, none⟩ = some (.int .u64 f.code) := (BAT.out.chg hch (off_root ht)).cells 4
             have HR := Lib.hid (TReset_ok ⟨_, _, hT⟩ f.id f.code hc64.out)
             have HT := Lib.hid hT; have Hch := Lib.hid (hch0.out.of_nil.trans hch); have C2 := Lib.hid (ODone_opt c2.out); have c3 := c2.at_.cells; unfold St.cells at c3; rw [hr] at c3; rw [hd] at C2; clear hT hch c2 hp; unfold ptr at HR ⊢)
          | (go_at_call 47; refine C2.out.mono ?_; rintro e w2 ⟨rfl, rfl⟩)
          | (go_at_call 18; refine HR.out.mono ?_; rintro e w2 ⟨o2, rfl, h2, h3⟩; have HN := Lib.hid (hfin2.out _ _ _ _ rfl Hch.out ⟨o2, rfl, h2, h3⟩); clear h2 h3))
        go_ret
        exact HN.out
  · rw [if_neg he]
    have he0 := outOf_err he
    have hn : (T.findErr f.id true : Int) ≠ 0 := by omega
    have hfin : RowKit.Hid (∀ er : Nat, er = T.findErr f.id true → ∀ w1 o1 blk', TbAt w1 o1 t k bm blk' (T.outOf f.id) → Chg [t] w o w1 o1 → NumPost w o t k (T.findErr f.id true, T) (.returned (.int .i64 er)) w1) := by
      rintro er rfl w1 o1 blk' hT hch
      rw [he0] at hT
      exact ⟨o1, rfl, ⟨bm, blk', hT⟩, hch⟩
    unfold OutOfPost at HO
    obtain ⟨er, her⟩ : ∃ er, er = T.findErr f.id true := ⟨_, rfl⟩
    rw [← her] at HO hn
    have Her := Lib.hid her
    clear her he0 he h h1 hB
    go_enter Tryz.func43, Tryz.ntmps43
    go_upto_region 1 with fail
    rw [← hW]
    clear hW
    go_wp2_with (go_at_call 79; refine HO.out.mono ?_; rintro e w1 ⟨p, blk', o1, rfl, hp, hT, hch⟩; have HT := Lib.hid hT; have Hch := Lib.hid (hch0.out.of_nil.trans hch); clear hT hch hp)
    go_ret
    exact hfin.out _ Her.out _ _ _ HT.out Hch.out
end Go.Proofs.YthliihmhkhabeaaGreatDoor
/- Slices of frames: 24 cells an element. No condition. -/
namespace Go.Proofs.YthliihmhkhabeaaGreatDoor
open Go Go.RowKit

/-- append onto a row of one's own whose elements have more than one cell. -/
theorem run_append_rowN {P : Program} (w : World) (ty tt e : TypeId) (i : TypeInfo) (z : Value) (n : Nat) (ht : P.underlying tt = some (.slice e)) (hi : P.info? e = some i) (hz : i.zero = some z)
    (hs : i.size = n) (hn0 : 0 < n) (hby : i.bytes ≤ 200) (hzs : z.cells.size = n) {o : Own} {t : Tag} {v : Value} {k : Nat} {xs : List Value} (hown : w.ownsRow 0 e n v k xs) (htag : ∀ g, v.ownBlock = some g → o g = t)
    (b m c : Nat) (news : List Value) (hl : news.length = m * n) (hm : 0 < m) (hnews : ∀ j u, news[j]? = some u → w.cell? ⟨b, j, none⟩ = some u) (h1 : ∀ u ∈ news, u.oneCell' = true) (hb : k + m ≤ 100000000000) :
    ∃ v' w' o', (Builtin.append_ #[tt, tt] ty #[v, .slice (some ⟨b, 0, none⟩) m c]).run P w = .ok v' w' ∧ w'.ownsRow 0 e n v' (k + m) (xs ++ news) ∧ (∀ g, v'.ownBlock = some g → o' g = t) ∧ w.grownBy w' v.ownBlock ∧ Chg [t] w o w' o' ∧
      (∀ j, j < w.heap.size → o' j = o j) ∧ (∀ g, v'.ownBlock = some g → v.ownBlock = some g ∨ w.heap.size ≤ g) := by
  have hnews' : ∀ j u, news[j]? = some u → w.cell? ((⟨b, 0, none⟩ : Addr).add j) = some u := fun j u hu => by
    have e1 : (⟨b, 0, none⟩ : Addr).add j = ⟨b, j, none⟩ := by unfold Addr.add; split <;> simp_all
    rw [e1]; exact hnews j u hu
  have hby' : (k + m) * i.bytes ≤ 140737488355328 := by
    calc (k + m) * i.bytes ≤ (k + m) * 200 := Nat.mul_le_mul_left _ hby
      _ ≤ _ := by omega
  have h63 : k + m ≤ maxLen := by simp only [maxLen]; omega
  rcases id hown.2 with ⟨rfl, hk⟩ | ⟨g, cap, cur, rfl, hbg, hg, hnc, hcm, hcs, htake⟩
  · have hown2 : w.ownsRow w.heap.size e n (.slice none 0 0) k xs := ⟨hown.1, .inl ⟨rfl, hk⟩⟩
    obtain ⟨v', w', hrun, hr, hgb, hnil⟩ := run_append_own (P := P) w w.heap.size tt ty e i z n i.bytes ht hi hz hs rfl hzs hn0 _ k xs hown2 ⟨b, 0, none⟩ m c news hl hnews' h1 h63 hby' (Nat.le_refl _)
    rcases id hr.2 with ⟨rfl, hz'⟩ | ⟨g', cap', cur', rfl, hbase, hg', _⟩
    · omega
    · refine ⟨_, w', o.upd g' t, hrun, ⟨hr.1, hr.2.imp id fun ⟨a1, a2, a3, h1, _, h3⟩ => ⟨a1, a2, a3, h1, Nat.zero_le _, h3⟩⟩, ?_, hgb, ?_, fun j hj => Own.upd_ne _ _ (by omega), fun q hq => .inr ?_⟩
      · intro q hq
        simp only [Value.ownBlock, Option.some.injEq] at hq
        subst hq; exact Own.upd_same _ _ _
      · exact (Chg.grown (Chg.refl [t] w o) hgb (fun k hk => by simp [Value.ownBlock] at hk)).tag hbase t
      · simp only [Value.ownBlock, Option.some.injEq] at hq
        omega
  · obtain ⟨v', w', hrun, hr, hgb, _⟩ := run_append_own (P := P) w 0 tt ty e i z n i.bytes ht hi hz hs rfl hzs hn0 _ k xs hown ⟨b, 0, none⟩ m c news hl hnews' h1 h63 hby' (Nat.zero_le _)
    have hog := htag g rfl
    have hlt : g < w.heap.size := (Array.getElem?_eq_some_iff.1 hg).1
    have hch : Chg [t] w o w' o := Chg.grown (Chg.refl [t] w o) hgb (fun q hq => .inr (by
      simp only [Value.ownBlock, Option.some.injEq] at hq
      subst hq; rw [hog]; exact on_self t))
    by_cases hroom : k + m ≤ cap
    · have hfit : k * i.size + news.length ≤ cur.size := by rw [hl, hcs, hs, ← Nat.add_mul]; exact Nat.mul_le_mul_right _ hroom
      have hr2 := run_append_room (P := P) w tt ty e i ht hi g k cap cur hg ⟨b, 0, none⟩ m c news (by rw [hs]; exact hl) hnews' h1 hroom hfit
      rw [hr2] at hrun
      injection hrun with e1 e2
      subst e1; subst e2
      exact ⟨_, _, o, hr2, hr, fun q hq => by simp only [Value.ownBlock, Option.some.injEq] at hq; subst hq; exact hog, hgb, hch, fun _ _ => rfl, fun q hq => .inl hq⟩
    · have holds : ∀ j u, xs[j]? = some u → w.cell? ((⟨g, 0, none⟩ : Addr).add j) = some u := hown.cells (g := g) rfl
      have hr2 := run_append_grow (P := P) w tt ty e i z ht hi hz ⟨g, 0, none⟩ k cap xs (by rw [hs]; exact hown.1) holds ⟨b, 0, none⟩ m c news (by rw [hs]; exact hl) hnews' (by omega) (by omega) (growslice_fits (by omega) hby')
      rw [hr2] at hrun
      injection hrun with e1 e2
      subst e1; subst e2
      refine ⟨_, _, o.upd w.heap.size t, hr2, hr, ?_, hgb, hch.tag (Nat.le_refl _) t, fun j hj => Own.upd_ne _ _ (by omega), fun q hq => .inr ?_⟩
      · intro q hq
        simp only [Value.ownBlock, Option.some.injEq] at hq
        subst hq; exact Own.upd_same _ _ _
      · simp only [Value.ownBlock, Option.some.injEq] at hq
        omega

def nilS : Value := .slice none 0 0
def fcells (L : List (Fr × Value)) : List Value := L.flatMap fun p => (p.1.cells p.2 nilS).toList
theorem fcells_len : ∀ L : List (Fr × Value), (fcells L).length = L.length * 24
  | [] => rfl
  | p :: L => by
    have ih := fcells_len L
    unfold fcells at ih ⊢
    rw [List.flatMap_cons, List.length_append, ih, List.length_cons]
    simp only [Fr.cells, List.length_cons, List.length_nil]
    omega
theorem fcells_get : ∀ (L : List (Fr × Value)) (j i : Nat) (p : Fr × Value), L[j]? = some p → i < 24 → (fcells L)[j * 24 + i]? = (p.1.cells p.2 nilS)[i]?
  | [], j, i, p, h, _ => by simp at h
  | q :: L, 0, i, p, h, hi => by
    simp only [List.getElem?_cons_zero, Option.some.injEq] at h
    subst h
    unfold fcells
    rw [List.flatMap_cons, Nat.zero_mul, Nat.zero_add, List.getElem?_append_left (by simp [Fr.cells]; omega), Array.getElem?_toList]
  | q :: L, j + 1, i, p, h, hi => by
    simp only [List.getElem?_cons_succ] at h
    have ih := fcells_get L j i p h hi
    unfold fcells at ih ⊢
    rw [List.flatMap_cons, List.getElem?_append_right (by simp [Fr.cells]; omega), ← ih]
    congr 1
    simp [Fr.cells]
    omega

/-- A slice value that owns a row of frames; their bytes bear a tag. -/
def FRow (w : World) (o : Own) (t td : Tag) (v : Value) (L : List (Fr × Value)) : Prop :=
  w.ownsRow 0 52 24 v L.length (fcells L) ∧ (∀ g, v.ownBlock = some g → o g = t) ∧ ∀ p ∈ L, Sl w o td p.2 (p.1.data.map bv)

section
variable {w w' : World} {o o' : Own} {t td : Tag} {v : Value} {L : List (Fr × Value)} {S : List Tag}
theorem FRow.nil (w : World) (o : Own) (t td : Tag) : FRow w o t td (.slice none 0 0) [] := ⟨World.ownsRow_nil w 0 _ 24, fun g h => by simp [Value.ownBlock] at h, fun p h => by cases h⟩
theorem FRow.form (h : FRow w o t td v L) : (v = .slice none 0 0 ∧ L = []) ∨ ∃ g cap cur, v = .slice (some ⟨g, 0, none⟩) L.length cap ∧ At w o g t (.cells cur 52 (0, 0)) ∧ L.length ≤ cap ∧ cap ≤ maxLen ∧ cur.size = cap * 24 ∧ cur.toList.take (L.length * 24) = fcells L := by
  rcases h.1.2 with ⟨rfl, h0⟩ | ⟨g, cap, cur, rfl, _, hg, h1, h2, h3, h4⟩
  · exact .inl ⟨rfl, List.eq_nil_of_length_eq_zero h0⟩
  · exact .inr ⟨g, cap, cur, rfl, ⟨hg, h.2.1 g rfl⟩, h1, h2, h3, h4⟩
theorem FRow.chg (h : FRow w o t td v L) (hc : Chg S w o w' o') (hl : off S t) (hl2 : off S td) : FRow w' o' t td v L := by
  refine ⟨⟨h.1.1, ?_⟩, ?_, fun p hp => (h.2.2 p hp).chg hc hl2⟩
  · rcases h.form with ⟨rfl, rfl⟩ | ⟨g, cap, cur, rfl, hg, h1, h2, h3, h4⟩
    · exact .inl ⟨rfl, rfl⟩
    · exact .inr ⟨g, cap, cur, rfl, Nat.zero_le _, (hg.chg hc hl).1, h1, h2, h3, h4⟩
  · rcases h.form with ⟨rfl, rfl⟩ | ⟨g, cap, cur, rfl, hg, _⟩
    · intro g hg; simp [Value.ownBlock] at hg
    · intro q hq
      simp only [Value.ownBlock, Option.some.injEq] at hq
      subst hq; exact (hg.chg hc hl).2
theorem FRow.shape3 (h : FRow w o t td v L) : ∃ A n c, v = .slice A n c := by
  rcases h.form with ⟨rfl, _⟩ | ⟨g, cap, cur, rfl, _⟩
  · exact ⟨_, _, _, rfl⟩
  · exact ⟨_, _, _, rfl⟩
/-- A frame's cells. -/
theorem FRow.cell {g n cap : Nat} (h : FRow w o t td (.slice (some ⟨g, 0, none⟩) n cap) L) {j : Nat} {p : Fr × Value} (hj : L[j]? = some p) {i : Nat} (hi : i < 24) : w.cell? ⟨g, j * 24 + i, none⟩ = (p.1.cells p.2 nilS)[i]? := by
  rcases h.form with ⟨he, _⟩ | ⟨g2, cap2, cur, he, hg, h1, h2, h3, h4⟩
  · cases he
  · injection he with e1 e2 e3
    injection e1 with e1
    injection e1 with e1
    subst e1
    have hjl : j < L.length := (List.getElem?_eq_some_iff.1 hj).1
    have hlt : j * 24 + i < L.length * 24 := by
      have := Nat.mul_le_mul_right 24 hjl
      omega
    rw [← fcells_get L j i p hj hi, ← h4, List.getElem?_take_of_lt hlt, Array.getElem?_toList, hg.cells]
end

theorem Tryz.infoFR2 : (Tryz.prog.info? 52).map (fun i => (i.size, i.bytes, (i.zero.map fun z => z.cells.size))) = some (24, 112, some 24) := by kernel_rfl
theorem infoFR' : ∃ (i : TypeInfo) (z : Value), Tryz.prog.info? 52 = some i ∧ i.zero = some z ∧ i.size = 24 ∧ i.bytes = 112 ∧ z.cells.size = 24 := by
  have h := Tryz.infoFR2
  cases hi : Tryz.prog.info? 52 with
  | none => rw [hi] at h; cases h
  | some i =>
    rw [hi] at h
    simp at h
    obtain ⟨h1, h2, z, h3, h4⟩ := h
    exact ⟨i, z, rfl, h3, h1, h2, h4⟩

theorem frOne (f : Fr) {w : World} {o : Own} {td : Tag} {dv : Value} (hd : Sl w o td dv (f.data.map bv)) : ∀ u ∈ (f.cells dv nilS).toList, u.oneCell' = true := by
  obtain ⟨A, c, rfl, _⟩ := hd
  intro u hu
  simp only [Fr.cells, List.mem_cons, List.not_mem_nil, or_false] at hu
  rcases hu with rfl | rfl | rfl | rfl | rfl | rfl | rfl | rfl | rfl | rfl | rfl | rfl | rfl | rfl | rfl | rfl | rfl | rfl | rfl | rfl | rfl | rfl | rfl | rfl <;> rfl

/-- append of a frame. -/
theorem append_frame (w : World) (ty : TypeId) {o : Own} {t td : Tag} {v : Value} {L : List (Fr × Value)} (hr : FRow w o t td v L) (f : Fr) (dv : Value) (b : Nat) (hd : Sl w o td dv (f.data.map bv)) (htd : off [t] td)
    (hb : ∀ j, w.cell? ⟨b, j, none⟩ = (f.cells dv nilS)[j]?) (hl : L.length ≤ 1000000000) :
    ∃ v' w' o', (Builtin.append_ #[47, 47] ty #[v, .slice (some ⟨b, 0, none⟩) 1 1]).run Tryz.prog w = .ok v' w' ∧ FRow w' o' t td v' (L ++ [(f, dv)]) ∧ w.grownBy w' v.ownBlock ∧ Chg [t] w o w' o' ∧
      (∀ j, j < w.heap.size → o' j = o j) ∧ (∀ g, v'.ownBlock = some g → v.ownBlock = some g ∨ w.heap.size ≤ g) := by
  obtain ⟨i, z, hi, hz, hs, hby, hzs⟩ := infoFR'
  obtain ⟨v', w', o', h1, h2, h3, h4, h5, h6, h7⟩ := run_append_rowN w ty 47 52 i z 24 Tryz.underlying47 hi hz hs (by omega) (by omega) hzs hr.1 hr.2.1 b 1 1 (f.cells dv nilS).toList (by simp [Fr.cells]) (by omega) (fun j u hu => by rw [hb, ← Array.getElem?_toList]; exact hu) (frOne f hd) (by omega)
  refine ⟨v', w', o', h1, ⟨?_, h3, ?_⟩, h4, h5, h6, h7⟩
  · have : fcells (L ++ [(f, dv)]) = fcells L ++ (f.cells dv nilS).toList := by simp [fcells]
    rw [this, List.length_append]
    exact h2
  · intro p hp
    rcases List.mem_append.1 hp with hp | hp
    · exact (hr.2.2 p hp).chg h5 htd
    · rw [List.mem_singleton] at hp
      subst hp
      exact hd.chg h5 htd
end Go.Proofs.YthliihmhkhabeaaGreatDoor
