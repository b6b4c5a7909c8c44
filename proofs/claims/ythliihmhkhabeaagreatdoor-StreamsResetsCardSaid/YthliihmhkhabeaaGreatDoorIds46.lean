/- The streams' table: Lost, of the kinds Stream, MaxData, MaxStreamData. No condition. -/
import Derived.Test.YthliihmhkhabeaaGreatDoorIds37
namespace Go.Proofs.YthliihmhkhabeaaGreatDoor
open Go Go.RowKit

def Tb.lostMD (T : Tb) : Tb := { T with tell := true }
def Tb.lostMSD (T : Tb) (id : Nat) (s : St) : Tb := T.set id { s with tell := mset s.tell 17 true }
def Tb.lostS (T : Tb) (f : Fr) (s : St) (O : Out) : Tb := T.set f.id { s with out := some (O.lose f.a f.data.length f.flag) }

theorem tellTurn {U : World} {o2 : Own} {t : Tag} {k bm id : Nat} {blk : Nat → Nat} {T : Tb} {s : St} (hT : TbAt U o2 t k bm blk T) (hs : mget T.m id = some s) {ko ki : Option Nat} {bt : Nat}
    (hst : StAt U o2 ((id + 1) :: t) (blk id) (s.cells ko ki bt) ko ki bt s.out s.inn s.tell) (kd : Nat) (kI : Int) (hk : kI = kd) (b : Bool) :
    ∃ ob, (Instr.mapUpdate 79 (.map (some bt)) (.int .i64 kI) (.bool b)).run Tryz.prog U = .ok () (setOb U bt ob) ∧ TbAt (setOb U bt ob) o2 t k bm blk (T.set id { s with tell := mset s.tell kd b }) ∧ Chg [t] U o2 (setOb U bt ob) o2 := by
  have hsw := (hT.st hs).1
  obtain ⟨ob, h2, h3, h4⟩ := hst.update kd kI hk b
  have hx := hT.turn hs (h4.up (List.suffix_cons _ _)) (s' := { s with tell := mset s.tell kd b }) (StAt.rep (ko := ko) (ki := ki) (bt := bt) ⟨hsw.max64, hsw.given64, hsw.code64, hsw.in264, hsw.stop64, hsw.taken64, mset_nodup _ _ _ hsw.tk⟩ h3)
  exact ⟨ob, h2, hx.1, hx.2⟩

set_option maxHeartbeats 4000000 in
set_option maxRecDepth 100000 in
theorem TLost_md {w : World} {o : Own} {t : Tag} (_ht : t ≠ []) {k : Nat} {T : Tb} (h : TbRep w o t k T) (f : Fr) (dv rv : Value) (h16 : f.kind = 16) :
    Calls Tryz.prog 23 #[ptr k, .agg (f.cells dv rv)] w fun e w' => NoPost w o t k T.lostMD e w' := by
  obtain ⟨bm, blk, h⟩ := h
  obtain ⟨C, W, hB⟩ := boxed w f dv rv
  have hW := hB.eq
  have hch0 := Lib.hid (hB.chg' o)
  have hT := hB.tb' h
  have hc := hT.2.1.cells
  have hfz := hT.2.1.free
  have b0 : W.cell? ⟨w.heap.size, 0, none⟩ = some (.int .i64 f.kind) := hB.cell 0
  rw [h16] at b0
  have HT := Lib.hid hT
  unfold Tb.cells at hc
  rw [← hB.C]
  unfold ptr
  have Hon := Lib.hid h.2.1.on
  clear h hT hB h16
  go_enter Tryz.func23, Tryz.ntmps23
  go_upto_region 1 with fail
  rw [← hW]
  clear hW
  go_wp2
  refine bodyPost_ret (results_none rfl _ _ _) rfl ?_
  have hw := HT.out.1
  exact ⟨_, rfl, ⟨bm, blk, HT.out.store (T' := T.lostMD) ⟨hw.own, hw.d100, hw.s100, hw.n60, hw.o0, hw.o1, hw.o2, hw.o3, hw.l0, hw.l1, hw.stream64, hw.data64, hw.read64, hw.nd, hw.id64⟩ rfl 32 _ rfl⟩, (hch0.out.of_nil).setCell _ (.inr Hon.out)⟩

set_option maxHeartbeats 4000000 in
set_option maxRecDepth 100000 in
theorem TLost_msd {w : World} {o : Own} {t : Tag} (_ht : t ≠ []) {k : Nat} {T : Tb} (h : TbRep w o t k T) (f : Fr) (dv rv : Value) (h17 : f.kind = 17) {s : St} (hs : mget T.m f.id = some s) {I : In} (hI : s.inn = some I) :
    Calls Tryz.prog 23 #[ptr k, .agg (f.cells dv rv)] w fun e w' => NoPost w o t k (T.lostMSD f.id s) e w' := by
  obtain ⟨bm, blk, h⟩ := h
  obtain ⟨C, W, hB⟩ := boxed w f dv rv
  have hW := hB.eq
  have BAT := Lib.hid (hB.at_ o)
  have hch0 := Lib.hid (hB.chg' o)
  have hT := hB.tb' h
  have hlk := fun n => (hT.drewN n).look f.id
  have hc := hT.2.1.cells
  have b0 : W.cell? ⟨w.heap.size, 0, none⟩ = some (.int .i64 f.kind) := hB.cell 0
  have b1 : W.cell? ⟨w.heap.size, 1, none⟩ = some (.int .u64 f.id) := hB.cell 1
  rw [h17] at b0
  have HT := Lib.hid hT
  unfold Tb.cells at hc
  unfold Tb.blkOf optPtr at hlk
  rw [hs] at hlk
  simp only [Option.map_some, ptr] at hlk
  rw [← hB.C]
  unfold ptr
  have HS := Lib.hid hs; have HI := Lib.hid hI; have H17 := Lib.hid h17
  obtain ⟨ko, ki, bt, hst⟩ := (hT.st hs).at'
  have HST := Lib.hid hst
  have hki : ∃ ki', ki = some ki' := by
    have h1 := hst.inn
    rw [hI] at h1
    cases ki with
    | none => exact h1.elim
    | some x => exact ⟨x, rfl⟩
  obtain ⟨ki', rfl⟩ := hki
  clear h hT hB h17 hs hI hst
  go_enter Tryz.func23, Tryz.ntmps23
  go_upto_region 1 with fail
  rw [← hW]
  clear hW
  go_upto_region 4 with fail
  go_quiet (fail)
  go_upto_region 5 with fail
  have hT2 := HT.out.drewN nq
  have hB2 := BAT.out.drewN nq
  have hS2 := HST.out.drewN nq
  have hC2 := hch0.out.drewN nq
  clear hlk hc b1 b0 HT BAT HST hch0
  generalize W.drewN nq = V at *
  have b0 : V.cell? ⟨w.heap.size, 0, none⟩ = some (.int .i64 f.kind) := hB2.cells 0
  rw [H17.out] at b0
  have hcs := hS2.at_.cells
  unfold St.cells at hcs
  simp only [optPtr, ptr] at hcs
  obtain ⟨ob, y1, y2, y3⟩ := tellTurn hT2 HS.out hS2 17 17 rfl true
  have Y2 := Lib.hid y2; have Y3 := Lib.hid y3; have HC2 := Lib.hid (hC2.of_nil (L := [t]))
  clear hT2 hB2 hS2 hC2 y2 y3
  go_wp2_with (refine wpList_mupd rfl 79 _ _ _ rfl _ _ _ rfl rfl rfl _ y1 ?_)
  go_end0
  exact ⟨_, rfl, ⟨bm, blk, Y2.out⟩, HC2.out.trans Y3.out⟩

set_option maxHeartbeats 4000000 in
set_option maxRecDepth 100000 in
theorem TLost_s {w : World} {o : Own} {t s' : Tag} (_ht : t ≠ []) {k : Nat} {T : Tb} (h : TbRep w o t k T) (f : Fr) (hf : f.Wf) (dv rv : Value) (hd : Sl w o s' dv (f.data.map bv)) (hl : f.data.length ≤ 1000000000000) (h8 : f.kind = 8) {s : St} (hs : mget T.m f.id = some s) {O : Out} (hO : s.out = some O) :
    Calls Tryz.prog 23 #[ptr k, .agg (f.cells dv rv)] w fun e w' => NoPost w o t k (T.lostS f s O) e w' := by
  obtain ⟨bm, blk, h⟩ := h
  obtain ⟨C, W, hB⟩ := boxed w f dv rv
  have hW := hB.eq
  have BAT := Lib.hid (hB.at_ o)
  have hch0 := Lib.hid (hB.chg' o)
  have hT := hB.tb' h
  have hlk := fun n => (hT.drewN n).look f.id
  have hc := hT.2.1.cells
  have b0 : W.cell? ⟨w.heap.size, 0, none⟩ = some (.int .i64 f.kind) := hB.cell 0
  have b1 : W.cell? ⟨w.heap.size, 1, none⟩ = some (.int .u64 f.id) := hB.cell 1
  rw [h8] at b0
  have HT := Lib.hid hT
  unfold Tb.cells at hc
  unfold Tb.blkOf optPtr at hlk
  rw [hs] at hlk
  simp only [Option.map_some, ptr] at hlk
  rw [← hB.C]
  unfold ptr
  have HS := Lib.hid hs; have HSO := Lib.hid hO; have H8 := Lib.hid h8; have Ha64 := Lib.hid hf.a64; have Hl := Lib.hid hl
  obtain ⟨A, c, hdv, -, -, -, -⟩ := id hd
  subst hdv
  rw [List.length_map] at *
  obtain ⟨ko, ki, bt, hst⟩ := (hT.st hs).at'
  have ho := hst.out
  rw [hO] at ho
  obtain ⟨kO, rfl, ho⟩ := ho.some'
  have HST := Lib.hid hst
  clear h hT hB h8 hs hO hst ho hd hl
  go_enter Tryz.func23, Tryz.ntmps23
  go_upto_region 1 with fail
  rw [← hW]
  clear hW
  go_upto_region 4 with fail
  go_quiet (fail)
  go_upto_region 5 with fail
  have hT2 := HT.out.drewN nq
  have hB2 := BAT.out.drewN nq
  have hS2 := HST.out.drewN nq
  have hC2 := hch0.out.drewN nq
  clear hlk hc b1 b0 HT BAT HST hch0
  generalize W.drewN nq = U at *
  have b0 : U.cell? ⟨w.heap.size, 0, none⟩ = some (.int .i64 f.kind) := hB2.cells 0
  rw [H8.out] at b0
  have b2 : U.cell? ⟨w.heap.size, 2, none⟩ = some (.int .u64 f.a) := hB2.cells 2
  have b5 : U.cell? ⟨w.heap.size, 5, none⟩ = some (.bool f.flag) := hB2.cells 5
  have b6 : U.cell? ⟨w.heap.size, 6, none⟩ = some (.slice A f.data.length c) := hB2.cells 6
  have c1 := hS2.at_.cells
  unfold St.cells at c1
  simp only [optPtr, ptr] at c1
  have HT2 := Lib.hid hT2; have HS2 := Lib.hid hS2; have HC2 := Lib.hid (hC2.of_nil (L := [t]))
  clear hT2 hB2 hS2 hC2
  have HA := Lib.hid (OLost_ok (by have := (HS2.out.drewN 1).out; rw [HSO.out] at this; exact this) f.a f.data.length Ha64.out Hl.out f.flag)
  go_upto_region 7 with fail
  refine wp_region_still_tail 11 (by kernel_rfl) (by kernel_rfl) ?_
  simp only [List.take_succ_cons, List.take_zero, List.drop_succ_cons, List.drop_zero]
  repeat still_step
  refine wpStill_nil ?_
  go_wp2_with (go_at_call 53; refine HA.out.mono ?_; rintro e w3 ⟨rfl, h3, h4⟩; have H3 := Lib.hid h3; have H4 := Lib.hid h4; clear h3 h4)
  go_end0
  obtain ⟨x1, x2⟩ := outTurn (HT2.out.drewN 1) HS.out (HS2.out.drewN 1) H3.out H4.out
  exact ⟨_, rfl, ⟨bm, blk, x1⟩, (HC2.out.drewN 1).trans x2⟩
end Go.Proofs.YthliihmhkhabeaaGreatDoor
