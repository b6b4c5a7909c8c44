/- When two frames are the same. No condition. -/
import Derived.Test.YthliihmhkhabeaaGreatDoorIds38
import Derived.Laws.BytesArg
import Derived.Laws.StructEq
import Derived.Deep.RegionHeld3
namespace Go.Proofs.YthliihmhkhabeaaGreatDoor
open Go Go.RowKit

def Fr.headC (f : Fr) : Array Value := #[.int .i64 f.kind, .int .u64 f.id, .int .u64 f.a, .int .u64 f.b, .int .u64 f.code, .bool f.flag, bv (f.tok 0), bv (f.tok 1), bv (f.tok 2), bv (f.tok 3), bv (f.tok 4), bv (f.tok 5), bv (f.tok 6), bv (f.tok 7), bv (f.tok 8), bv (f.tok 9), bv (f.tok 10), bv (f.tok 11), bv (f.tok 12), bv (f.tok 13), bv (f.tok 14), bv (f.tok 15)]
theorem infoPL : (Tryz.prog.info? 167).map (·.size) = some 22 := by kernel_rfl
theorem headOne (f : Fr) : f.headC.all (·.oneCell') = true := Array.all_eq_true_iff_forall_mem.2 fun u hu => by
  have hu : u ∈ f.headC.toList := by simpa using hu
  simp only [Fr.headC, List.mem_cons, List.not_mem_nil, or_false] at hu
  rcases hu with rfl | rfl | rfl | rfl | rfl | rfl | rfl | rfl | rfl | rfl | rfl | rfl | rfl | rfl | rfl | rfl | rfl | rfl | rfl | rfl | rfl | rfl <;> rfl
set_option maxRecDepth 100000 in
theorem headEq (f : Fr) (w : World) : (binOp .eql 167 (.agg f.headC) (.agg f.headC)).run Tryz.prog w = .ok (.bool true) w := by
  obtain ⟨i, hi, hz, hs, hb⟩ := infoU8'
  have h := run_equalIn_bytes (P := Tryz.prog) 27 5 16 9997 i Tryz.underlying27 Tryz.underlying5 hi hs (fun w => by go_simp) [f.tok 0, f.tok 1, f.tok 2, f.tok 3, f.tok 4, f.tok 5, f.tok 6, f.tok 7, f.tok 8, f.tok 9, f.tok 10, f.tok 11, f.tok 12, f.tok 13, f.tok 14, f.tok 15] [f.tok 0, f.tok 1, f.tok 2, f.tok 3, f.tok 4, f.tok 5, f.tok 6, f.tok 7, f.tok 8, f.tok 9, f.tok 10, f.tok 11, f.tok 12, f.tok 13, f.tok 14, f.tok 15] rfl rfl w
  rw [decide_eq_true rfl] at h
  simp only [List.map_cons, List.map_nil, bv] at h
  unfold Fr.headC bv
  clear hi hz hs hb
  go_simp

theorem convSame {w : World} {o : Own} {ts : Tag} {v : Value} {l : List Nat} (h : Sl w o ts v (l.map bv)) : ∃ s, (convert 42 9 v).run Tryz.prog w = .ok (.string s) w := by
  obtain ⟨A, c, rfl, h1, h2, hz, h3⟩ := h
  by_cases h0 : (l.map bv).length = 0
  · refine ⟨ByteArray.empty, ?_⟩
    rw [h0, run_convert_bytes_string w 42 9 5 A 0 c Tryz.underlying42 Tryz.underlying5 Tryz.underlying9]
    cases A <;> simp [Conv.bytesToString, loadCells] <;> rfl
  · obtain ⟨b, f, rfl, _, hcell⟩ := h3 (by omega)
    refine ⟨_, run_convert_bytes_arg (P := Tryz.prog) w 42 5 Tryz.underlying42 Tryz.underlying5 b f (l.map bv).length c (l.map fun n : Nat => (n : Int)) (by simp) (fun i hi => ?_) 9 Tryz.underlying9⟩
    rw [hcell i hi, List.getElem?_map]
    rw [List.length_map] at hi
    simp [List.getElem?_eq_getElem hi, bv]

set_option maxRecDepth 100000 in
theorem bytesEq_ok {w : World} {o : Own} {ts : Tag} {v : Value} {l : List Nat} (h : Sl w o ts v (l.map bv)) :
    Calls Tryz.prog 165 #[v, v] w fun e w' => e = .returned (.bool true) ∧ w' = w := by
  obtain ⟨s, hs⟩ := convSame h
  obtain ⟨A, c, rfl⟩ := h.shapeB
  clear h
  go_enter Tryz.func165, Tryz.ntmps165
  go_wp2
  go_ret
  exact ⟨by simp, rfl⟩
set_option maxRecDepth 100000 in
theorem slicesEq_ok (w : World) :
    Calls Tryz.prog 166 #[.slice none 0 0, .slice none 0 0] w fun e w' => e = .returned (.bool true) ∧ w' = w := by
  go_enter Tryz.func166, Tryz.ntmps166
  go_wp2
  go_loop [13] (fun i => i = .int .i64 0) (fun i => 0)
  case atStart => rfl
  case round =>
    subst hrel
    go_wp2
    go_ret
    exact ⟨rfl, rfl⟩

set_option maxHeartbeats 1000000 in
set_option maxRecDepth 100000 in
theorem Fhead_ok {w : World} (o : Own) (f : Fr) (dv rv : Value) :
    Calls Tryz.prog 164 #[.agg (f.cells dv rv)] w (ValNew w o (.agg f.headC)) := by
  obtain ⟨C, hC⟩ : ∃ C, C = f.cells dv rv := ⟨_, rfl⟩
  obtain ⟨Z, hZ⟩ : ∃ Z, Z = frZ.headC := ⟨_, rfl⟩
  obtain ⟨W, hW⟩ := two w (.cells C 52) (.cells Z 167)
  have b0 : W.cell? ⟨w.heap.size, 0, none⟩ = some (.int .i64 f.kind) := by rw [hW.one 0, hC]; rfl
  have b1 : W.cell? ⟨w.heap.size, 1, none⟩ = some (.int .u64 f.id) := by rw [hW.one 1, hC]; rfl
  have b2 : W.cell? ⟨w.heap.size, 2, none⟩ = some (.int .u64 f.a) := by rw [hW.one 2, hC]; rfl
  have b3 : W.cell? ⟨w.heap.size, 3, none⟩ = some (.int .u64 f.b) := by rw [hW.one 3, hC]; rfl
  have b4 : W.cell? ⟨w.heap.size, 4, none⟩ = some (.int .u64 f.code) := by rw [hW.one 4, hC]; rfl
  have b5 : W.cell? ⟨w.heap.size, 5, none⟩ = some (.bool f.flag) := by rw [hW.one 5, hC]; rfl
  obtain ⟨TK, hTK⟩ : ∃ TK : Array Value, TK = #[bv (f.tok 0), bv (f.tok 1), bv (f.tok 2), bv (f.tok 3), bv (f.tok 4), bv (f.tok 5), bv (f.tok 6), bv (f.tok 7), bv (f.tok 8), bv (f.tok 9), bv (f.tok 10), bv (f.tok 11), bv (f.tok 12), bv (f.tok 13), bv (f.tok 14), bv (f.tok 15)] := ⟨_, rfl⟩
  have hrt : W.rangeAt w.heap.size 8 TK.toList := by
    intro j v hj
    rw [hW.one, hC]
    rw [hTK] at hj
    have hl : j < 16 := by have := (List.getElem?_eq_some_iff.1 hj).1; simpa using this
    rcases (by omega : j = 0 ∨ j = 1 ∨ j = 2 ∨ j = 3 ∨ j = 4 ∨ j = 5 ∨ j = 6 ∨ j = 7 ∨ j = 8 ∨ j = 9 ∨ j = 10 ∨ j = 11 ∨ j = 12 ∨ j = 13 ∨ j = 14 ∨ j = 15) with rfl | rfl | rfl | rfl | rfl | rfl | rfl | rfl | rfl | rfl | rfl | rfl | rfl | rfl | rfl | rfl <;> exact hj
  have hth : W.there (w.heap.size + 1) 0 22 := by have h := there_of hW.two; rw [hZ] at h; exact h
  have HC := Lib.hid (hW.chg o)
  have HE := hW.eq
  have hall : f.headC.all (·.oneCell') = true := headOne f
  have htok : (Tryz.prog.info? 27).map (·.size) = some TK.toList.length := by rw [hTK]; kernel_rfl
  rw [← hC]
  clear hW hC
  rw [hZ] at HE
  clear hZ
  have hfold : Array.foldl (fun (cs : Array Value) (x : Value × Nat) => cs.setIfInBounds (6 + x.snd) x.fst) #[.int .i64 f.kind, .int .u64 f.id, .int .u64 f.a, .int .u64 f.b, .int .u64 f.code, .bool f.flag, .int .u8 0, .int .u8 0, .int .u8 0, .int .u8 0, .int .u8 0, .int .u8 0, .int .u8 0, .int .u8 0, .int .u8 0, .int .u8 0, .int .u8 0, .int .u8 0, .int .u8 0, .int .u8 0, .int .u8 0, .int .u8 0] TK.zipIdx 0 16 = f.headC := by rw [hTK]; unfold Fr.headC; simp
  have hts : TK.size = 16 := by rw [hTK]; rfl
  clear hTK
  have hHl : (Tryz.prog.info? 167).map (·.size) = some f.headC.size := infoPL
  have hHs : W.there (w.heap.size + 1) 0 f.headC.size := hth
  clear hth
  generalize f.headC = H at *
  go_enter Tryz.func164, Tryz.ntmps164
  go_upto_region 1 with fail
  change Code.wp _ _ _ _ ((w.alloc (.cells C 52)).alloc (.cells frZ.headC 167))
  rw [← HE]
  clear HE
  go_wp2_with (first
    | (refine wpList_load_mid (P := Tryz.prog) rfl 27 _ rfl w.heap.size 8 rfl TK.toList _ hrt Tryz.underlying27 rfl htok ?_; simp only [Array.toArray_toList])
    | (refine wpList_store_mid (P := Tryz.prog) rfl 167 _ _ rfl (w.heap.size + 1) 0 H rfl rfl hHs hHl hall ?_))
  have hrg : (W.setCells (w.heap.size + 1) 0 H.toList).rangeAt (w.heap.size + 1) 0 H.toList := World.rangeAt_setCells_same _ _ _ _ hHs
  refine bodyPost_ret (results_cell1_mid rfl _ _ (w.heap.size + 1) _ _ rfl hrg Tryz.underlying167 rfl hHl) rfl ?_
  exact ⟨by rw [Array.toArray_toList], o, Chg.setCells _ _ _ HC.out (.inl (by omega))⟩
end Go.Proofs.YthliihmhkhabeaaGreatDoor
