/- The streams' table, XXII: Take. No condition. -/
import Derived.Test.YthliihmhkhabeaaGreatDoorIds34
import Derived.Test.YthliihmhkhabeaaGreatDoorIds35
namespace Go.Proofs.YthliihmhkhabeaaGreatDoor
open Go Go.RowKit

def Tb.take (T : Tb) (f : Fr) : Nat × Tb :=
  if f.kind = 8 then T.takeStream f else if f.kind = 4 then T.takeReset f else if f.kind = 5 then T.takeStop f.id f.code else if f.kind = 17 then T.takeLimit f.id f.a
  else if f.kind = 16 then (0, T.takeData f.a) else if f.kind = 18 then (0, T.takeStreams f.a f.flag) else (0, T)

def takeV (k : Nat) (g : Nat) : Value := .func (.func g) #[.pointer (some ⟨k, 0, none⟩)] #[]
def takeM : List (Int × Nat) := [(8, 41), (4, 42), (5, 43), (17, 44), (16, 45), (18, 46)]

set_option maxHeartbeats 400000 in
set_option maxRecDepth 100000 in
theorem TTake_ok {w : World} {o : Own} {t s' : Tag} (ht : t ≠ []) {k : Nat} {T : Tb} (h : TbRep w o t k T) (f : Fr) (hf : f.Wf) (dv rv : Value) (hd : Sl w o s' dv (f.data.map bv)) (hs' : off [t] s') (hl : f.data.length ≤ 1000000000000) :
    Calls Tryz.prog 17 #[ptr k, .agg (f.cells dv rv)] w fun e w' => NumPost w o t k (T.take f) e w' := by
  obtain ⟨bm, blk, h⟩ := h
  obtain ⟨C, W, hB⟩ := boxed w f dv rv
  have hW := hB.eq
  have BAT := Lib.hid (hB.at_ o)
  have hch0 := Lib.hid (hB.chg' o)
  have hTW := hB.tb' h
  have hDW := hd.chg (hB.chg' o) (off_nil _)
  have HM0 := (MapAt.new W (boxOwn o w) (side t))
  have Hc0 : Chg [] W (boxOwn o w) (W.alloc (.map #[] 0)) ((boxOwn o w).upd W.heap.size (side t)) := ((Chg.refl [] W (boxOwn o w)).alloc _).tag (Nat.le_refl _) (side t)
  have hmm := @run_makeMap Tryz.prog
  rw [← hB.C]
  unfold ptr
  go_enter Tryz.func17, Tryz.ntmps17
  go_upto_region 1 with fail
  rw [← hW]
  have hbs : w.heap.size < W.heap.size := by rw [hW]; simp
  clear hW
  go_upto_region 3 with fail
  go_upto_region 4 with (first
    | (refine wpList_lit (kt := 3) (V := takeV k) (m := []) rfl 99 _ _ _ rfl rfl _ _ rfl 41 rfl Tryz.underlying3 Tryz.underlying99 HM0 ?_; intro w1 HM1 Hc1)
    | (refine wpList_lit (kt := 3) (V := takeV k) (m := [(8, 41)]) rfl 99 _ _ _ rfl rfl _ _ rfl 42 rfl Tryz.underlying3 Tryz.underlying99 HM1 ?_; intro w2 HM2 Hc2)
    | (refine wpList_lit (kt := 3) (V := takeV k) (m := [(8, 41), (4, 42)]) rfl 99 _ _ _ rfl rfl _ _ rfl 43 rfl Tryz.underlying3 Tryz.underlying99 HM2 ?_; intro w3 HM3 Hc3)
    | (refine wpList_lit (kt := 3) (V := takeV k) (m := [(8, 41), (4, 42), (5, 43)]) rfl 99 _ _ _ rfl rfl _ _ rfl 44 rfl Tryz.underlying3 Tryz.underlying99 HM3 ?_; intro w4 HM4 Hc4)
    | (refine wpList_lit (kt := 3) (V := takeV k) (m := [(8, 41), (4, 42), (5, 43), (17, 44)]) rfl 99 _ _ _ rfl rfl _ _ rfl 45 rfl Tryz.underlying3 Tryz.underlying99 HM4 ?_; intro w5 HM5 Hc5)
    | (refine wpList_lit (kt := 3) (V := takeV k) (m := [(8, 41), (4, 42), (5, 43), (17, 44), (16, 45)]) rfl 99 _ _ _ rfl rfl _ _ rfl 46 rfl Tryz.underlying3 Tryz.underlying99 HM5 ?_; intro w6 HM6 Hc6))
  obtain ⟨HT, BT, HD, HC⟩ : RowKit.Hid (TbRep w6 ((boxOwn o w).upd W.heap.size (side t)) t k T) ∧ RowKit.Hid (At w6 ((boxOwn o w).upd W.heap.size (side t)) w.heap.size [] (.cells (f.cells dv rv) 52 (0, 0))) ∧
      RowKit.Hid (Sl w6 ((boxOwn o w).upd W.heap.size (side t)) s' dv (f.data.map bv)) ∧ RowKit.Hid (Chg [t] w o w6 ((boxOwn o w).upd W.heap.size (side t))) := by
    have hh := (((((Hc1.trans Hc2).trans Hc3).trans Hc4).trans Hc5).trans Hc6)
    have hn : off [side t] [] := off_one.2 fun hh => by simp [side] at hh
    refine ⟨⟨bm, blk, (hTW.chg Hc0 fun _ _ => off_nil _).side hh⟩, (BAT.out.chg Hc0 (off_nil _)).chg hh hn, (hDW.chg Hc0 (off_nil _)).chg hh (off_up hs' (List.suffix_cons _ _)), ((hch0.out.trans Hc0).of_nil.trans hh).up (List.suffix_cons _ _)⟩
  clear Hc0 Hc1 Hc2 Hc3 Hc4 Hc5 Hc6 HM0 HM1 HM2 HM3 HM4 HM5 hTW hDW hch0 BAT hmm h hd hbs
  generalize (boxOwn o w).upd W.heap.size (side t) = o6 at *
  have b0 : w6.cell? ⟨w.heap.size, 0, none⟩ = some (.int .i64 f.kind) := BT.out.cells 0
  have hlk : ∀ kd : Int, (Instr.lookup 99 (.map (some W.heap.size)) (.int .i64 kd) true).run Tryz.prog w6 = .ok (.tuple #[((mget takeM kd).map (takeV k)).getD .nilFunc, .bool (mget takeM kd).isSome]) w6 := fun kd =>
    run_lookup (P := Tryz.prog) (V := takeV k) (z := .nilFunc) (PlainKey.int' Tryz.underlying3) Tryz.underlying99 (fun w => by rfl) HM6 kd true
  clear HM6
  have hfin : ∀ r : Nat × Tb, ∀ e w', NumPost w6 o6 t k r e w' → NumPost w o t k r e w' := fun r e w' ⟨o7, h1, h2, h3⟩ => ⟨o7, h1, h2, HC.out.trans h3⟩
  have hrg : RowKit.Hid (w6.rangeAt w.heap.size 0 (f.cells dv rv).toList) := parRange' BT.out.cells
  have Hsz : RowKit.Hid ((Tryz.prog.info? 52).map (·.size) = some (f.cells dv rv).toList.length) := infoFR
  have hk8 : RowKit.Hid (f.kind = 8 → T.take f = T.takeStream f) := by show _ → _; intro h; unfold Tb.take; rw [h]; rfl
  have hc8 := Lib.hid (takeStream_ok ht HT.out f hf dv rv HD.out hs' hl)
  have hk4 : RowKit.Hid (f.kind = 4 → T.take f = T.takeReset f) := by show _ → _; intro h; unfold Tb.take; rw [h]; rfl
  have hc4 := Lib.hid (takeReset_ok ht HT.out f hf dv rv)
  have hk5 : RowKit.Hid (f.kind = 5 → T.take f = T.takeStop f.id f.code) := by show _ → _; intro h; unfold Tb.take; rw [h]; rfl
  have hc5 := Lib.hid (takeStop_ok ht HT.out f hf dv rv)
  have hk17 : RowKit.Hid (f.kind = 17 → T.take f = T.takeLimit f.id f.a) := by show _ → _; intro h; unfold Tb.take; rw [h]; rfl
  have hc17 := Lib.hid (takeLimit_ok ht HT.out f hf dv rv)
  have hk16 : RowKit.Hid (f.kind = 16 → T.take f = (0, T.takeData f.a)) := by show _ → _; intro h; unfold Tb.take; rw [h]; rfl
  have hc16 := Lib.hid (takeData_ok HT.out f hf dv rv)
  have hk18 : RowKit.Hid (f.kind = 18 → T.take f = (0, T.takeStreams f.a f.flag)) := by show _ → _; intro h; unfold Tb.take; rw [h]; rfl
  have hc18 := Lib.hid (takeStreams_ok HT.out f hf dv rv)
  have hkn : RowKit.Hid (f.kind ≠ 8 → f.kind ≠ 4 → f.kind ≠ 5 → f.kind ≠ 17 → f.kind ≠ 16 → f.kind ≠ 18 → T.take f = (0, T)) := by show _ → _; intro h1 h2 h3 h4 h5 h6; unfold Tb.take; rw [if_neg h1, if_neg h2, if_neg h3, if_neg h4, if_neg h5, if_neg h6]
  have Hn : ∀ kd : Int, kd ≠ 8 → kd ≠ 4 → kd ≠ 5 → kd ≠ 17 → kd ≠ 16 → kd ≠ 18 → mget takeM kd = none := by
    intro kd h1 h2 h3 h4 h5 h6
    simp [takeM, mget, Ne.symm h1, Ne.symm h2, Ne.symm h3, Ne.symm h4, Ne.symm h5, Ne.symm h6]
  have Hlk := Lib.hid hlk; have Hfin := Lib.hid hfin; have HN := Lib.hid Hn
  clear hlk hfin Hn BT HD hs' hl hf
  unfold ptr at hc8 hc4 hc5 hc17 hc16 hc18
  by_cases h8 : f.kind = 8
  · rw [h8] at b0
    have hlk : (Instr.lookup 99 (.map (some W.heap.size)) (.int .i64 8) true).run Tryz.prog w6 = .ok (.tuple #[takeV k 41, .bool true]) w6 := Hlk.out 8
    have HR := Lib.hid (hk8.out h8)
    clear h8
    go_wp2_with (first
      | (refine wpList_look rfl 99 _ _ true rfl _ _ rfl rfl _ hlk ?_; unfold takeV)
      | (refine wpList_load_mid (P := Tryz.prog) rfl 52 _ rfl w.heap.size 0 rfl (f.cells dv rv).toList _ hrg.out Tryz.underlying52 rfl Hsz.out ?_; simp only [Array.toArray_toList])
      | (go_at_call 41; refine hc8.out.mono ?_; rintro e w7 ⟨o7, rfl, h1, h2⟩; have H1 := Lib.hid h1; have H2 := Lib.hid h2; clear h1 h2))
    go_ret
    rw [HR.out]
    exact Hfin.out _ _ _ ⟨o7, rfl, H1.out, H2.out⟩
  by_cases h4 : f.kind = 4
  · rw [h4] at b0
    have hlk : (Instr.lookup 99 (.map (some W.heap.size)) (.int .i64 4) true).run Tryz.prog w6 = .ok (.tuple #[takeV k 42, .bool true]) w6 := Hlk.out 4
    have HR := Lib.hid (hk4.out h4)
    clear h4
    go_wp2_with (first
      | (refine wpList_look rfl 99 _ _ true rfl _ _ rfl rfl _ hlk ?_; unfold takeV)
      | (refine wpList_load_mid (P := Tryz.prog) rfl 52 _ rfl w.heap.size 0 rfl (f.cells dv rv).toList _ hrg.out Tryz.underlying52 rfl Hsz.out ?_; simp only [Array.toArray_toList])
      | (go_at_call 42; refine hc4.out.mono ?_; rintro e w7 ⟨o7, rfl, h1, h2⟩; have H1 := Lib.hid h1; have H2 := Lib.hid h2; clear h1 h2))
    go_ret
    rw [HR.out]
    exact Hfin.out _ _ _ ⟨o7, rfl, H1.out, H2.out⟩
  by_cases h5 : f.kind = 5
  · rw [h5] at b0
    have hlk : (Instr.lookup 99 (.map (some W.heap.size)) (.int .i64 5) true).run Tryz.prog w6 = .ok (.tuple #[takeV k 43, .bool true]) w6 := Hlk.out 5
    have HR := Lib.hid (hk5.out h5)
    clear h5
    go_wp2_with (first
      | (refine wpList_look rfl 99 _ _ true rfl _ _ rfl rfl _ hlk ?_; unfold takeV)
      | (refine wpList_load_mid (P := Tryz.prog) rfl 52 _ rfl w.heap.size 0 rfl (f.cells dv rv).toList _ hrg.out Tryz.underlying52 rfl Hsz.out ?_; simp only [Array.toArray_toList])
      | (go_at_call 43; refine hc5.out.mono ?_; rintro e w7 ⟨o7, rfl, h1, h2⟩; have H1 := Lib.hid h1; have H2 := Lib.hid h2; clear h1 h2))
    go_ret
    rw [HR.out]
    exact Hfin.out _ _ _ ⟨o7, rfl, H1.out, H2.out⟩
  by_cases h17 : f.kind = 17
  · rw [h17] at b0
    have hlk : (Instr.lookup 99 (.map (some W.heap.size)) (.int .i64 17) true).run Tryz.prog w6 = .ok (.tuple #[takeV k 44, .bool true]) w6 := Hlk.out 17
    have HR := Lib.hid (hk17.out h17)
    clear h17
    go_wp2_with (first
      | (refine wpList_look rfl 99 _ _ true rfl _ _ rfl rfl _ hlk ?_; unfold takeV)
      | (refine wpList_load_mid (P := Tryz.prog) rfl 52 _ rfl w.heap.size 0 rfl (f.cells dv rv).toList _ hrg.out Tryz.underlying52 rfl Hsz.out ?_; simp only [Array.toArray_toList])
      | (go_at_call 44; refine hc17.out.mono ?_; rintro e w7 ⟨o7, rfl, h1, h2⟩; have H1 := Lib.hid h1; have H2 := Lib.hid h2; clear h1 h2))
    go_ret
    rw [HR.out]
    exact Hfin.out _ _ _ ⟨o7, rfl, H1.out, H2.out⟩
  by_cases h16 : f.kind = 16
  · rw [h16] at b0
    have hlk : (Instr.lookup 99 (.map (some W.heap.size)) (.int .i64 16) true).run Tryz.prog w6 = .ok (.tuple #[takeV k 45, .bool true]) w6 := Hlk.out 16
    have HR := Lib.hid (hk16.out h16)
    clear h16
    go_wp2_with (first
      | (refine wpList_look rfl 99 _ _ true rfl _ _ rfl rfl _ hlk ?_; unfold takeV)
      | (refine wpList_load_mid (P := Tryz.prog) rfl 52 _ rfl w.heap.size 0 rfl (f.cells dv rv).toList _ hrg.out Tryz.underlying52 rfl Hsz.out ?_; simp only [Array.toArray_toList])
      | (go_at_call 45; refine hc16.out.mono ?_; rintro e w7 ⟨o7, rfl, h1, h2⟩; have H1 := Lib.hid h1; have H2 := Lib.hid h2; clear h1 h2))
    go_ret
    rw [HR.out]
    exact Hfin.out _ _ _ ⟨o7, rfl, H1.out, H2.out⟩
  by_cases h18 : f.kind = 18
  · rw [h18] at b0
    have hlk : (Instr.lookup 99 (.map (some W.heap.size)) (.int .i64 18) true).run Tryz.prog w6 = .ok (.tuple #[takeV k 46, .bool true]) w6 := Hlk.out 18
    have HR := Lib.hid (hk18.out h18)
    clear h18
    go_wp2_with (first
      | (refine wpList_look rfl 99 _ _ true rfl _ _ rfl rfl _ hlk ?_; unfold takeV)
      | (refine wpList_load_mid (P := Tryz.prog) rfl 52 _ rfl w.heap.size 0 rfl (f.cells dv rv).toList _ hrg.out Tryz.underlying52 rfl Hsz.out ?_; simp only [Array.toArray_toList])
      | (go_at_call 46; refine hc18.out.mono ?_; rintro e w7 ⟨o7, rfl, h1, h2⟩; have H1 := Lib.hid h1; have H2 := Lib.hid h2; clear h1 h2))
    go_ret
    rw [HR.out]
    exact Hfin.out _ _ _ ⟨o7, rfl, H1.out, H2.out⟩
  have hlk : (Instr.lookup 99 (.map (some W.heap.size)) (.int .i64 f.kind) true).run Tryz.prog w6 = .ok (.tuple #[.nilFunc, .bool false]) w6 := by
    have := Hlk.out f.kind
    rw [HN.out _ h8 h4 h5 h17 h16 h18] at this
    exact this
  have HR := Lib.hid (hkn.out h8 h4 h5 h17 h16 h18)
  clear h8 h4 h5 h17 h16 h18
  go_wp2_with (refine wpList_look rfl 99 _ _ true rfl _ _ rfl rfl _ hlk ?_)
  go_ret
  rw [HR.out]
  exact Hfin.out _ _ _ ⟨o6, rfl, HT.out, Chg.refl _ _ _⟩
end Go.Proofs.YthliihmhkhabeaaGreatDoor
