/- The streams' table, XXIX: what of a stream goes out next. No condition. -/
import Derived.Test.YthliihmhkhabeaaGreatDoorIds37
import Derived.Test.YthliihmhkhabeaaGreatDoorIds40
import Derived.Test.YthliihmhkhabeaaGreatDoorIds19
namespace Go.Proofs.YthliihmhkhabeaaGreatDoor
open Go Go.RowKit

def Tb.sumG (T : Tb) : Nat := T.sumF St.given % 18446744073709551616
def St.want (s : St) (O : Out) : Nat := Min.min s.max O.b.length
def Tb.grantC (T : Tb) (s : St) (O : Out) : Bool := decide (s.given < s.want O) && decide (T.sumG < T.data)
def Tb.grant (T : Tb) (s : St) (O : Out) (many : Nat) : Nat := Min.min (Min.min (s.want O - s.given) many) (T.data - T.sumG)
def Tb.lift (T : Tb) (s : St) (O : Out) (many : Nat) : St × Out :=
  if T.grantC s O then ({ s with given := s.given + T.grant s O many }, (O.raise (s.given + T.grant s O many)).1) else (s, O)
def frStream (id a : Nat) (d : List Nat) (fl : Bool) : Fr := { frZ with kind := 8, id := id, a := a, data := d, flag := fl }
def Tb.nextF (T : Tb) (id : Nat) (s : St) (O : Out) (many : Nat) : (Fr × Bool) × Tb :=
  ((frStream id ((T.lift s O many).2.next many).2.1 ((T.lift s O many).2.next many).2.2.1 ((T.lift s O many).2.next many).2.2.2.1, ((T.lift s O many).2.next many).2.2.2.2),
   T.set id { (T.lift s O many).1 with out := some ((T.lift s O many).2.next many).1 })

theorem given_any {w W : World} {o o' : Own} {t : Tag} {k bm : Nat} {blk : Nat → Nat} {T : Tb} (h : TbAt w o t k bm blk T) (hc : Chg [] w o W o') :
    Calls Tryz.prog 70 #[ptr k] W fun e w' => e = .returned (.int .u64 (T.sumG : Nat)) ∧ ∃ o'', Chg [] w o w' o'' :=
  (given_ok (h.chg hc fun _ _ => off_nil _)).mono fun _ _ ⟨h1, o2, h2⟩ => ⟨h1, o2, hc.trans h2⟩

def NextFrPost (w : World) (o : Own) (t : Tag) (k bm : Nat) (blk : Nat → Nat) (td : Tag) (r : (Fr × Bool) × Tb) (e : Ending) (w' : World) : Prop :=
  ∃ dv o', e = .returned (.tuple #[.agg (r.1.1.cells dv nilS), .bool r.1.2]) ∧ Row w' o' td 5 dv (r.1.1.data.map bv) ∧ TbAt w' o' t k bm blk r.2 ∧ Chg [t] w o w' o'

/-- What stands behind the grant. -/
def Lifted (w : World) (o : Own) (t : Tag) (k bm : Nat) (blk : Nat → Nat) (T : Tb) (id : Nat) (s1 : St) (O1 : Out) (wx : World) : Prop :=
  ∃ o', TbAt wx o' t k bm blk (T.set id { s1 with out := some O1 }) ∧ Chg [t] w o wx o'

theorem set_set (T : Tb) (id : Nat) (a b : St) : (T.set id a).set id b = T.set id b := by
  unfold Tb.set; simp only [mset_mset]
/-- The store of what is given; the raise. -/
theorem liftStore {W3 W4 : World} {o3 : Own} {t : Tag} {k bm bt id : Nat} {ko ki : Option Nat} {blk : Nat → Nat} {T : Tb} {s : St} (x : Nat) (hx : x < 18446744073709551616) (hT : TbAt W3 o3 t k bm blk T) (hs : mget T.m id = some s)
    (hst : StAt W3 o3 ((id + 1) :: t) (blk id) (s.cells ko ki bt) ko ki bt s.out s.inn s.tell) (hW : W4 = W3.setCell ⟨blk id, 3, none⟩ (.int .u64 x)) :
    TbAt W4 o3 t k bm blk (T.set id { s with given := x }) ∧ StAt W4 o3 ((id + 1) :: t) (blk id) (({ s with given := x } : St).cells ko ki bt) ko ki bt s.out s.inn s.tell ∧ Chg [t] W3 o3 W4 o3 := by
  have hsw := (hT.st hs).1
  have h1 := hst.set 3 (.int .u64 x)
  rw [← hW] at h1
  have hc : Chg [(id + 1) :: t] W3 o3 W4 o3 := by rw [hW]; exact (Chg.refl _ W3 o3).setCell _ (.inr hst.at_.on)
  obtain ⟨x1, x2⟩ := hT.turn hs hc (s' := { s with given := x }) (StAt.rep (ko := ko) (ki := ki) (bt := bt) ⟨hsw.max64, hx, hsw.code64, hsw.in264, hsw.stop64, hsw.taken64, hsw.tk⟩ h1)
  exact ⟨x1, h1, x2⟩

set_option maxHeartbeats 4000000 in
set_option maxRecDepth 100000 in
theorem Tnext_ok {w : World} {o : Own} {t : Tag} (ht : t ≠ []) {k bm : Nat} {blk : Nat → Nat} {T : Tb} (h : TbAt w o t k bm blk T) (id : Nat) {s : St} (hs : mget T.m id = some s) {O : Out} (hso : s.out = some O) (many : Nat) (hm1 : 1 ≤ many) (hm2 : many ≤ 1000000000) (td : Tag) (htd : off [gtag t] td) :
    Calls Tryz.prog 37 #[ptr k, .int .u64 id, ptr (blk id), .int .i64 many] w fun e w' => NextFrPost w o t k bm blk td (T.nextF id s O many) e w' := by
  obtain ⟨ko, ki, bt, hst⟩ := (h.st hs).at'
  have ho := hst.out
  rw [hso] at ho
  obtain ⟨kO, rfl, ho⟩ := ho.some'
  have hsw := (h.st hs).1
  have hOw := ho.1
  obtain ⟨C0, hC0⟩ : ∃ C0 : Obj, C0 = .cells (frZ.cells nilS nilS) 52 := ⟨_, rfl⟩
  have hch0 := ((Chg.refl [] w o).alloc C0).tag (Nat.le_refl _) (gtag t)
  have hT0 := h.chg hch0 fun _ _ => off_nil _
  have hS0 := hst.chg hch0 fun _ _ => off_nil _
  obtain ⟨W, hW⟩ : ∃ W, W = w.alloc C0 := ⟨_, rfl⟩
  rw [← hW] at hch0 hT0 hS0
  rw [hC0] at hW
  have HW := Lib.hid hW
  have hres : At W (o.upd w.heap.size (gtag t)) w.heap.size (gtag t) (.cells (frZ.cells nilS nilS) 52 (0, 0)) := by rw [hW]; exact At.new w o (gtag t) _
  have HRES := Lib.hid hres; have Hht := Lib.hid ht
  clear hres ht
  clear hW hC0
  go_enter Tryz.func37, Tryz.ntmps37
  go_upto_region 1 with fail
  change Code.wp _ _ _ _ (w.alloc (.cells (frZ.cells nilS nilS) 52))
  rw [← HW.out]
  unfold ptr
  have hcs := hS0.at_.cells
  unfold St.cells at hcs
  simp only [optPtr, ptr] at hcs
  have hON : ∀ n, OutRep (W.drewN n) (o.upd w.heap.size (gtag t)) (0 :: (id + 1) :: t) kO O := fun n => by have := (hS0.drewN n).out; rw [hso] at this; exact this
  have HWr : RowKit.Hid (∀ n, Calls Tryz.prog 69 #[.pointer (some ⟨kO, 0, none⟩)] (W.drewN n) fun e w'' => e = .returned (.int .i64 O.b.length) ∧ ∃ m, w'' = W.drewN m) := fun n => Calls.quiet_of_same ((OWritten_ok (hON n)).mono fun _ _ ⟨h1, h2⟩ => ⟨h1, h2.symm⟩)
  have hbl : (O.b.length : Int) ≤ 2000 := by have := hOw.most; omega
  have hmx := hsw.max64
  have HT0 := Lib.hid hT0; have HS0 := Lib.hid hS0; have HC0 := Lib.hid hch0; have HST := Lib.hid hst; have HSO := Lib.hid hso; have HSS := Lib.hid hs
  clear hT0 hS0 hch0 hst hso hs hON h ho
  go_quiet ((go_at_call 69; exact HWr.out _))
  go_upto_region 2 with fail
  have hT1 := HT0.out.drewN nq
  have hS1 := HS0.out.drewN nq
  have hC1 : Chg [] W (o.upd w.heap.size (gtag t)) (W.drewN nq) (o.upd w.heap.size (gtag t)) := (Chg.refl _ _ _).drewN nq
  obtain ⟨wI, hwI⟩ : ∃ wI : Int, wI = min (s.max : Int) (O.b.length : Int) := ⟨_, rfl⟩
  rw [← hwI]
  have hwn : wI = (s.want O : Nat) := by rw [hwI]; unfold St.want; omega
  clear hcs HWr HT0 HS0 hwI HST
  generalize W.drewN nq = V at *
  generalize o.upd w.heap.size (gtag t) = o0 at *
  have hc1 := hT1.2.1.cells
  have hs1 := hS1.at_.cells
  unfold Tb.cells at hc1
  unfold St.cells at hs1
  simp only [optPtr, ptr] at hs1
  have HT1 := Lib.hid hT1; have HS1 := Lib.hid hS1; have HC1 := Lib.hid hC1; have HWN := Lib.hid hwn
  have hd64 := hT1.1.data64
  have hg64 := hsw.given64
  have hnb : wI ≤ 2000 := by rw [hwn]; unfold St.want; omega
  have hn0 : 0 ≤ wI := by rw [hwn]; omega
  clear hwn
  have HTS : RowKit.Hid (∀ X, (X.cell? ⟨blk id, 3, none⟩ = some (.int .u64 s.given) ∧ X.cell? ⟨k, 30, none⟩ = some (.int .u64 T.data) ∧ RowKit.Hid (∃ o', Chg [] W o0 X o' ∧ TbAt X o' t k bm blk T)) → Calls Tryz.prog 70 #[.pointer (some ⟨k, 0, none⟩)] X fun e w' => e = .returned (.int .u64 (T.sumG : Nat)) ∧ (w'.cell? ⟨blk id, 3, none⟩ = some (.int .u64 s.given) ∧ w'.cell? ⟨k, 30, none⟩ = some (.int .u64 T.data) ∧ RowKit.Hid (∃ o', Chg [] W o0 w' o' ∧ TbAt w' o' t k bm blk T))) := by
    show ∀ X, _ → _
    rintro X ⟨_, _, o1, hch, hTX⟩
    refine (given_ok hTX).mono ?_
    rintro e w' ⟨rfl, o2, h2⟩
    have h3 := hTX.chg h2 (fun _ _ => off_nil _)
    obtain ⟨_, _, _, h4⟩ := (h3.st HSS.out).at'
    exact ⟨rfl, h4.at_.cells 3, h3.2.1.cells 30, o2, hch.trans h2, h3⟩
  have S0 : V.drew.cell? ⟨blk id, 3, none⟩ = some (.int .u64 s.given) ∧ V.drew.cell? ⟨k, 30, none⟩ = some (.int .u64 T.data) ∧ RowKit.Hid (∃ o', Chg [] W o0 V.drew o' ∧ TbAt V.drew o' t k bm blk T) := ⟨hs1 3, hc1 30, o0, hC1.drewN 1, hT1.drewN 1⟩
  clear hT1 hS1 hC1
  go_cut [40] from 26 (fun b wx => b = .bool (T.grantC s O) ∧ RowKit.Hid (∃ o', Chg [] W o0 wx o' ∧ TbAt wx o' t k bm blk T))
  case first =>
    by_cases hw : (s.given : Int) < wI
    · have hd : decide ((s.given : Int) < wI) = true := decide_eq_true hw
      have HG : RowKit.Hid (T.grantC s O = decide (T.sumG < T.data)) := by
        show _ = _; unfold Tb.grantC; rw [decide_eq_true (show s.given < s.want O by have := HWN.out; omega), Bool.true_and]
      go_region_held3 (fun X => X.cell? ⟨blk id, 3, none⟩ = some (.int .u64 s.given) ∧ X.cell? ⟨k, 30, none⟩ = some (.int .u64 T.data) ∧ RowKit.Hid (∃ o', Chg [] W o0 X o' ∧ TbAt X o' t k bm blk T)) (first | exact S0 | assumption)
        (first | (go_at_call 70; refine (HTS.out _ (by assumption)).mono ?_; rintro e w' ⟨rfl, hS'⟩))
      go_wp2
      go_meet
      exact ⟨by rw [HG.out], hS'.2.2⟩
    · have hd : decide ((s.given : Int) < wI) = false := decide_eq_false hw
      have HG : RowKit.Hid (T.grantC s O = false) := by
        show _ = _; unfold Tb.grantC; rw [decide_eq_false (show ¬ s.given < s.want O by have := HWN.out; omega), Bool.false_and]
      go_quiet (fail)
      go_wp2
      go_meet
      exact ⟨by rw [HG.out], o0, HC1.out.drewN _, HT1.out.drewN _⟩
  clear S0 hs1 hc1 HC1 HT1 HS1 HTS
  obtain ⟨rfl, hcut⟩ := hcut
  obtain ⟨o1, hC2, hT2⟩ := hcut.out
  clear hcut
  have HC2 := Lib.hid hC2; have HT2 := Lib.hid hT2
  have h3 := (hT2.st HSS.out).at'
  obtain ⟨ko2, ki2, bt2, hS2⟩ := h3
  have HS2 := Lib.hid hS2
  go_upto_if 40 with fail
  go_cut [10] from 26 (fun x wx => x = .int .u64 wI ∧ RowKit.Hid (Lifted W o0 t k bm blk T id (T.lift s O many).1 (T.lift s O many).2 wx))
  case first =>
    cases hg : T.grantC s O with
    | false =>
      clear hC2 hT2 hS2
      go_wp2
      go_meet
      refine ⟨rfl, o1, ?_, HC2.out.of_nil⟩
      have e1 : T.lift s O many = (s, O) := by unfold Tb.lift; rw [hg]; rfl
      have e2 : T.set id { s with out := some O } = T := by
        unfold Tb.set
        rw [← HSO.out, mset_self HSS.out]
      rw [e1, e2]
      exact HT2.out
    | true =>
      have hgl : (s.given : Int) < wI ∧ T.sumG < T.data := by
        unfold Tb.grantC at hg
        simp only [Bool.and_eq_true, decide_eq_true_eq] at hg
        have := HWN.out
        exact ⟨by omega, hg.2⟩
      obtain ⟨hgl1, hgl2⟩ := hgl
      have hg0 := Lib.hid hg
      obtain ⟨X, F, hF, hFS⟩ := family (fun Z => ∃ o', Chg [] W o0 Z o' ∧ TbAt Z o' t k bm blk T)
      obtain ⟨x0, hx0⟩ := hFS wc.drew ⟨o1, hC2.drewN 1, hT2.drewN 1⟩
      have : Nonempty X := ⟨x0⟩
      have hFd : ∀ x, (F x).cell? ⟨k, 30, none⟩ = some (.int .u64 T.data) := fun x => by
        obtain ⟨o', _, h⟩ := hF x
        exact h.2.1.cells 30
      have hFg : ∀ x, (F x).cell? ⟨blk id, 3, none⟩ = some (.int .u64 s.given) := fun x => by
        obtain ⟨o', _, h⟩ := hF x
        obtain ⟨_, _, _, h4⟩ := (h.st HSS.out).at'
        exact h4.at_.cells 3
      have HFG : RowKit.Hid (∀ x, Calls Tryz.prog 70 #[.pointer (some ⟨k, 0, none⟩)] (F x) fun e w'' => e = .returned (.int .u64 (T.sumG : Nat)) ∧ ∃ x', w'' = F x') := by
        show ∀ x, _
        intro x
        obtain ⟨o', hc', h⟩ := hF x
        refine (given_ok h).mono ?_
        rintro e w' ⟨rfl, o2, h2⟩
        obtain ⟨x', hx'⟩ := hFS w' ⟨o2, hc'.trans h2, h.chg h2 fun _ _ => off_nil _⟩
        exact ⟨rfl, x', hx'.symm⟩
      have HF := Lib.hid hF
      have Hx0 := Lib.hid hx0
      clear hC2 hT2 hS2 hg hFS hF hx0
      go_upto_region 3 with fail
      refine wp_region_quiet_tail F 23 (by kernel_rfl) (by kernel_rfl) x0 Hx0.out ?_
      simp only [List.take_succ_cons, List.take_zero, List.drop_succ_cons, List.drop_zero]
      repeat (go_big_quiet_step ((go_at_call 70; exact HFG.out _)))
      refine wpQuiet_nil ?_
      intro x
      obtain ⟨o3, hC3, hT3⟩ := HF.out x
      have hS3 := hT3.st HSS.out
      obtain ⟨ko3, ki3, bt3, hS3⟩ := hS3.at'
      have HC3 := Lib.hid hC3; have HT3 := Lib.hid hT3; have HS3 := Lib.hid hS3
      have hc3 := hS3.at_.cells
      have hf3 := hS3.at_.free
      unfold St.cells at hc3
      clear hC3 hT3 hS3 hFd hFg HFG HF Hx0
      generalize F x = W3 at *
      go_upto_region 4 with fail
      obtain ⟨gI, hgI⟩ : ∃ gI : Int, gI = (if (T.data : Int) - T.sumG < if (many : Int) < wI - s.given then (many : Int) else wI - s.given then (T.data : Int) - T.sumG else if (many : Int) < wI - s.given then (many : Int) else wI - s.given) := ⟨_, rfl⟩
      rw [← hgI]
      have hgN : gI = (T.grant s O many : Nat) := by
        have hwn := HWN.out
        rw [hgI]
        unfold Tb.grant
        split <;> split <;> omega
      have hxe : (s.given : Int) + gI = ((s.given + T.grant s O many : Nat) : Int) := by rw [hgN]; omega
      rw [hxe]
      have hx64 : s.given + T.grant s O many < 18446744073709551616 := by
        have hwn := HWN.out
        have : T.grant s O many ≤ s.want O - s.given := Nat.le_trans (Nat.min_le_left _ _) (Nat.min_le_left _ _)
        omega
      have hxI : ((s.given + T.grant s O many : Nat) : Int) < 18446744073709551616 := by omega
      obtain ⟨W4, hW4⟩ : ∃ W4, W4 = W3.setCell ⟨blk id, 3, none⟩ (.int .u64 (s.given + T.grant s O many : Nat)) := ⟨_, rfl⟩
      rw [← hW4]
      obtain ⟨y1, y2, y3⟩ := liftStore _ hx64 HT3.out HSS.out HS3.out hW4
      have HY1 := Lib.hid y1; have HY2 := Lib.hid y2; have HY3 := Lib.hid y3
      have hL : RowKit.Hid (T.lift s O many = ({ s with given := s.given + T.grant s O many }, (O.raise (s.given + T.grant s O many)).1)) := by show _ = _; unfold Tb.lift; rw [hg0.out]; rfl
      generalize s.given + T.grant s O many = x3 at *
      have hc4 := y2.at_.cells
      unfold St.cells at hc4
      have ho4 := (y2.drewN 1).out
      rw [HSO.out] at ho4
      obtain ⟨k3, rfl, ho4⟩ := ho4.some'
      simp only [optPtr, ptr] at hc4
      have HR := Lib.hid (ORaise_ok ho4 hx64)
      clear y1 y2 y3 ho4 hW4 hgI hgN hxe hc3 hf3
      refine wp_region_still_tail 8 (by kernel_rfl) (by kernel_rfl) ?_
      simp only [List.take_succ_cons, List.take_zero, List.drop_succ_cons, List.drop_zero]
      repeat still_step
      refine wpStill_nil ?_
      go_wp2_with (go_at_call 71; refine HR.out.mono ?_; rintro e w5 ⟨rfl, h5, h6⟩; have H5 := Lib.hid h5; have H6 := Lib.hid h6; clear h5 h6)
      go_meet
      obtain ⟨z1, z2⟩ := outTurn (HY1.out.drewN 1) (mget_set _ _ _) (HY2.out.drewN 1) H5.out H6.out
      refine ⟨rfl, o3, ?_, ((HC3.out.of_nil.trans HY3.out).drewN 1).trans z2⟩
      rw [hL.out]
      rw [set_set] at z1
      exact z1
  obtain ⟨rfl, hcut⟩ := hcut
  obtain ⟨o5, hT5, hC5⟩ := hcut.out
  clear hcut
  have hl := mget_set T id { (T.lift s O many).1 with out := some (T.lift s O many).2 }
  obtain ⟨ko5, ki5, bt5, hS5⟩ := (hT5.st hl).at'
  have ho5 := hS5.out
  simp only at ho5
  obtain ⟨k5, rfl, ho5⟩ := ho5.some'
  have hc5 := hS5.at_.cells 0
  have hc5' : wc.cell? ⟨blk id, 0, none⟩ = some (.pointer (some ⟨k5, 0, none⟩)) := hc5
  have HN := Lib.hid (ONext_ok ho5 many hm1 hm2 td)
  have HR5 := Lib.hid (HRES.out.chg hC5 (off_gtag Hht.out))
  have HT5 := Lib.hid hT5; have HC5 := Lib.hid hC5; have HS5 := Lib.hid hS5; have HL := Lib.hid hl
  clear hT5 hC5 hS5 ho5 hc5 hl HC2 HT2 HS2 HWN hd64 hg64 hsw hOw
  unfold NextPost at HN
  go_upto_region 6 with (go_at_call 72; refine HN.out.mono ?_; rintro e w6 ⟨v, o6, rfl, h1, h2, h3⟩; have H1 := Lib.hid h1; have H2 := Lib.hid h2; have H3 := Lib.hid h3; obtain ⟨A6, n6, c6, rfl⟩ := h1.shape3; clear h1 h2 h3)
  have hR6 := HR5.out.chg H2.out (L := [0 :: (id + 1) :: t]) (off_up (off_gtag Hht.out) ((List.suffix_cons _ _).trans (List.suffix_cons _ _)))
  have hth : w6.there w.heap.size 0 24 := there_of hR6
  have hR7 := Lib.hid hR6
  generalize hr : (T.lift s O many).2.next many = r at *
  have HFR : RowKit.Hid (T.nextF id s O many = ((frStream id r.2.1 r.2.2.1 r.2.2.2.1, r.2.2.2.2), T.set id { (T.lift s O many).1 with out := some r.1 })) := by show _ = _; unfold Tb.nextF; rw [hr]
  have hall : ((frStream id r.2.1 r.2.2.1 r.2.2.2.1).cells (.slice A6 n6 c6) nilS).all (·.oneCell') = true := frAll _ H1.out.sl
  clear hR6 hr
  go_wp2_with (refine wpList_store_mid (P := Tryz.prog) rfl 52 _ _ rfl w.heap.size 0 ((frStream id r.2.1 r.2.2.1 r.2.2.2.1).cells (.slice A6 n6 c6) nilS) rfl rfl hth infoFR hall ?_)
  have hrg : (w6.setCells w.heap.size 0 ((frStream id r.2.1 r.2.2.1 r.2.2.2.1).cells (.slice A6 n6 c6) nilS).toList).rangeAt w.heap.size 0 ((frStream id r.2.1 r.2.2.1 r.2.2.2.1).cells (.slice A6 n6 c6) nilS).toList := World.rangeAt_setCells_same _ _ _ _ hth
  refine bodyPost_ret (results_cell_mid rfl _ _ w.heap.size _ _ rfl hrg Tryz.underlying52 rfl infoFR) rfl ?_
  rw [HFR.out]
  obtain ⟨x1, x2⟩ := outTurn HT5.out HL.out HS5.out H2.out H3.out
  rw [set_set] at x1
  have hk7 : ¬ off [gtag t] (o6 w.heap.size) := by rw [hR7.out.2]; exact on_self _
  have hc7 : Chg [gtag t] w6 o6 (w6.setCells w.heap.size 0 ((frStream id r.2.1 r.2.2.1 r.2.2.2.1).cells (.slice A6 n6 c6) nilS).toList) o6 := Chg.setCells _ _ _ (Chg.refl _ _ _) (.inr hk7)
  refine ⟨.slice A6 n6 c6, o6, by rw [Array.toArray_toList]; rfl, H1.out.chg hc7 htd, x1.aside Hht.out hc7, ?_⟩
  exact Chg.setCells _ _ _ ((HC0.out.of_nil.trans HC5.out).trans x2) (.inl (Nat.le_refl _))
end Go.Proofs.YthliihmhkhabeaaGreatDoor
