/- The streams' table, XIX: part; what a frame of an in part comes to, plain part. No condition. -/
import Derived.Test.YthliihmhkhabeaaGreatDoorIds18
namespace Go.Proofs.YthliihmhkhabeaaGreatDoor
open Go Go.RowKit

theorem mset_self {α : Type} : ∀ {m : List (Nat × α)} {id : Nat} {s : α}, mget m id = some s → mset m id s = m
  | [], id, s, h => by cases h
  | p :: m, id, s, h => by
    unfold mget at h
    unfold mset
    by_cases hp : p.1 = id
    · rw [if_pos hp] at h ⊢
      cases h
      cases hp
      rfl
    · rw [if_neg hp] at h ⊢
      rw [mset_self h]

def overAt (T : Tb) (id : Nat) : Bool := match mget T.m id with
  | none => false
  | some s => s.over
def Tb.come (T : Tb) (id a : Nat) (data : List Nat) (last : Bool) : (Bool × Nat) × Tb :=
  if T.findErr id false ≠ 0 then ((false, T.findErr id false), T)
  else if overAt T id then ((false, 0), T)
  else if 4611686018427387903 < a + data.length then ((false, 1), T)
  else if T.rises id (a + data.length) = false then ((false, 9), T)
  else match mget T.m id with
    | some s => (match s.inn with
      | none => ((false, 1), T)
      | some I => if (I.put a data last).1 = 0 then ((true, 0), T.set id { s with inn := some (I.put a data last).2 }) else ((false, (I.put a data last).1), T))
    | none => if ((In.new T.own.stream).put a data last).1 = 0 then ((true, 0), T.set id { T.fresh id with inn := some ((In.new T.own.stream).put a data last).2 }) else ((false, ((In.new T.own.stream).put a data last).1), T)

def ComePost (w : World) (o : Own) (t : Tag) (k bm : Nat) (id : Nat) (r : (Bool × Nat) × Tb) (e : Ending) (w' : World) : Prop :=
  ∃ p blk' o', e = .returned (.tuple #[p, .int .i64 r.1.2]) ∧ (p = if r.1.1 then ptr (blk' id) else .pointer none) ∧ TbAt w' o' t k bm blk' r.2 ∧ Chg [t] w o w' o'

/-- A tag below the table that no part of it bears. -/
def side (t : Tag) : Tag := 18446744073709551617 :: t
theorem TbAt.side {w w' : World} {o o' : Own} {t : Tag} {k bm : Nat} {blk : Nat → Nat} {T : Tb} (h : TbAt w o t k bm blk T) (hc : Chg [side t] w o w' o') : TbAt w' o' t k bm blk T := by
  obtain ⟨hw, h1, h2, h3⟩ := h
  refine ⟨hw, h1.chg hc (off_child _ _), h2.chg hc (off_sib _ (by decide)), fun p hp => (h3 p hp).chg hc fun u hu => off_deep ?_ hu⟩
  have := hw.id64 p hp
  omega

theorem InRep.put_err {I : In} {a : Nat} {data : List Nat} {last : Bool} (h : (I.put a data last).1 ≠ 0) : (I.put a data last).2 = I := by
  unfold In.put at h ⊢
  split
  · rfl
  · split
    · rfl
    · split
      · rfl
      · rename_i h1 h2 h3; simp [h1, h2, h3] at h

/-- A new stream's in part, made ahead of it, takes the place of its own. -/
theorem comeNew {w4 w5 : World} {o4 : Own} {t : Tag} {k bm kin : Nat} {blk : Nat → Nat} {T : Tb} {id : Nat} {I : In} {e : Ending} (hid : id < 18446744073709551616) (hI : InRep w4 o4 (side t) kin I)
    (hm : MakePost w4 o4 t k bm blk T id e w5) : ∃ ks o6, e = .returned (ptr ks) ∧ (∀ i, w5.frozen? ⟨ks, i, none⟩ = false) ∧ (∃ v, w5.cell? ⟨ks, 1, none⟩ = some v) ∧
      TbAt (w5.setCell ⟨ks, 1, none⟩ (ptr kin)) o6 t k bm (upd blk id ks) (T.set id { T.fresh id with inn := some I }) ∧ Chg [t] w4 o4 (w5.setCell ⟨ks, 1, none⟩ (ptr kin)) o6 := by
  obtain ⟨ks, o5, he, hT, hc⟩ := hm
  have hoff : ∀ u, side t <:+ u → off [0 :: t, (id + 1) :: t] u := by
    intro u hu r hr
    rcases List.mem_cons.1 hr with rfl | hr
    · exact off_one.1 (off_deep (by decide) hu)
    · rw [List.mem_singleton] at hr; subst hr
      exact off_one.1 (off_deep (by omega) hu)
  have hI5 := hI.chg hc (hoff _ (List.suffix_refl _)) (hoff _ (List.suffix_cons _ _))
  obtain ⟨hIw, b, hk1, hk2⟩ := hI5
  have hgs : mget (T.make id).m id = some (T.fresh id) := by simp [Tb.make, mget_mset]
  have hst := hT.st hgs
  rw [upd_same] at hst
  obtain ⟨ko, ki, bt, hat⟩ := hst.at'
  have hsw := hst.1
  have hkb : kin ≠ b := by
    rintro rfl
    have := hk1.2.symm.trans hk2.tag_
    exact absurd this (tag_ne _ _)
  have hre : Chg [side t] w5 o5 w5 ((o5.upd kin (1 :: (id + 1) :: t)).upd b (0 :: 1 :: (id + 1) :: t)) := by
    refine ⟨rfl, rfl, rfl, Nat.le_refl _, fun j hj ho => ⟨rfl, ?_⟩⟩
    rw [Own.upd_ne, Own.upd_ne]
    · rintro rfl; rw [hk1.2] at ho; exact ho _ (by simp) (List.suffix_refl _)
    · rintro rfl; rw [hk2.tag_] at ho; exact ho _ (by simp) (List.suffix_cons _ _)
  have hT6 := hT.side hre
  have hat6 := ((hT6.st hgs))
  rw [upd_same] at hat6
  obtain ⟨ko, ki, bt, hat6⟩ := hat6.at'
  generalize ho6 : (o5.upd kin (1 :: (id + 1) :: t)).upd b (0 :: 1 :: (id + 1) :: t) = o6 at hre hT6 hat6
  have hI6 : InRep w5 o6 (1 :: (id + 1) :: t) kin I := by
    refine ⟨hIw, b, ⟨hk1.1, ?_⟩, ?_⟩
    · rw [← ho6, Own.upd_ne _ _ hkb, Own.upd_same]
    · obtain ⟨es, clk, h1, h2⟩ := hk2
      exact ⟨es, clk, ⟨h1.1, by rw [← ho6, Own.upd_same]⟩, h2⟩
  have hat7 : StAt (w5.setCell ⟨ks, 1, none⟩ (ptr kin)) o6 ((id + 1) :: t) ks (({ T.fresh id with inn := some I } : St).cells ko (some kin) bt) ko (some kin) bt (T.fresh id).out (some I) (T.fresh id).tell := by
    have h1 : StAt w5 o6 ((id + 1) :: t) ks ((T.fresh id).cells ko ki bt) ko (some kin) bt (T.fresh id).out (some I) (T.fresh id).tell := ⟨hat6.at_, hat6.out, hI6, hat6.tell⟩
    exact h1.set 1 (ptr kin)
  have hc7 : Chg [(id + 1) :: t] w5 o6 (w5.setCell ⟨ks, 1, none⟩ (ptr kin)) o6 := (Chg.refl _ w5 o6).setCell _ (.inr hat6.at_.on)
  obtain ⟨x1, x2⟩ := hT6.turn hgs hc7 (s' := { T.fresh id with inn := some I }) (by rw [upd_same]; exact StAt.rep ⟨hsw.max64, hsw.given64, hsw.code64, hsw.in264, hsw.stop64, hsw.taken64, hsw.tk⟩ hat7)
  refine ⟨ks, o6, he, hat6.at_.free, ⟨_, hat6.at_.cells 1⟩, ?_, ?_⟩
  · have e1 : ({ T.make id with m := mset (T.make id).m id { T.fresh id with inn := some I } } : Tb) = T.set id { T.fresh id with inn := some I } := by
      unfold Tb.make Tb.set; simp only [mset_mset]
    rw [← e1]; exact x1
  · exact ((hc.mono fun u hu => below_t u hu).trans (hre.up (List.suffix_cons _ _))).trans x2

/-- A stream's in part was turned by a Put. -/
theorem comeOld {w2 w3 : World} {o2 : Own} {t : Tag} {k bm ki bt : Nat} {ko : Option Nat} {blk : Nat → Nat} {T : Tb} {id : Nat} {s : St} {r : Nat × In} {e : Ending} (hT : TbAt w2 o2 t k bm blk T) (hs : mget T.m id = some s)
    (hst : StAt w2 o2 ((id + 1) :: t) (blk id) (s.cells ko (some ki) bt) ko (some ki) bt s.out s.inn s.tell) (hp : PutPost w2 o2 (1 :: (id + 1) :: t) ki r e w3) :
    e = .returned (.int .i64 r.1) ∧ TbAt w3 o2 t k bm blk (T.set id { s with inn := some r.2 }) ∧ Chg [t] w2 o2 w3 o2 := by
  obtain ⟨he, hc, hI⟩ := hp
  have hsw := (hT.st hs).1
  have h1 := hst.ins hc (inn' := some r.2) hI
  obtain ⟨x1, x2⟩ := hT.turn hs (hc.up (List.suffix_cons _ _)) (s' := { s with inn := some r.2 }) (StAt.rep ⟨hsw.max64, hsw.given64, hsw.code64, hsw.in264, hsw.stop64, hsw.taken64, hsw.tk⟩ h1)
  exact ⟨he, x1, x2⟩
end Go.Proofs.YthliihmhkhabeaaGreatDoor
/- The streams' table, XX: come, walked. No condition. -/
namespace Go.Proofs.YthliihmhkhabeaaGreatDoor
open Go Go.RowKit

set_option maxRecDepth 100000 in
theorem part_nil {w : World} {o : Own} {t : Tag} {k bm : Nat} {blk : Nat → Nat} {T : Tb} (h : TbAt w o t k bm blk T) :
    Calls Tryz.prog 149 #[ptr k, .pointer none] w fun e w' => ∃ kin o', e = .returned (.pointer (some ⟨kin, 0, none⟩)) ∧ Chg [] w o w' o' ∧ InRep w' o' (side t) kin (In.new T.own.stream) := by
  have hc := h.2.1.cells
  have hs := h.1.s100
  unfold Tb.cells at hc
  have HR := Lib.hid (RNew_ok (w := w) o (side t) T.own.stream hs)
  have hsI : (T.own.stream : Int) ≤ 100000 := by omega
  clear h
  unfold ptr
  go_enter Tryz.func149, Tryz.ntmps149
  go_wp2_with (go_at_call 58; refine HR.out.mono ?_; rintro e w' ⟨kin, o', rfl, hk, hch, hI⟩; have Hch := Lib.hid hch; have HI := Lib.hid hI; clear hch hI)
  go_ret
  exact ⟨kin, o', rfl, Hch.out, HI.out⟩
set_option maxRecDepth 100000 in
theorem part_some {w : World} {k b : Nat} {q : Value} (h : w.cell? ⟨b, 1, none⟩ = some q) :
    Calls Tryz.prog 149 #[ptr k, ptr b] w fun e w' => e = .returned q ∧ w = w' := by
  unfold ptr
  go_enter Tryz.func149, Tryz.ntmps149
  go_wp2
  go_ret
  exact ⟨rfl, rfl⟩

theorem off_up {t q s : Tag} (h : off [t] s) (hq : t <:+ q) : off [q] s := off_one.2 fun hh => off_one.1 h (hq.trans hh)

set_option maxHeartbeats 800000 in
set_option maxRecDepth 100000 in
theorem come_ok {w : World} {o : Own} {t s' : Tag} (ht : t ≠ []) {k bm : Nat} {blk : Nat → Nat} {T : Tb} (h : TbAt w o t k bm blk T) (f : Fr) (hf : f.Wf) (dv rv v : Value) (data : List Nat) (hd : Sl w o s' v (data.map bv)) (hs' : off [t] s') (hb : ∀ c ∈ data, c < 256) (hl : data.length ≤ 1000000000000) (last : Bool) :
    Calls Tryz.prog 77 #[ptr k, .agg (f.cells dv rv), v, .bool last] w fun e w' => ComePost w o t k bm f.id (T.come f.id f.a data last) e w' := by
  obtain ⟨C, W, hB⟩ := boxed w f dv rv
  have hW := hB.eq
  have hid := hf.id64
  have ha64 := hf.a64
  have b1 : W.cell? ⟨w.heap.size, 1, none⟩ = some (.int .u64 f.id) := hB.cell 1
  have b2 : W.cell? ⟨w.heap.size, 2, none⟩ = some (.int .u64 f.a) := hB.cell 2
  have BAT := Lib.hid (hB.at_ o)
  have hch0 := Lib.hid (hB.chg' o)
  have hT := hB.tb' h
  have hD := hd.chg (hB.chg' o) (off_nil _)
  have HF := Lib.hid (Tfind_ok hT f.id hid false)
  have HT := Lib.hid hT
  obtain ⟨A, c, rfl, hcap, hcm, _⟩ := id hd
  rw [List.length_map] at hcap hD ⊢
  have HD := Lib.hid hD
  clear hd hD
  have hlI : (data.length : Int) ≤ 1000000000000 := by omega
  rw [← hB.C]
  have hbad : ∀ (r : Nat), (T.come f.id f.a data last) = ((false, r), T) → RowKit.Hid (∀ (w1 : World) (o1 : Own), Chg [] W (boxOwn o w) w1 o1 → ComePost w o t k bm f.id (T.come f.id f.a data last) (.returned (.tuple #[.pointer none, .int .i64 r])) w1) := by
    intro r hr w1 o1 hc
    rw [hr]
    exact ⟨_, blk, o1, rfl, by simp, hT.chg hc (fun _ _ => off_nil _), (hch0.out.trans hc).of_nil⟩
  by_cases he : T.findErr f.id false = 0
  case neg =>
    have hcome : T.come f.id f.a data last = ((false, T.findErr f.id false), T) := by unfold Tb.come; rw [if_pos he]
    have hf := hbad _ hcome
    rw [find_none blk he] at HF
    have hn : (T.findErr f.id false : Int) ≠ 0 := by omega
    generalize T.findErr f.id false = er at *
    have Hf := hf
    clear hbad hcome hf h hT he hB hcap hcm hs' ht hb
    unfold ptr at HF ⊢
    go_enter Tryz.func77, Tryz.ntmps77
    go_upto_region 1 with fail
    rw [← hW]
    clear hW
    go_wp2_with (go_at_call 147; refine HF.out.mono ?_; rintro e w' ⟨rfl, rfl⟩)
    go_ret2
    exact Hf.out _ _ (Chg.refl _ _ _)
  cases hs : mget T.m f.id with
  | none =>
    rw [find_nil blk hs, he] at HF
    have hov : overAt T f.id = false := by unfold overAt; rw [hs]
    have hBl : T.blkOf blk f.id = .pointer none := by unfold Tb.blkOf; rw [hs]; rfl
    by_cases hlong : 4611686018427387903 < f.a + data.length
    · have hcome : T.come f.id f.a data last = ((false, 1), T) := by unfold Tb.come; rw [if_neg (by simp [he]), if_neg (by simp [hov]), if_pos hlong]
      have Hf := hbad _ hcome
      have hlg : (4611686018427387903 : Int) - data.length < f.a := by omega
      clear hbad hcome h hT he hB hcap hcm hs' ht hb hs hov hBl hlong
      unfold ptr at HF ⊢
      go_enter Tryz.func77, Tryz.ntmps77
      go_upto_region 1 with fail
      rw [← hW]
      clear hW
      go_wp2_with (go_at_call 147; refine HF.out.mono ?_; rintro e w' ⟨rfl, rfl⟩)
      go_ret2
      exact Hf.out _ _ (Chg.refl _ _ _)
    · have HR := Lib.hid (rises_ok hT f.id (f.a + data.length) (by omega))
      rw [hBl] at HR
      have hlg : (f.a : Int) ≤ (4611686018427387903 : Int) - data.length := by omega
      cases hri : T.rises f.id (f.a + data.length) with
      | false =>
        have hcome : T.come f.id f.a data last = ((false, 9), T) := by unfold Tb.come; rw [if_neg (by simp [he]), if_neg (by simp [hov]), if_neg hlong, if_pos hri]
        have Hf := hbad _ hcome
        rw [hri] at HR
        clear hbad hcome h hT he hB hcap hcm hs' ht hb hs hov hBl hlong hri
        unfold ptr at HF HR ⊢
        go_enter Tryz.func77, Tryz.ntmps77
        go_upto_region 1 with fail
        rw [← hW]
        clear hW
        go_wp2_with (first
          | (go_at_call 147; refine HF.out.mono ?_; rintro e w' ⟨rfl, rfl⟩)
          | (go_at_call 148; refine HR.out.mono ?_; rintro e w' ⟨rfl, o2, hch⟩; have Hch := Lib.hid hch; clear hch))
        go_ret2
        exact Hf.out _ _ Hch.out
      | true =>
        rw [hri] at HR
        have hso : off [0 :: side t] s' := off_up hs' ((List.suffix_cons _ _).trans (List.suffix_cons _ _))
        have HP := Lib.hid (fun (w2 : World) (o2 : Own) (hc : Chg [] W (boxOwn o w) w2 o2) => part_nil (hT.chg hc fun _ _ => off_nil _))
        have HQ := Lib.hid (fun (w3 : World) (o3 : Own) (kin : Nat) (hc : Chg [] W (boxOwn o w) w3 o3) (hI : InRep w3 o3 (side t) kin (In.new T.own.stream)) => RPut_ok hI f.a ha64 (HD.out.chg hc (off_nil _)) hso hb hl last)
        by_cases hpe : ((In.new T.own.stream).put f.a data last).1 = 0
        · have hcome : T.come f.id f.a data last = ((true, 0), T.set f.id { T.fresh f.id with inn := some ((In.new T.own.stream).put f.a data last).2 }) := by unfold Tb.come; rw [if_neg (by simp [he]), if_neg (by simp [hov]), if_neg hlong, if_neg (by simp [hri]), hs]; simp only [if_pos hpe]
          rw [hcome]
          have Hpe := Lib.hid hpe
          have Hoff := Lib.hid (off_root ht)
          clear hbad hcome h hT he hB hcap hcm hs' hb hs hov hBl hlong hri hpe hso ht
          unfold ptr at HF HR HP ⊢
          go_enter Tryz.func77, Tryz.ntmps77
          go_upto_region 1 with fail
          rw [← hW]
          clear hW
          go_wp2_with (first
            | (go_at_call 147; refine HF.out.mono ?_; rintro e w' ⟨rfl, rfl⟩)
            | (go_at_call 148; refine HR.out.mono ?_; rintro e w2 ⟨rfl, o2, hch⟩; have Hch := Lib.hid hch; clear hch)
            | (go_at_call 149; refine (HP.out _ _ Hch.out).mono ?_; rintro e w3 ⟨kin, o3, rfl, h3, hI⟩; have H3 := Lib.hid (Hch.out.trans h3); have HI := Lib.hid hI; have b3 : w3.cell? ⟨w.heap.size, 2, none⟩ = some (.int .u64 f.a) := (BAT.out.chg (Hch.out.trans h3) (off_nil _)).cells 2; clear h3 hI)
            | (go_at_call 150; refine (HQ.out _ _ _ H3.out HI.out).mono ?_; rintro e w4 ⟨rfl, h4, hI4⟩; rw [Hpe.out]
               have hT4 := ((HT.out.chg H3.out fun _ _ => off_nil _).side h4)
               have HM := Lib.hid (make_ok hT4 f.id hid)
               have HI4 := Lib.hid hI4
               have H4 := Lib.hid (H3.out.of_nil.trans h4)
               have b4 : w4.cell? ⟨w.heap.size, 1, none⟩ = some (.int .u64 f.id) := ((BAT.out.chg H3.out (off_nil _)).chg h4 (off_one.2 (fun hh => by simp [side] at hh))).cells 1
               clear h4 hI4 hT4
               unfold ptr at HM)
            | (go_at_call 29; refine HM.out.mono ?_; intro e w5 hm; obtain ⟨ks, o6, rfl, hfr, ⟨pv, hcl⟩, hx1, hx2⟩ := comeNew hid HI4.out hm; have c1 := hfr 1; have X1 := Lib.hid hx1; have X2 := Lib.hid hx2; clear hm hfr hx1 hx2; unfold ptr at X1 X2 ⊢))
          go_ret2
          refine ⟨_, upd blk f.id ks, o6, rfl, ?_, X1.out, (hch0.out.of_nil.trans (H4.out.up (List.suffix_cons _ _))).trans X2.out⟩
          rw [if_pos rfl, upd_same]
          rfl
        · have hcome : T.come f.id f.a data last = ((false, ((In.new T.own.stream).put f.a data last).1), T) := by unfold Tb.come; rw [if_neg (by simp [he]), if_neg (by simp [hov]), if_neg hlong, if_neg (by simp [hri]), hs]; simp only [if_neg hpe]
          rw [hcome]
          have hpn : (((In.new T.own.stream).put f.a data last).1 : Int) ≠ 0 := by omega
          generalize ((In.new T.own.stream).put f.a data last) = PR at *
          clear hbad hcome h hT he hB hcap hcm hs' hb hs hov hBl hlong hri hpe hso ht
          unfold ptr at HF HR HP ⊢
          go_enter Tryz.func77, Tryz.ntmps77
          go_upto_region 1 with fail
          rw [← hW]
          clear hW
          go_wp2_with (first
            | (go_at_call 147; refine HF.out.mono ?_; rintro e w' ⟨rfl, rfl⟩)
            | (go_at_call 148; refine HR.out.mono ?_; rintro e w2 ⟨rfl, o2, hch⟩; have Hch := Lib.hid hch; clear hch)
            | (go_at_call 149; refine (HP.out _ _ Hch.out).mono ?_; rintro e w3 ⟨kin, o3, rfl, h3, hI⟩; have H3 := Lib.hid (Hch.out.trans h3); have HI := Lib.hid hI; have b3 : w3.cell? ⟨w.heap.size, 2, none⟩ = some (.int .u64 f.a) := (BAT.out.chg (Hch.out.trans h3) (off_nil _)).cells 2; clear h3 hI)
            | (go_at_call 150; refine (HQ.out _ _ _ H3.out HI.out).mono ?_; rintro e w4 ⟨rfl, h4, hI4⟩
               have hT4 := Lib.hid ((HT.out.chg H3.out fun _ _ => off_nil _).side h4)
               have H4 := Lib.hid (H3.out.of_nil.trans h4)
               clear h4 hI4))
          go_ret2
          exact ⟨_, blk, o3, rfl, by simp, hT4.out, (hch0.out.of_nil.trans (H4.out.up (List.suffix_cons _ _)))⟩
  | some s =>
    rw [find_some blk he hs, he] at HF
    obtain ⟨ko, ki, bt, hst⟩ := (hT.st hs).at'
    have c5 := hst.at_.cells 5
    cases hso : s.over with
    | true =>
      have hov : overAt T f.id = true := by unfold overAt; rw [hs]; exact hso
      have hcome : T.come f.id f.a data last = ((false, 0), T) := by unfold Tb.come; rw [if_neg (by simp [he]), if_pos hov]
      have Hf := hbad _ hcome
      have c5' : W.cell? ⟨blk f.id, 5, none⟩ = some (.bool true) := by rw [c5]; show some (Value.bool s.over) = _; rw [hso]
      clear hbad hcome h hT he hB hcap hcm hs' ht hb hs hov hst c5 hso
      unfold ptr at HF ⊢
      go_enter Tryz.func77, Tryz.ntmps77
      go_upto_region 1 with fail
      rw [← hW]
      clear hW
      go_wp2_with (go_at_call 147; refine HF.out.mono ?_; rintro e w' ⟨rfl, rfl⟩)
      go_ret2
      exact Hf.out _ _ (Chg.refl _ _ _)
    | false =>
      have hov : overAt T f.id = false := by unfold overAt; rw [hs]; exact hso
      have c5' : W.cell? ⟨blk f.id, 5, none⟩ = some (.bool false) := by rw [c5]; show some (Value.bool s.over) = _; rw [hso]
      have hBl : T.blkOf blk f.id = ptr (blk f.id) := by unfold Tb.blkOf; rw [hs]; rfl
      clear c5 hso
      by_cases hlong : 4611686018427387903 < f.a + data.length
      · have hcome : T.come f.id f.a data last = ((false, 1), T) := by unfold Tb.come; rw [if_neg (by simp [he]), if_neg (by simp [hov]), if_pos hlong]
        have Hf := hbad _ hcome
        have hlg : (4611686018427387903 : Int) - data.length < f.a := by omega
        clear hbad hcome h hT he hB hcap hcm hs' ht hb hs hov hBl hlong hst
        unfold ptr at HF ⊢
        go_enter Tryz.func77, Tryz.ntmps77
        go_upto_region 1 with fail
        rw [← hW]
        clear hW
        go_wp2_with (go_at_call 147; refine HF.out.mono ?_; rintro e w' ⟨rfl, rfl⟩)
        go_ret2
        exact Hf.out _ _ (Chg.refl _ _ _)
      · have HR := Lib.hid (rises_ok hT f.id (f.a + data.length) (by omega))
        rw [hBl] at HR
        have hlg : (f.a : Int) ≤ (4611686018427387903 : Int) - data.length := by omega
        cases hri : T.rises f.id (f.a + data.length) with
        | false =>
          have hcome : T.come f.id f.a data last = ((false, 9), T) := by unfold Tb.come; rw [if_neg (by simp [he]), if_neg (by simp [hov]), if_neg hlong, if_pos hri]
          have Hf := hbad _ hcome
          rw [hri] at HR
          clear hbad hcome h hT he hB hcap hcm hs' ht hb hs hov hBl hlong hri hst
          unfold ptr at HF HR ⊢
          go_enter Tryz.func77, Tryz.ntmps77
          go_upto_region 1 with fail
          rw [← hW]
          clear hW
          go_wp2_with (first
            | (go_at_call 147; refine HF.out.mono ?_; rintro e w' ⟨rfl, rfl⟩)
            | (go_at_call 148; refine HR.out.mono ?_; rintro e w' ⟨rfl, o2, hch⟩; have Hch := Lib.hid hch; clear hch))
          go_ret2
          exact Hf.out _ _ Hch.out
        | true =>
          rw [hri] at HR
          cases hin : s.inn with
          | none =>
            have hcome : T.come f.id f.a data last = ((false, 1), T) := by unfold Tb.come; rw [if_neg (by simp [he]), if_neg (by simp [hov]), if_neg hlong, if_neg (by simp [hri]), hs]; simp only [hin]
            have Hf := hbad _ hcome
            have hki : ki = none := by
              have := hst.inn
              rw [hin] at this
              cases ki with
              | none => rfl
              | some _ => exact this.elim
            subst hki
            have HC := Lib.hid hst.at_
            have HN := Lib.hid (fun w => RPut_nil (w := w) f.a data.length c A last ha64 hl)
            clear hbad hcome h hT he hB hcap hcm hs' ht hb hs hov hBl hlong hri hst hin
            unfold ptr at HF HR ⊢
            go_enter Tryz.func77, Tryz.ntmps77
            go_upto_region 1 with fail
            rw [← hW]
            clear hW
            go_wp2_with (first
              | (go_at_call 147; refine HF.out.mono ?_; rintro e w' ⟨rfl, rfl⟩)
              | (go_at_call 148; refine HR.out.mono ?_; rintro e w2 ⟨rfl, o2, hch⟩; have Hch := Lib.hid hch; have HP := Lib.hid (part_some (k := k) ((HC.out.chg hch (off_nil _)).cells 1)); have b3 : w2.cell? ⟨w.heap.size, 2, none⟩ = some (.int .u64 f.a) := (BAT.out.chg hch (off_nil _)).cells 2; clear hch; unfold ptr at HP)
              | (go_at_call 149; refine HP.out.mono ?_; rintro e w3 ⟨rfl, rfl⟩; simp only)
              | (go_at_call 150; refine (HN.out _).mono ?_; rintro e w4 ⟨rfl, rfl⟩))
            go_ret2
            exact Hf.out _ _ Hch.out
          | some I =>
            have hI := hst.inn
            rw [hin] at hI
            obtain ⟨kin, rfl, hI⟩ := hI.some'
            have hso : off [0 :: 1 :: (f.id + 1) :: t] s' := off_up hs' ((List.suffix_cons _ _).trans ((List.suffix_cons _ _).trans (List.suffix_cons _ _)))
            have HC := Lib.hid hst.at_
            have HQ := Lib.hid (fun (w3 : World) (o3 : Own) (hc : Chg [] W (boxOwn o w) w3 o3) => (RPut_ok (InRep.chg hI hc (off_nil _) (off_nil _)) f.a ha64 (HD.out.chg hc (off_nil _)) hso hb hl last).mono fun e w4 hp => (⟨comeOld (hT.chg hc fun _ _ => off_nil _) hs (hst.chg hc fun _ _ => off_nil _) hp, hp.2.1⟩ : _ ∧ _))
            by_cases hpe : (I.put f.a data last).1 = 0
            · have hcome : T.come f.id f.a data last = ((true, 0), T.set f.id { s with inn := some (I.put f.a data last).2 }) := by unfold Tb.come; rw [if_neg (by simp [he]), if_neg (by simp [hov]), if_neg hlong, if_neg (by simp [hri]), hs]; simp only [hin, if_pos hpe]
              rw [hcome]
              rw [hpe] at HQ
              clear hbad hcome h hT he hB hcap hcm hs' ht hb hs hov hBl hlong hri hst hin hpe hI
              unfold ptr at HF HR ⊢
              go_enter Tryz.func77, Tryz.ntmps77
              go_upto_region 1 with fail
              rw [← hW]
              clear hW
              go_wp2_with (first
                | (go_at_call 147; refine HF.out.mono ?_; rintro e w' ⟨rfl, rfl⟩)
                | (go_at_call 148; refine HR.out.mono ?_; rintro e w2 ⟨rfl, o2, hch⟩; have Hch := Lib.hid hch; have HP := Lib.hid (part_some (k := k) ((HC.out.chg hch (off_nil _)).cells 1)); have b3 : w2.cell? ⟨w.heap.size, 2, none⟩ = some (.int .u64 f.a) := (BAT.out.chg hch (off_nil _)).cells 2; clear hch; unfold ptr at HP)
                | (go_at_call 149; refine HP.out.mono ?_; rintro e w3 ⟨rfl, rfl⟩; simp only)
                | (go_at_call 150; refine (HQ.out _ _ Hch.out).mono ?_; rintro e w4 ⟨⟨rfl, h4, h5⟩, h6⟩; have H4 := Lib.hid h4; have H5 := Lib.hid h5; clear h4 h5 h6))
              go_ret2
              exact ⟨_, blk, o2, rfl, by rw [if_pos rfl]; rfl, H4.out, (hch0.out.of_nil.trans (Hch.out.of_nil.trans H5.out))⟩
            · have hcome : T.come f.id f.a data last = ((false, (I.put f.a data last).1), T) := by unfold Tb.come; rw [if_neg (by simp [he]), if_neg (by simp [hov]), if_neg hlong, if_neg (by simp [hri]), hs]; simp only [hin, if_neg hpe]
              rw [hcome]
              have hT' : T.set f.id { s with inn := some (I.put f.a data last).2 } = T := by
                unfold Tb.set
                rw [InRep.put_err hpe, ← hin, mset_self hs]
              rw [hT'] at HQ
              have hpn : ((I.put f.a data last).1 : Int) ≠ 0 := by omega
              generalize (I.put f.a data last) = PR at *
              clear hbad hcome h hT he hB hcap hcm hs' ht hb hs hov hBl hlong hri hst hin hpe hI hT'
              unfold ptr at HF HR ⊢
              go_enter Tryz.func77, Tryz.ntmps77
              go_upto_region 1 with fail
              rw [← hW]
              clear hW
              go_wp2_with (first
                | (go_at_call 147; refine HF.out.mono ?_; rintro e w' ⟨rfl, rfl⟩)
                | (go_at_call 148; refine HR.out.mono ?_; rintro e w2 ⟨rfl, o2, hch⟩; have Hch := Lib.hid hch; have HP := Lib.hid (part_some (k := k) ((HC.out.chg hch (off_nil _)).cells 1)); have b3 : w2.cell? ⟨w.heap.size, 2, none⟩ = some (.int .u64 f.a) := (BAT.out.chg hch (off_nil _)).cells 2; clear hch; unfold ptr at HP)
                | (go_at_call 149; refine HP.out.mono ?_; rintro e w3 ⟨rfl, rfl⟩; simp only)
                | (go_at_call 150; refine (HQ.out _ _ Hch.out).mono ?_; rintro e w4 ⟨⟨rfl, h4, h5⟩, h6⟩; have H4 := Lib.hid h4; have H5 := Lib.hid h5; clear h4 h5 h6))
              go_ret2
              exact ⟨_, blk, o2, rfl, by simp, H4.out, (hch0.out.of_nil.trans (Hch.out.of_nil.trans H5.out))⟩
end Go.Proofs.YthliihmhkhabeaaGreatDoor
/- The streams' table, XXI: Stream and Reset frames taken. No condition. -/
namespace Go.Proofs.YthliihmhkhabeaaGreatDoor
open Go Go.RowKit

def topO : Option In → Nat
  | none => 0
  | some I => I.top
theorem topOf_eq (s : St) : s.topOf = topO s.inn := by unfold St.topOf topO; cases s.inn <;> rfl
theorem RTop_opt {w : World} {o : Own} {t : Tag} {ki : Option Nat} {I : Option In} (h : InOpt w o t ki I) :
    Calls Tryz.prog 78 #[optPtr ki] w fun e w' => e = .returned (.int .u64 (topO I : Nat)) ∧ w = w' := by
  cases ki with
  | none =>
    cases I with
    | none => exact RTop_nil
    | some I => exact h.elim
  | some ki =>
    cases I with
    | none => exact h.elim
    | some I => exact RTop_ok h

def Tb.takeStream (T : Tb) (f : Fr) : Nat × Tb := ((T.come f.id f.a f.data f.flag).1.2, (T.come f.id f.a f.data f.flag).2)
def St.resetIn (s : St) (code : Nat) : St := { s with over := true, in2 := code, taken := topO s.inn }
def Tb.takeReset (T : Tb) (f : Fr) : Nat × Tb :=
  ((T.come f.id f.a [] true).1.2, if (T.come f.id f.a [] true).1.1 then (match mget (T.come f.id f.a [] true).2.m f.id with
    | none => (T.come f.id f.a [] true).2
    | some s => { ((T.come f.id f.a [] true).2.set f.id (s.resetIn f.code)) with read := ((T.come f.id f.a [] true).2.read + (topO s.inn + 18446744073709551616 - s.taken) % 18446744073709551616) % 18446744073709551616, tell := true })
    else (T.come f.id f.a [] true).2)

theorem come_some {T : Tb} {id a : Nat} {d : List Nat} {l : Bool} (h : (T.come id a d l).1.1 = true) : ∃ s, mget (T.come id a d l).2.m id = some s := by
  unfold Tb.come at h ⊢
  split at h <;> rename_i h1
  · cases h
  · rw [if_neg h1]
    split at h <;> rename_i h2
    · cases h
    · rw [if_neg h2]
      split at h <;> rename_i h3
      · cases h
      · rw [if_neg h3]
        split at h <;> rename_i h4
        · cases h
        · rw [if_neg h4]
          cases hs : mget T.m id with
          | none =>
            rw [hs] at h
            simp only at h ⊢
            split at h <;> rename_i h5
            · rw [if_pos h5]; exact ⟨_, mget_set _ _ _⟩
            · cases h
          | some s =>
            rw [hs] at h
            simp only at h ⊢
            cases hi : s.inn with
            | none => rw [hi] at h; cases h
            | some I =>
              rw [hi] at h
              simp only at h ⊢
              split at h <;> rename_i h5
              · rw [if_pos h5]; exact ⟨_, mget_set _ _ _⟩
              · cases h

set_option maxHeartbeats 400000 in
set_option maxRecDepth 100000 in
theorem takeStream_ok {w : World} {o : Own} {t s' : Tag} (ht : t ≠ []) {k : Nat} {T : Tb} (h : TbRep w o t k T) (f : Fr) (hf : f.Wf) (dv rv : Value) (hd : Sl w o s' dv (f.data.map bv)) (hs' : off [t] s') (hl : f.data.length ≤ 1000000000000) :
    Calls Tryz.prog 41 #[ptr k, .agg (f.cells dv rv)] w fun e w' => NumPost w o t k (T.takeStream f) e w' := by
  obtain ⟨bm, blk, h⟩ := h
  obtain ⟨C, W, hB⟩ := boxed w f dv rv
  have hW := hB.eq
  have b5 : W.cell? ⟨w.heap.size, 5, none⟩ = some (.bool f.flag) := hB.cell 5
  have b6 : W.cell? ⟨w.heap.size, 6, none⟩ = some dv := hB.cell 6
  have hr : RowKit.Hid (W.rangeAt w.heap.size 0 C.toList) := by have := parRange w C 52; rw [← hB.eq] at this; exact this
  have Hsz : RowKit.Hid ((Tryz.prog.info? 52).map (·.size) = some C.toList.length) := by rw [hB.C]; exact infoFR
  have hch0 := Lib.hid (hB.chg' o)
  have hT := hB.tb' h
  have HC := Lib.hid (come_ok ht hT f hf dv rv dv f.data (hd.chg (hB.chg' o) (off_nil _)) hs' hf.data8 hl f.flag)
  rw [← hB.C] at HC ⊢
  unfold ptr at HC ⊢
  obtain ⟨A, c, rfl, hcap, hcm, _⟩ := id hd
  rw [List.length_map] at *
  clear h hT hB hd
  go_enter Tryz.func41, Tryz.ntmps41
  go_upto_region 1 with fail
  rw [← hW]
  clear hW
  go_wp2_with (first
    | (refine wpList_load_mid (P := Tryz.prog) rfl 52 _ rfl w.heap.size 0 rfl C.toList _ hr.out Tryz.underlying52 rfl Hsz.out ?_; simp only [Array.toArray_toList])
    | (go_at_call 77; refine HC.out.mono ?_; rintro e w1 ⟨p, blk', o1, rfl, hp, hT, hch⟩; have HT := Lib.hid hT; have Hch := Lib.hid (hch0.out.of_nil.trans hch); clear hT hch hp))
  go_ret
  exact ⟨o1, rfl, ⟨bm, blk', HT.out⟩, Hch.out⟩

theorem wrapSub (a b : Nat) (hb : b < 18446744073709551616) : IntKind.u64.wrap ((a : Int) - b) = (((a + 18446744073709551616 - b) % 18446744073709551616 : Nat) : Int) := by
  rw [IntKind.wrap_u64]; omega

/-- The first two stores. -/
theorem resetA {w1 : World} {o1 : Own} {t : Tag} {k bm bt : Nat} {ko ki : Option Nat} {blk : Nat → Nat} {T : Tb} {id code : Nat} {s : St} (hT : TbAt w1 o1 t k bm blk T) (hs : mget T.m id = some s) (hc : code < 18446744073709551616)
    (hst : StAt w1 o1 ((id + 1) :: t) (blk id) (s.cells ko ki bt) ko ki bt s.out s.inn s.tell) {W2 : World} (hW : W2 = ((w1.setCell ⟨blk id, 5, none⟩ (.bool true)).setCell ⟨blk id, 7, none⟩ (.int .u64 code)).drew) :
    TbAt W2 o1 t k bm blk (T.set id { s with over := true, in2 := code }) ∧ StAt W2 o1 ((id + 1) :: t) (blk id) (({ s with over := true, in2 := code } : St).cells ko ki bt) ko ki bt s.out s.inn s.tell ∧ Chg [t] w1 o1 W2 o1 := by
  have hsw := (hT.st hs).1
  have h1 := ((hst.set 5 (.bool true)).set 7 (.int .u64 code)).drewN 1
  have hc1 : Chg [(id + 1) :: t] w1 o1 W2 o1 := by
    rw [hW]
    exact (((Chg.refl _ w1 o1).setCell _ (.inr hst.at_.on)).setCell _ (.inr hst.at_.on)).drewN 1
  have h2 : StAt W2 o1 ((id + 1) :: t) (blk id) (({ s with over := true, in2 := code } : St).cells ko ki bt) ko ki bt s.out s.inn s.tell := by rw [hW]; exact h1
  obtain ⟨x1, x2⟩ := hT.turn hs hc1 (s' := { s with over := true, in2 := code }) (StAt.rep ⟨hsw.max64, hsw.given64, hsw.code64, hc, hsw.stop64, hsw.taken64, hsw.tk⟩ h2)
  exact ⟨x1, h2, x2⟩

/-- The other three. -/
theorem resetB {W2 : World} {o1 : Own} {t : Tag} {k bm bt : Nat} {ko ki : Option Nat} {blk : Nat → Nat} {T : Tb} {id code : Nat} {s : St} (ht : topO s.inn < 18446744073709551616) (htk : s.taken < 18446744073709551616) (hT : TbAt W2 o1 t k bm blk (T.set id { s with over := true, in2 := code }))
    (hst : StAt W2 o1 ((id + 1) :: t) (blk id) (({ s with over := true, in2 := code } : St).cells ko ki bt) ko ki bt s.out s.inn s.tell) :
    TbRep ((((W2.drewN 1).setCell ⟨k, 31, none⟩ (.int .u64 (IntKind.u64.wrap ((T.read : Int) + IntKind.u64.wrap ((topO s.inn : Int) - s.taken))))).setCell ⟨blk id, 13, none⟩ (.int .u64 (topO s.inn))).setCell ⟨k, 32, none⟩ (.bool true)) o1 t k
      { (T.set id (s.resetIn code)) with read := (T.read + (topO s.inn + 18446744073709551616 - s.taken) % 18446744073709551616) % 18446744073709551616, tell := true } ∧
    Chg [t] W2 o1 ((((W2.drewN 1).setCell ⟨k, 31, none⟩ (.int .u64 (IntKind.u64.wrap ((T.read : Int) + IntKind.u64.wrap ((topO s.inn : Int) - s.taken))))).setCell ⟨blk id, 13, none⟩ (.int .u64 (topO s.inn))).setCell ⟨k, 32, none⟩ (.bool true)) o1 := by
  have hWf := hT.1
  have hkt := hT.2.1.2
  have hms : mget (T.set id { s with over := true, in2 := code }).m id = some { s with over := true, in2 := code } := mget_set _ _ _
  have e31 : (IntKind.u64.wrap ((T.read : Int) + IntKind.u64.wrap ((topO s.inn : Int) - s.taken))) = (((T.read + (topO s.inn + 18446744073709551616 - s.taken) % 18446744073709551616) % 18446744073709551616 : Nat) : Int) := by
    rw [wrapSub _ _ htk, wrapAdd]
  rw [e31]
  have hlt := Nat.mod_lt (T.read + (topO s.inn + 18446744073709551616 - s.taken) % 18446744073709551616) (show 0 < 18446744073709551616 by omega)
  generalize (T.read + (topO s.inn + 18446744073709551616 - s.taken) % 18446744073709551616) % 18446744073709551616 = X at *
  have h3 := (hT.drewN 1).store (T' := { (T.set id { s with over := true, in2 := code }) with read := X }) ⟨hWf.own, hWf.d100, hWf.s100, hWf.n60, hWf.o0, hWf.o1, hWf.o2, hWf.o3, hWf.l0, hWf.l1, hWf.stream64, hWf.data64, hlt, hWf.nd, hWf.id64⟩ rfl 31 (.int .u64 X) rfl
  have hsw := (h3.st (id := id) (s := { s with over := true, in2 := code }) hms).1
  have hst3 : StAt ((W2.drewN 1).setCell ⟨k, 31, none⟩ (.int .u64 X)) o1 ((id + 1) :: t) (blk id) (({ s with over := true, in2 := code } : St).cells ko ki bt) ko ki bt s.out s.inn s.tell :=
    (hst.drewN 1).store' (by rw [hkt]; simp) _
  have hst4 := hst3.set 13 (.int .u64 (topO s.inn))
  have hc4 : Chg [(id + 1) :: t] ((W2.drewN 1).setCell ⟨k, 31, none⟩ (.int .u64 X)) o1 (((W2.drewN 1).setCell ⟨k, 31, none⟩ (.int .u64 X)).setCell ⟨blk id, 13, none⟩ (.int .u64 (topO s.inn))) o1 := (Chg.refl _ _ o1).setCell _ (.inr hst.at_.on)
  obtain ⟨x1, x2⟩ := h3.turn (id := id) (s := { s with over := true, in2 := code }) hms hc4 (s' := s.resetIn code) (StAt.rep ⟨hsw.max64, hsw.given64, hsw.code64, hsw.in264, hsw.stop64, ht, hsw.tk⟩ hst4)
  have hWf4 := x1.1
  have h5 := x1.store (T' := { (T.set id (s.resetIn code)) with read := X, tell := true }) (by
      have hm : mset (mset T.m id { s with over := true, in2 := code }) id (s.resetIn code) = mset T.m id (s.resetIn code) := mset_mset _ _ _ _
      have nd := hWf4.nd
      have id64 := hWf4.id64
      simp only [Tb.set] at nd id64
      rw [hm] at nd id64
      exact ⟨hWf.own, hWf.d100, hWf.s100, hWf.n60, hWf.o0, hWf.o1, hWf.o2, hWf.o3, hWf.l0, hWf.l1, hWf.stream64, hWf.data64, hlt, nd, id64⟩) (by
      show mset T.m id (s.resetIn code) = mset (mset T.m id { s with over := true, in2 := code }) id (s.resetIn code)
      rw [mset_mset]) 32 (.bool true) rfl
  refine ⟨⟨bm, blk, h5⟩, ?_⟩
  have hka : ¬ off [t] (o1 k) := by rw [hkt]; exact on_self t
  exact ((((Chg.refl [t] W2 o1).drewN 1).setCell _ (.inr hka)).trans x2).setCell _ (.inr hka)

set_option maxHeartbeats 400000 in
set_option maxRecDepth 100000 in
theorem takeReset_ok {w : World} {o : Own} {t : Tag} (ht : t ≠ []) {k : Nat} {T : Tb} (h : TbRep w o t k T) (f : Fr) (hf : f.Wf) (dv rv : Value) :
    Calls Tryz.prog 42 #[ptr k, .agg (f.cells dv rv)] w fun e w' => NumPost w o t k (T.takeReset f) e w' := by
  obtain ⟨bm, blk, h⟩ := h
  obtain ⟨C, W, hB⟩ := boxed w f dv rv
  have hW := hB.eq
  have hr : RowKit.Hid (W.rangeAt w.heap.size 0 C.toList) := by have := parRange w C 52; rw [← hB.eq] at this; exact this
  have Hsz : RowKit.Hid ((Tryz.prog.info? 52).map (·.size) = some C.toList.length) := by rw [hB.C]; exact infoFR
  have hch0 := Lib.hid (hB.chg' o)
  have hT := hB.tb' h
  have BAT := Lib.hid (hB.at_ o)
  have HC := Lib.hid (come_ok ht hT f hf dv rv (.slice none 0 0) [] (Sl.nil W (boxOwn o w) []) (off_root ht) (fun _ h => by cases h) (by simp) true)
  rw [← hB.C] at HC ⊢
  unfold ptr at HC ⊢
  unfold Tb.takeReset
  generalize hR : T.come f.id f.a [] true = R at *
  have Hoff := Lib.hid (off_root ht)
  cases hok : R.1.1 with
  | false =>
    have HOK := Lib.hid hok
    simp only [Bool.false_eq_true, if_false]
    clear h hT hB hR hok ht
    go_enter Tryz.func42, Tryz.ntmps42
    go_upto_region 1 with fail
    rw [← hW]
    clear hW
    go_wp2_with (first
      | (refine wpList_load_mid (P := Tryz.prog) rfl 52 _ rfl w.heap.size 0 rfl C.toList _ hr.out Tryz.underlying52 rfl Hsz.out ?_; simp only [Array.toArray_toList])
      | (go_at_call 77; refine HC.out.mono ?_; rintro e w1 ⟨p, blk', o1, rfl, hp, hT, hch⟩; rw [HOK.out, if_neg Bool.false_ne_true] at hp; subst hp; have HT := Lib.hid hT; have Hch := Lib.hid (hch0.out.of_nil.trans hch); clear hT hch))
    go_ret
    exact ⟨o1, rfl, ⟨bm, blk', HT.out⟩, Hch.out⟩
  | true =>
    obtain ⟨s, hs⟩ := come_some (T := T) (id := f.id) (a := f.a) (d := []) (l := true) (by rw [hR]; exact hok)
    rw [hR] at hs
    rw [hs]
    have HOK := Lib.hid hok
    simp only [if_true]
    have HS := Lib.hid hs
    clear h hT hB hR hok ht hs
    go_enter Tryz.func42, Tryz.ntmps42
    go_upto_region 1 with fail
    rw [← hW]
    clear hW
    go_upto_region 3 with (first
      | (refine wpList_load_mid (P := Tryz.prog) rfl 52 _ rfl w.heap.size 0 rfl C.toList _ hr.out Tryz.underlying52 rfl Hsz.out ?_; simp only [Array.toArray_toList])
      | (go_at_call 77; refine HC.out.mono ?_; rintro e w1 ⟨p, blk', o1, rfl, hp, hT, hch⟩; rw [HOK.out, if_pos rfl] at hp; subst hp; obtain ⟨ko, ki, bt, c2⟩ := (hT.st HS.out).at'; have b4 : w1.cell? ⟨w.heap.size, 4, none⟩ = some (.int .u64 f.code) := (BAT.out.chg hch Hoff.out).cells 4
         have HT := Lib.hid hT; have Hch := Lib.hid (hch0.out.of_nil.trans hch); have C2 := Lib.hid c2; have c3 := c2.at_.cells; have c4 := c2.at_.free; unfold St.cells at c3; clear hT hch c2; unfold ptr))
    go_region
    go_upto_region 4 with fail
    obtain ⟨W2, hW2⟩ : ∃ W2, W2 = ((w1.setCell ⟨blk' f.id, 5, none⟩ (.bool true)).setCell ⟨blk' f.id, 7, none⟩ (.int .u64 f.code)).drew := ⟨_, rfl⟩
    rw [← hW2]
    obtain ⟨a1, a2, a3⟩ := resetA HT.out HS.out hf.code64 C2.out hW2
    have htop : topO s.inn < 18446744073709551616 := by rw [← topOf_eq]; exact topOf_lt (HT.out.st HS.out)
    have htk := (HT.out.st HS.out).1.taken64
    have HB := Lib.hid (resetB htop htk a1 a2)
    have hkb := a1.2.1.ne a2.at_ (tag_ne t (f.id + 1))
    have hkb' := hkb.symm
    have hkt := a1.2.1.2
    have d1 := a1.2.1.cells
    have d2 := a1.2.1.free
    have d3 := a2.at_.cells
    have d4 := a2.at_.free
    have HR2 := Lib.hid (RTop_opt (a2.drewN 1).inn)
    have HR3 := Lib.hid (fun n x => RTop_opt ((a2.drewN n).store' (p := ⟨k, 31, none⟩) (by rw [hkt]; simp) x).inn)
    have A3 := Lib.hid (Hch.out.trans a3)
    unfold Tb.cells at d1
    unfold St.cells at d3
    simp only [Tb.set] at d1
    clear a1 a2 a3 c3 c4 b4 hkt hW2 htop htk hf HC
    refine wp_region_still_tail 15 (by kernel_rfl) (by kernel_rfl) ?_
    simp only [List.take_succ_cons, List.take_zero, List.drop_succ_cons, List.drop_zero]
    repeat still_step
    still_call (HR2.out.mono fun _ _ ⟨h1, h2⟩ => ⟨h1, h2.symm⟩)
    repeat still_step
    refine wpStill_nil ?_
    go_wp2_with (go_at_call 78; refine (HR3.out 1 _).mono ?_; rintro e w' ⟨rfl, rfl⟩)
    go_ret
    exact ⟨o1, rfl, HB.out.1, A3.out.trans HB.out.2⟩
end Go.Proofs.YthliihmhkhabeaaGreatDoor
