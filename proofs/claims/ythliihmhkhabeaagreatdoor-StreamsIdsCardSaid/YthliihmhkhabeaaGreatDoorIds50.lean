/- Own streams are opened in order: the walk. No condition but what stands in the library's table. -/
import Derived.Test.YthliihmhkhabeaaGreatDoorIds48
namespace Go.Proofs.YthliihmhkhabeaaGreatDoor
open Go Go.RowKit

/-- What holds of the table while streams are opened. -/
structure IdsInv (c : Bool) (T : Tb) (n0 n1 : Nat) : Prop where
  cl : T.client = c
  l0 : T.lim0 = 8
  l1 : T.lim1 = 8
  o0 : T.opened (T.kind false) = n0
  o1 : T.opened (T.kind true) = n1
  b0 : n0 ≤ 8
  b1 : n1 ≤ 8
  len : T.m.length = n0 + n1
  keys : ∀ p ∈ T.m, p.1 % 4 = bitN (!c) ∧ p.1 / 4 < n0 ∨ p.1 % 4 = 2 + bitN (!c) ∧ p.1 / 4 < n1
theorem bitN_lt (b : Bool) : bitN b < 2 := by cases b <;> decide
theorem opened_bump (T : Tb) (i j : Nat) (hi : i < 4) (hj : j < 4) : (T.bump i).opened j = T.opened j + (if i = j then 1 else 0) := by
  rcases (by omega : i = 0 ∨ i = 1 ∨ i = 2 ∨ i = 3) with rfl | rfl | rfl | rfl <;> rcases (by omega : j = 0 ∨ j = 1 ∨ j = 2 ∨ j = 3) with rfl | rfl | rfl | rfl <;> rfl
theorem bump_client (T : Tb) (i : Nat) : (T.bump i).client = T.client ∧ (T.bump i).lim0 = T.lim0 ∧ (T.bump i).lim1 = T.lim1 ∧ (T.bump i).m = T.m := by
  unfold Tb.bump; split <;> exact ⟨rfl, rfl, rfl, rfl⟩
theorem mset_app {id : Nat} {s : St} : ∀ {m : List (Nat × St)}, id ∉ m.map (·.1) → mset m id s = m ++ [(id, s)]
  | [], _ => rfl
  | p :: m, h => by
    simp only [List.map_cons, List.mem_cons, not_or] at h
    unfold mset
    rw [if_neg (Ne.symm h.1), mset_app h.2]
    rfl
theorem kind_val (T : Tb) (one : Bool) : T.kind one = 2 * bitN one + bitN (!T.client) := rfl
/-- Behind an Open. -/
theorem IdsInv.open_ {c : Bool} {T : Tb} {n0 n1 : Nat} (h : IdsInv c T n0 n1) (one : Bool) :
    (if one then n1 else n0) < 8 ∧ (T.open_ one).1 = (4 * (if one then n1 else n0) + (2 * bitN one + bitN (!c)), 0) ∧ IdsInv c (T.open_ one).2 (if one then n0 else n0 + 1) (if one then n1 + 1 else n1) ∨
    ¬ (if one then n1 else n0) < 8 ∧ (T.open_ one).1 = (0, 5) ∧ (T.open_ one).2 = T := by
  have hlim : T.lim one = 8 := by unfold Tb.lim; cases one; exact h.l0; exact h.l1
  have hop : T.opened (T.kind one) = if one then n1 else n0 := by cases one; exact h.o0; exact h.o1
  have hk : T.kind one = 2 * bitN one + bitN (!c) := by rw [kind_val, h.cl]
  unfold Tb.open_
  rw [hlim, hop]
  generalize hn : (if one then n1 else n0) = n at *
  by_cases h8 : n < 8
  · refine .inl ⟨h8, ?_, ?_⟩
    · rw [if_neg (by omega), hk]
    · rw [if_neg (by omega)]
      have hc := bitN_lt (!c)
      have hb := bump_client T (T.kind one)
      have hid : (4 * n + T.kind one) ∉ (T.bump (T.kind one)).m.map (·.1) := by
        rw [hb.2.2.2]
        intro hm
        obtain ⟨p, hp, he⟩ := List.mem_map.1 hm
        rcases h.keys p hp with ⟨h1, h2⟩ | ⟨h1, h2⟩
        · rw [he] at h1 h2
          cases one with
          | false => simp at hn; simp [hk, bitN] at h1 h2; omega
          | true => rw [hk] at h1; simp only [bitN, if_true] at h1; omega
        · rw [he] at h1 h2
          cases one with
          | false => rw [hk] at h1; simp [bitN] at h1; omega
          | true => simp at hn; rw [hk] at h2; simp only [bitN, if_true] at h2; omega
      have hm : ((T.bump (T.kind one)).make (4 * n + T.kind one)).m = T.m ++ [(4 * n + T.kind one, (T.bump (T.kind one)).fresh (4 * n + T.kind one))] := by
        show mset _ _ _ = _
        rw [mset_app hid, hb.2.2.2]
      have hk4 : ∀ b : Bool, T.kind b < 4 := fun b => by have := bitN_lt b; rw [kind_val, h.cl]; omega
      have hoc : ∀ b : Bool, ((T.bump (T.kind one)).make (4 * n + T.kind one)).opened (T.kind b) = T.opened (T.kind b) + if one = b then 1 else 0 := fun b => by
        show (T.bump (T.kind one)).opened (T.kind b) = _
        rw [opened_bump T _ _ (hk4 _) (hk4 _)]
        congr 1
        cases one <;> cases b <;> simp [kind_val, bitN]
      have hkk : ∀ b : Bool, ((T.bump (T.kind one)).make (4 * n + T.kind one)).kind b = T.kind b := fun b => by
        show 2 * bitN b + bitN (!(T.bump (T.kind one)).client) = _
        rw [hb.1]; rfl
      refine ⟨hb.1.trans h.cl, hb.2.1.trans h.l0, hb.2.2.1.trans h.l1, ?_, ?_, ?_, ?_, ?_, ?_⟩
      · rw [hkk, hoc, h.o0]; cases one <;> simp
      · rw [hkk, hoc, h.o1]; cases one <;> simp
      · have := h.b0; cases one <;> simp at hn ⊢ <;> omega
      · have := h.b1; cases one <;> simp at hn ⊢ <;> omega
      · rw [hm, List.length_append, h.len]; cases one <;> simp <;> omega
      · intro p hp
        rw [hm, List.mem_append, List.mem_singleton] at hp
        rcases hp with hp | rfl
        · rcases h.keys p hp with ⟨h1, h2⟩ | ⟨h1, h2⟩
          · left; refine ⟨h1, ?_⟩; cases one <;> simp <;> omega
          · right; refine ⟨h1, ?_⟩; cases one <;> simp <;> omega
        · cases one with
          | false =>
            left
            simp only [Bool.false_eq_true, if_false] at hn ⊢
            rw [hk, show bitN false = 0 from rfl]
            constructor <;> omega
          | true =>
            right
            simp only [if_true] at hn ⊢
            rw [hk, show bitN true = 1 from rfl]
            constructor <;> omega
  · exact .inr ⟨h8, by rw [if_pos (by omega)], by rw [if_pos (by omega)]⟩
theorem idsInv0 (c : Bool) : IdsInv c ((Tb.new c ownP).peer ownP) 0 0 := by
  cases c <;> exact ⟨rfl, rfl, rfl, rfl, rfl, by omega, by omega, rfl, fun p hp => by cases hp⟩
end Go.Proofs.YthliihmhkhabeaaGreatDoor
/- Own streams are opened in order: the walk. No condition but what stands in the library's table. -/
namespace Go.Proofs.YthliihmhkhabeaaGreatDoor
open Go Go.RowKit

/-- The bools that came in; the counts. -/
def idE (v : Value) (l : List Bool) : World → Own → Prop := fun w o => Sl w o [] v (l.map Value.bool)
theorem idE_ok (v : Value) (l : List Bool) : Stays tagA (idE v l) := fun _ _ _ _ hc h => h.chg hc (off_root tagA_ne)
def cnt (n0 n1 : Nat) : Obj := .cells #[.int .u64 n0, .int .u64 n1] 32 (0, 0)
def idF (v : Value) (l : List Bool) (nb n0 n1 : Nat) : World → Own → Prop := fun w o => Sl w o [] v (l.map Value.bool) ∧ At w o nb [30] (cnt n0 n1)
theorem idF_ok (v : Value) (l : List Bool) (nb n0 n1 : Nat) : Stays tagA (idF v l nb n0 n1) := (idE_ok v l).and fun _ _ _ _ hc h => h.chg hc (lastOff tagA_ne (b := [30]) (by simp) (by decide) (by simp))

section
variable {w X : World} {k nb n0 n1 : Nat} {T : Tb} {v : Value} {l : List Bool}
theorem idStart (hg : GTab w (fun _ => [])) (hv : Sl w (fun _ => []) [] v (l.map Value.bool)) {w1 w2 : World} {o1 o2 : Own} (_h0 : Below w.heap.size w X) {ox : Own} (hx : Chg [] w (fun _ => []) X ox) (h1 : Chg [] X ox w1 o1) (h2 : Chg [] w1 o1 w2 o2) (hT : TbRep w2 o2 tagA k T) : Sys w tagA k T (idE v l) w2 := by
  have hc := (hx.trans h1).trans h2
  exact ⟨o2, hT, hg.chg hc (off_nil _), hc.of_nil, hv.chg hc (off_nil _)⟩
theorem idBox (h : Sys w tagA k T (idE v l) X) : Sys w tagA k T (idF v l X.heap.size 0 0) (X.alloc (.cells #[.int .u64 0, .int .u64 0] 32)) := by
  obtain ⟨ox, h1, h2, h3, h4⟩ := h
  have hc := ((Chg.refl [] X ox).alloc (.cells #[.int .u64 0, .int .u64 0] 32)).tag (Nat.le_refl _) [30]
  exact ⟨_, h1.chg hc fun _ _ => off_nil _, h2.chg hc (off_nil _), h3.trans hc.of_nil, h4.chg hc (off_nil _), At.new X ox [30] _⟩
theorem idNb (h : Sys w tagA k T (idF v l nb n0 n1) X) : X.cell? ⟨nb, 0, none⟩ = some (.int .u64 n0) ∧ X.cell? ⟨nb, 1, none⟩ = some (.int .u64 n1) ∧ (∀ i, X.frozen? ⟨nb, i, none⟩ = false) := by
  obtain ⟨ox, h1, h2, h3, h4, h5⟩ := h
  exact ⟨h5.cells 0, h5.cells 1, h5.free⟩
theorem idAt (h : Sys w tagA k T (idF v l nb n0 n1) X) {j : Nat} {b : Bool} (hj : l[j]? = some b) : ∃ A f c, v = .slice (some ⟨A, f, none⟩) l.length c ∧ X.cell? ⟨A, f + j, none⟩ = some (.bool b) := by
  obtain ⟨ox, h1, h2, h3, ⟨A, c, rfl, e1, e2, hz, e3⟩, h5⟩ := h
  have hjl : j < l.length := (List.getElem?_eq_some_iff.1 hj).1
  obtain ⟨b', f, rfl, _, hcell⟩ := e3 (by rw [List.length_map]; omega)
  refine ⟨b', f, c, by rw [List.length_map], ?_⟩
  rw [hcell j (by rw [List.length_map]; exact hjl), List.getElem?_map, hj]
  rfl
theorem idStore (h : Sys w tagA k T (idF v l nb n0 n1) X) (hnb : w.heap.size ≤ nb) (one : Bool) :
    Sys w tagA k T (idF v l nb (if one then n0 else n0 + 1) (if one then n1 + 1 else n1)) (X.setCell ⟨nb, if one then 1 else 0, none⟩ (.int .u64 ((if one then n1 else n0) + 1 : Nat))) := by
  obtain ⟨ox, h1, h2, h3, h4, h5⟩ := h
  have hc : Chg [[30]] X ox (X.setCell ⟨nb, if one then 1 else 0, none⟩ (.int .u64 ((if one then n1 else n0) + 1 : Nat))) ox := (Chg.refl _ _ _).setCell _ (.inr h5.on)
  refine ⟨ox, h1.chg hc fun u hu => lastOff (a := [30]) (by simp) tagA_ne (by decide) hu, h2.chg hc (off_root (by simp)), h3.setCell _ (.inl hnb), h4.chg hc (off_root (by simp)), ?_⟩
  cases one with
  | false => exact h5.set 0 _
  | true => exact h5.set 1 _
end
def wantOf (c one : Bool) : Nat := 2 * bitN one + bitN (!c)

set_option maxHeartbeats 4000000 in
set_option maxRecDepth 100000 in
theorem StreamsIds_ok {w : World} (hg : GTab w (fun _ => [])) (c : Bool) (v : Value) (l : List Bool) (hv : Sl w (fun _ => []) [] v (l.map Value.bool)) :
    Calls Tryz.prog 3 #[.bool c, v] w fun e w' => e = .returned (.bool true) ∧ Below w.heap.size w w' := by
  obtain ⟨A, cc, rfl, ha1, ha2, ha3, ha4⟩ := id hv
  rw [List.length_map] at *
  unfold maxLen at ha2
  have HA := Lib.hid (alive_ok hg)
  have HG := Lib.hid hg; have HV := Lib.hid hv
  clear hg hv ha3 ha4
  by_cases hl : (60 : Int) < l.length
  · go_enter Tryz.func3, Tryz.ntmps3
    go_wp2_with (go_at_call 7; refine HA.out.mono ?_; rintro e w1 ⟨rfl, hb⟩; have HB := Lib.hid hb; clear hb)
    go_ret
    exact ⟨rfl, HB.out⟩
  · have hlI : (l.length : Int) ≤ 60 := by omega
    have hd60 : decide ((60 : Int) < l.length) = false := decide_eq_false hl
    clear hl
    have HN : RowKit.Hid (∀ (X : World) (o : Own) (t : Tag) (c : Bool), Calls Tryz.prog 8 #[.bool c, .agg ownP.cells] X (NewPost X o t (Tb.new c ownP))) := fun X o t c => New_yes o t c ownP ownP_wf ownP_may
    go_enter Tryz.func3, Tryz.ntmps3
    go_upto_region 6 with (first
      | (go_at_call 7; ((with_reducible refine HA.out.mono ?_); rintro e w1 ⟨rfl, hb⟩; have HB := Lib.hid hb; clear hb))
      | (go_at_call 9; ((with_reducible refine (Own_ok w1 (fun _ => [])).mono ?_); rintro e w2 ⟨rfl, o2, h2⟩; have H2 := Lib.hid h2; clear h2))
      | (go_at_call 8; ((with_reducible refine (HN.out w2 o2 tagA c).mono ?_); rintro e w3 ⟨ka, o3, rfl, h3, hA⟩; have H3 := Lib.hid h3; have HT := Lib.hid hA; clear h3 hA)))
    have HS := Lib.hid (idStart HG.out HV.out HB.out (Chg.of_below _ HB.out) H2.out H3.out HT.out)
    unfold ptr
    go_upto_region 7 with (first
      | (go_at_call 9; (refine (Own_ok w3 (fun _ => [])).mono ?_; rintro e w4 ⟨rfl, o4, h4⟩; have HS2 := Lib.hid (HS.out.nil (idE_ok _ _) memA fun ox => ⟨ox, (Chg.of_below ox (h4.below fun _ _ => off_nil _))⟩); clear h4))
      | (go_at_call 10; (refine (HS2.out.peer memA (idE_ok _ _) ownP ownP_wf).mono ?_; rintro e w5 ⟨rfl, hS⟩; have HS3 := Lib.hid hS; clear hS)))
    clear HA HB HG HV H2 H3 HT HN HS HS2
    have HS4 := Lib.hid (idBox HS3.out)
    have Hnb : RowKit.Hid (w.heap.size ≤ w5.heap.size) := HS3.out.below.size
    go_upto_region 8 with fail
    change Code.wp _ _ _ _ (w5.alloc (.cells #[.int .u64 0, .int .u64 0] 32))
    generalize w5.alloc (.cells #[.int .u64 0, .int .u64 0] 32) = W6 at *
    generalize w5.heap.size = nb at *
    clear HS3
    go_wp2
    have HI0 := Lib.hid (idsInv0 c)
    go_loopw [7] (fun i wr => ∃ (j n0 n1 : Nat) (T : Tb), i = .int .i64 j ∧ j ≤ l.length ∧ RowKit.Hid (IdsInv c T n0 n1 ∧ Sys w tagA ka T (idF (.slice A l.length cc) l nb n0 n1) wr)) (fun i _ => l.length - (intOf i).toNat)
    case atStart => exact ⟨0, 0, 0, _, rfl, Nat.zero_le _, HI0.out, HS4.out⟩
    case round =>
      obtain ⟨j, n0, n1, T, rfl, hj, hX⟩ := hrel
      have hb0 : n0 ≤ 8 := hX.out.1.b0
      have hb1 : n1 ≤ 8 := hX.out.1.b1
      by_cases hlt : j < l.length
      · obtain ⟨b, hb⟩ : ∃ b, l[j]? = some b := ⟨l[j], List.getElem?_eq_getElem hlt⟩
        obtain ⟨A', f, c', hv, hcell⟩ := idAt hX.out.2 hb
        injection hv with v1 v2 v3
        subst v1; subst v3
        obtain ⟨hn0, hn1, hfz⟩ := idNb hX.out.2
        rcases hX.out.1.open_ b with ⟨h8, ho, hI⟩ | ⟨h8, ho, hT⟩
        · obtain ⟨idv, hidv⟩ : ∃ z : Int, z = (T.open_ b).1.1 := ⟨_, rfl⟩
          have HO : RowKit.Hid (Calls Tryz.prog 11 #[.pointer (some ⟨ka, 0, none⟩), .bool b] wr fun e w' => e = .returned (.tuple #[.int .u64 idv, .int .i64 0]) ∧ Sys w tagA ka (T.open_ b).2 (idF (.slice (some ⟨A', f, none⟩) l.length cc) l nb n0 n1) w') := by
            have := hX.out.2.open_ memA (idF_ok _ _ _ _ _) b
            rw [← hidv] at this
            have e2 : (((T.open_ b).1.2 : Nat) : Int) = 0 := by rw [ho]; rfl
            rw [e2] at this
            exact this
          have hidw : idv = 4 * (if b then n1 else n0 : Nat) + (2 * bitN b + bitN (!c) : Nat) := by rw [hidv, ho]; push_cast; omega
          have HI := Lib.hid hI
          clear ho hidv hI hX hb
          cases b <;> cases c
          · simp only [Bool.false_eq_true, if_false, if_true, bitN, Bool.not_false] at hidw h8 HI
            have h8I : (n0 : Int) < 8 := by omega
            have hidw2 : idv = 4 * (n0 : Int) + 1 := by omega
            clear hidw
            subst hidw2
            go_wp2_with (go_at_call 11; ((with_reducible refine HO.out.mono ?_); rintro e w8 ⟨rfl, hS⟩; obtain ⟨m0, m1, m2⟩ := idNb hS; have HSx := Lib.hid hS; clear hS))
            have hst : Sys w tagA ka _ (idF (.slice (some ⟨A', f, none⟩) l.length cc) l nb (n0 + 1) n1) (w8.setCell ⟨nb, 0, none⟩ (.int .u64 ((n0 + 1 : Nat) : Int))) := idStore HSx.out Hnb.out false
            rw [show ((n0 + 1 : Nat) : Int) = (n0 : Int) + 1 by omega] at hst
            have HST := Lib.hid hst
            clear hst
            go_round
            case rel => exact ⟨j + 1, (n0 + 1), n1, _, by go_num, by omega, HI.out, HST.out⟩
            case measure => simp [intOf]; omega
          · simp only [Bool.false_eq_true, if_false, bitN, Bool.not_true] at hidw h8 HI
            have h8I : (n0 : Int) < 8 := by omega
            have hidw2 : idv = 4 * (n0 : Int) + 0 := by omega
            clear hidw
            subst hidw2
            go_wp2_with (go_at_call 11; ((with_reducible refine HO.out.mono ?_); rintro e w8 ⟨rfl, hS⟩; obtain ⟨m0, m1, m2⟩ := idNb hS; have HSx := Lib.hid hS; clear hS))
            have hst : Sys w tagA ka _ (idF (.slice (some ⟨A', f, none⟩) l.length cc) l nb (n0 + 1) n1) (w8.setCell ⟨nb, 0, none⟩ (.int .u64 ((n0 + 1 : Nat) : Int))) := idStore HSx.out Hnb.out false
            rw [show ((n0 + 1 : Nat) : Int) = (n0 : Int) + 1 by omega] at hst
            have HST := Lib.hid hst
            clear hst
            go_round
            case rel => exact ⟨j + 1, (n0 + 1), n1, _, by go_num, by omega, HI.out, HST.out⟩
            case measure => simp [intOf]; omega
          · simp only [if_true, bitN, Bool.not_false] at hidw h8 HI
            have h8I : (n1 : Int) < 8 := by omega
            have hidw2 : idv = 4 * (n1 : Int) + 3 := by omega
            clear hidw
            subst hidw2
            go_wp2_with (go_at_call 11; ((with_reducible refine HO.out.mono ?_); rintro e w8 ⟨rfl, hS⟩; obtain ⟨m0, m1, m2⟩ := idNb hS; have HSx := Lib.hid hS; clear hS))
            have hst : Sys w tagA ka _ (idF (.slice (some ⟨A', f, none⟩) l.length cc) l nb n0 (n1 + 1)) (w8.setCell ⟨nb, 1, none⟩ (.int .u64 ((n1 + 1 : Nat) : Int))) := idStore HSx.out Hnb.out true
            rw [show ((n1 + 1 : Nat) : Int) = (n1 : Int) + 1 by omega] at hst
            have HST := Lib.hid hst
            clear hst
            go_round
            case rel => exact ⟨j + 1, n0, (n1 + 1), _, by go_num, by omega, HI.out, HST.out⟩
            case measure => simp [intOf]; omega
          · simp only [Bool.false_eq_true, if_false, if_true, bitN, Bool.not_true] at hidw h8 HI
            have h8I : (n1 : Int) < 8 := by omega
            have hidw2 : idv = 4 * (n1 : Int) + 2 := by omega
            clear hidw
            subst hidw2
            go_wp2_with (go_at_call 11; ((with_reducible refine HO.out.mono ?_); rintro e w8 ⟨rfl, hS⟩; obtain ⟨m0, m1, m2⟩ := idNb hS; have HSx := Lib.hid hS; clear hS))
            have hst : Sys w tagA ka _ (idF (.slice (some ⟨A', f, none⟩) l.length cc) l nb n0 (n1 + 1)) (w8.setCell ⟨nb, 1, none⟩ (.int .u64 ((n1 + 1 : Nat) : Int))) := idStore HSx.out Hnb.out true
            rw [show ((n1 + 1 : Nat) : Int) = (n1 : Int) + 1 by omega] at hst
            have HST := Lib.hid hst
            clear hst
            go_round
            case rel => exact ⟨j + 1, n0, (n1 + 1), _, by go_num, by omega, HI.out, HST.out⟩
            case measure => simp [intOf]; omega
        · have HO : RowKit.Hid (Calls Tryz.prog 11 #[.pointer (some ⟨ka, 0, none⟩), .bool b] wr fun e w' => e = .returned (.tuple #[.int .u64 0, .int .i64 5]) ∧ Sys w tagA ka T (idF (.slice (some ⟨A', f, none⟩) l.length cc) l nb n0 n1) w') := by
            have := hX.out.2.open_ memA (idF_ok _ _ _ _ _) b
            rw [hT, ho] at this
            exact this
          have HI := Lib.hid hX.out.1
          clear ho hT hX hb
          cases b <;> cases c
          all_goals
            simp only [Bool.false_eq_true, if_false, if_true] at h8
            have h8I : ¬ ((_ : Nat) : Int) < 8 := fun h => h8 (by exact_mod_cast h)
            go_wp2_with (go_at_call 11; ((with_reducible refine HO.out.mono ?_); rintro e w8 ⟨rfl, hS⟩; obtain ⟨m0, m1, m2⟩ := idNb hS; have HSx := Lib.hid hS; clear hS))
            go_round
            case rel => exact ⟨j + 1, n0, n1, T, by go_num, by omega, HI.out, HSx.out⟩
            case measure => simp [intOf]; omega
      · obtain ⟨hn0, hn1, hfz⟩ := idNb hX.out.2
        have Hlen : RowKit.Hid (T.m.length = n0 + n1) := hX.out.1.len
        have HIDS : RowKit.Hid (∀ X, Sys w tagA ka T (idF (.slice A l.length cc) l nb n0 n1) X → Calls Tryz.prog 12 #[.pointer (some ⟨ka, 0, none⟩)] X fun e w' => ∃ A8 c8, e = .returned (.slice A8 (n0 + n1) c8) ∧ w'.cell? ⟨nb, 0, none⟩ = some (.int .u64 n0) ∧ w'.cell? ⟨nb, 1, none⟩ = some (.int .u64 n1) ∧ RowKit.Hid (Sys w tagA ka T (idF (.slice A l.length cc) l nb n0 n1) w')) := by
          show ∀ X, _ → _
          intro X h
          have H := h.ids memA (idF_ok _ _ _ _ _) (by rw [Hlen.out]; omega)
          rw [ids_len, Hlen.out] at H
          refine H.mono ?_
          rintro e w' ⟨A8, c8, rfl, hS⟩
          obtain ⟨m0, m1, _⟩ := idNb hS
          exact ⟨A8, c8, rfl, m0, m1, hS⟩
        have S0 : wr.drew.cell? ⟨nb, 0, none⟩ = some (.int .u64 n0) ∧ wr.drew.cell? ⟨nb, 1, none⟩ = some (.int .u64 n1) ∧ RowKit.Hid (Sys w tagA ka T (idF (.slice A l.length cc) l nb n0 n1) wr.drew) := ⟨hn0, hn1, hX.out.2.nil (idF_ok _ _ _ _ _) memA fun ox => ⟨ox, (Chg.refl _ _ _).drew⟩⟩
        have HX1 := Lib.hid hX.out.1
        clear hX
        go_upto_region 21 with fail
        go_region_held3 (fun X => X.cell? ⟨nb, 0, none⟩ = some (.int .u64 n0) ∧ X.cell? ⟨nb, 1, none⟩ = some (.int .u64 n1) ∧ RowKit.Hid (Sys w tagA ka T (idF (.slice A l.length cc) l nb n0 n1) X)) (first | exact S0 | assumption)
          (first | (go_at_call 12; refine (HIDS.out wr.drew S0.2.2.out).mono ?_; rintro e w9 ⟨A8, c8, rfl, hS9⟩))
        go_wp2
        go_ret
        refine ⟨?_, hS9.2.2.out.below⟩
        show Ending.returned (.bool ((n0 : Int) + n1 == IntKind.i64.wrap (IntKind.u64.wrap ((n0 : Int) + n1)))) = _
        rw [IntWalk.u64_in _ (by omega), IntWalk.i64_in _ (by omega), beq_self_eq_true]
end Go.Proofs.YthliihmhkhabeaaGreatDoor
