/- The streams' table, XVI: rises, part. No condition. -/
import Derived.Test.YthliihmhkhabeaaGreatDoorIds15
import Derived.Deep.RegionHeld3
namespace Go.Proofs.YthliihmhkhabeaaGreatDoor
open Go Go.RowKit

def Tb.topAt (T : Tb) (id : Nat) : Nat := match mget T.m id with
  | none => 0
  | some s => s.topOf
def Tb.risesN (T : Tb) (was en : Nat) : Bool := decide (en ≤ was) || decide ((T.sumF St.topOf % 18446744073709551616 + en + 18446744073709551616 - was) % 18446744073709551616 ≤ (T.read + T.own.data) % 18446744073709551616)
def Tb.rises (T : Tb) (id en : Nat) : Bool := T.risesN (T.topAt id) en

def BoolPost (w : World) (o : Own) (b : Bool) (e : Ending) (w' : World) : Prop := e = .returned (.bool b) ∧ ∃ o', Chg [] w o w' o'

set_option maxHeartbeats 1000000 in
set_option maxRecDepth 100000 in
theorem rises_at {w : World} {o : Own} {t : Tag} {k bm : Nat} {blk : Nat → Nat} {T : Tb} (h : TbAt w o t k bm blk T) (en was : Nat) (hen : en < 18446744073709551616) (pv : Value) (hp : (pv = .pointer none ∧ was = 0) ∨ ∃ b q, pv = .pointer (some ⟨b, 0, none⟩) ∧ w.cell? ⟨b, 1, none⟩ = some q ∧ Calls Tryz.prog 78 #[q] w fun e w' => e = .returned (.int .u64 (was : Nat)) ∧ w = w') (hwas : was < 18446744073709551616) :
    Calls Tryz.prog 148 #[ptr k, pv, .int .u64 en] w fun e w' => BoolPost w o (T.risesN was en) e w' := by
  have HT0 : ∀ W o1, TbAt W o1 t k bm blk T → Calls Tryz.prog 176 #[ptr k] W fun e w' => e = .returned (.int .u64 ((T.sumF St.topOf % 18446744073709551616 : Nat) : Int)) ∧ ∃ o', Chg [] W o1 w' o' := fun W o1 h1 => tops_ok h1
  have H := Lib.hid h
  have hc := h.2.1.cells
  have hr64 := h.1.read64
  have hd := h.1.d100
  unfold Tb.cells at hc
  unfold Tb.risesN
  have hts : T.sumF St.topOf % 18446744073709551616 < 18446744073709551616 := Nat.mod_lt _ (by omega)
  generalize T.sumF St.topOf % 18446744073709551616 = ts at *
  clear h
  unfold ptr at HT0 ⊢
  obtain ⟨wI, hwI⟩ : ∃ wI : Int, wI = was := ⟨_, rfl⟩
  rw [← hwI] at hp
  have hq2 : (pv = .pointer none ∧ wI = 0) ∨ ∃ b q, pv = .pointer (some ⟨b, 0, none⟩) ∧ w.cell? ⟨b, 1, none⟩ = some q ∧ RowKit.Hid (Calls Tryz.prog 78 #[q] w fun e w' => e = .returned (.int .u64 wI) ∧ w = w') := by
    rcases hp with ⟨h1, h2⟩ | h1
    · exact .inl ⟨h1, by omega⟩
    · exact .inr h1
  clear hp
  have hRes : RowKit.Hid ((wI < (en : Int)) → decide (IntKind.u64.wrap (IntKind.u64.wrap ((ts : Int) + en) - wI) ≤ IntKind.u64.wrap ((T.read : Int) + T.own.data)) = (decide (en ≤ was) || decide ((ts + en + 18446744073709551616 - was) % 18446744073709551616 ≤ (T.read + T.own.data) % 18446744073709551616))) := by
    show _ → _
    intro hlt
    rw [decide_eq_false (show ¬ en ≤ was by omega), Bool.false_or]
    simp only [IntKind.wrap_u64]
    apply decide_eq_decide.2
    omega
  have hRes1 : RowKit.Hid (((en : Int) ≤ wI) → (decide (en ≤ was) || decide ((ts + en + 18446744073709551616 - was) % 18446744073709551616 ≤ (T.read + T.own.data) % 18446744073709551616)) = true) := by
    show _ → _
    intro hlt
    rw [decide_eq_true (show en ≤ was by omega), Bool.true_or]
  generalize (decide (en ≤ was) || decide ((ts + en + 18446744073709551616 - was) % 18446744073709551616 ≤ (T.read + T.own.data) % 18446744073709551616)) = res at *
  clear hwI hwas
  have S0 : w.drew.cell? ⟨k, 31, none⟩ = some (.int .u64 T.read) ∧ w.drew.cell? ⟨k, 2, none⟩ = some (.int .u64 T.own.data) ∧ RowKit.Hid (∃ o', Chg [] w o w.drew o') := ⟨hc 31, hc 2, o, (Chg.refl _ _ _).drewN 1⟩
  have HTS : ∀ W, (W.cell? ⟨k, 31, none⟩ = some (.int .u64 T.read) ∧ W.cell? ⟨k, 2, none⟩ = some (.int .u64 T.own.data) ∧ RowKit.Hid (∃ o', Chg [] w o W o')) → Calls Tryz.prog 176 #[.pointer (some ⟨k, 0, none⟩)] W fun e w' => e = .returned (.int .u64 ts) ∧ (w'.cell? ⟨k, 31, none⟩ = some (.int .u64 T.read) ∧ w'.cell? ⟨k, 2, none⟩ = some (.int .u64 T.own.data) ∧ RowKit.Hid (∃ o', Chg [] w o w' o')) := by
    rintro W ⟨_, _, o1, hch⟩
    have h1 := H.out.chg hch (fun _ _ => off_nil _)
    refine (HT0 W o1 h1).mono ?_
    rintro e w' ⟨rfl, o2, h2⟩
    have h3 := (h1.chg h2 (fun _ _ => off_nil _)).2.1.cells
    exact ⟨rfl, h3 31, h3 2, o2, hch.trans h2⟩
  clear HT0
  have HTS := Lib.hid HTS
  rcases hq2 with ⟨rfl, hz⟩ | ⟨b, q, rfl, hq, HQ⟩
  · go_enter Tryz.func148, Tryz.ntmps148
    go_upto_if 9 with fail
    go_cut [7] from 8 (fun s7 wx => s7 = .int .u64 wI ∧ w = wx)
    case first =>
      go_wp2
      go_meet
      exact ⟨by rw [hz], rfl⟩
    obtain ⟨rfl, rfl⟩ := hcut
    clear hz
    go_upto_region 4 with fail
    by_cases hle : (en : Int) ≤ wI
    · go_wp2
      go_quiet (fail)
      go_wp2
      go_ret
      exact ⟨by rw [hRes1.out hle]; rfl, o, (Chg.refl _ _ _).drewN _⟩
    · have hlt : wI < (en : Int) := by omega
      have hd : decide ((en : Int) ≤ wI) = false := decide_eq_false hle
      clear hle
      go_region_held3 (fun W => W.cell? ⟨k, 31, none⟩ = some (.int .u64 T.read) ∧ W.cell? ⟨k, 2, none⟩ = some (.int .u64 T.own.data) ∧ RowKit.Hid (∃ o', Chg [] w o W o')) (first | exact S0 | assumption)
        (first | (go_at_call 176; refine (HTS.out _ (by assumption)).mono ?_; rintro e w' ⟨rfl, hS'⟩))
      go_wp2
      go_ret
      obtain ⟨_, _, o', hch⟩ := hS'
      exact ⟨by rw [← hRes.out hlt]; rfl, o', hch⟩
  · go_enter Tryz.func148, Tryz.ntmps148
    go_upto_region 4 with (go_at_call 78; refine HQ.out.mono ?_; rintro e w' ⟨rfl, rfl⟩)
    by_cases hle : (en : Int) ≤ wI
    · go_wp2
      go_quiet (fail)
      go_wp2
      go_ret
      exact ⟨by rw [hRes1.out hle]; rfl, o, (Chg.refl _ _ _).drewN _⟩
    · have hlt : wI < (en : Int) := by omega
      have hd : decide ((en : Int) ≤ wI) = false := decide_eq_false hle
      clear hle
      go_region_held3 (fun W => W.cell? ⟨k, 31, none⟩ = some (.int .u64 T.read) ∧ W.cell? ⟨k, 2, none⟩ = some (.int .u64 T.own.data) ∧ RowKit.Hid (∃ o', Chg [] w o W o')) (first | exact S0 | assumption)
        (first | (go_at_call 176; refine (HTS.out _ (by assumption)).mono ?_; rintro e w' ⟨rfl, hS'⟩))
      go_wp2
      go_ret
      obtain ⟨_, _, o', hch⟩ := hS'
      exact ⟨by rw [← hRes.out hlt]; rfl, o', hch⟩

theorem topOf_lt {w : World} {o : Own} {u : Tag} {ks : Nat} {s : St} (h : StRep w o u ks s) : s.topOf < 18446744073709551616 := by
  obtain ⟨_, ko, ki, bt, _, _, hi, _⟩ := h
  unfold St.topOf
  cases hh : s.inn with
  | none => simp
  | some I =>
    rw [hh] at hi
    obtain ⟨_, _, hI⟩ := hi.some'
    have := hI.1.tm
    simp only
    omega

theorem rises_ok {w : World} {o : Own} {t : Tag} {k bm : Nat} {blk : Nat → Nat} {T : Tb} (h : TbAt w o t k bm blk T) (id en : Nat) (hen : en < 18446744073709551616) :
    Calls Tryz.prog 148 #[ptr k, T.blkOf blk id, .int .u64 en] w fun e w' => BoolPost w o (T.rises id en) e w' := by
  unfold Tb.rises Tb.topAt Tb.blkOf
  cases hs : mget T.m id with
  | none => exact rises_at h en 0 hen _ (.inl ⟨rfl, rfl⟩) (by omega)
  | some s =>
    have hr := h.st hs
    refine rises_at h en s.topOf hen _ (.inr ?_) (topOf_lt hr)
    obtain ⟨ko, ki, bt, hst⟩ := hr.at'
    refine ⟨blk id, optPtr ki, rfl, hst.at_.cells 1, ?_⟩
    have hi := hst.inn
    unfold St.topOf
    cases ki with
    | none =>
      cases h0 : s.inn with
      | none => exact RTop_nil
      | some I => rw [h0] at hi; exact hi.elim
    | some ki =>
      cases h0 : s.inn with
      | none => rw [h0] at hi; exact hi.elim
      | some I => rw [h0] at hi; exact RTop_ok hi
end Go.Proofs.YthliihmhkhabeaaGreatDoor
