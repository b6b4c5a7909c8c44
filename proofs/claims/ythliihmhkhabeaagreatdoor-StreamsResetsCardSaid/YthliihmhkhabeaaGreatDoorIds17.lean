/- The streams' table, XVII: what nil parts answer; outOf. No condition. -/
import Derived.Test.YthliihmhkhabeaaGreatDoorIds15
namespace Go.Proofs.YthliihmhkhabeaaGreatDoor
open Go Go.RowKit

set_option maxRecDepth 100000 in
theorem ODone_nil {w : World} :
    Calls Tryz.prog 47 #[.pointer none] w fun e w' => e = .returned (.bool false) ∧ w = w' := by
  go_enter Tryz.func47, Tryz.ntmps47
  go_wp2
  go_ret
  exact ⟨rfl, rfl⟩
set_option maxRecDepth 100000 in
theorem RPut_nil {w : World} (a n c : Nat) (A : Option Addr) (l : Bool) (_ha : a < 18446744073709551616) (hn : n ≤ 1000000000000) :
    Calls Tryz.prog 150 #[.pointer none, .int .u64 a, .slice A n c, .bool l] w fun e w' => e = .returned (.int .i64 1) ∧ w = w' := by
  go_enter Tryz.func150, Tryz.ntmps150
  go_wp2
  go_ret
  exact ⟨rfl, rfl⟩

def doneO : Option Out → Bool
  | none => false
  | some O => O.done
theorem ODone_opt {w : World} {o : Own} {t : Tag} {ko : Option Nat} {O : Option Out} (h : OutOpt w o t ko O) :
    Calls Tryz.prog 47 #[optPtr ko] w fun e w' => e = .returned (.bool (doneO O)) ∧ w = w' := by
  cases ko with
  | none =>
    cases O with
    | none => exact ODone_nil
    | some O => exact h.elim
  | some ko =>
    cases O with
    | none => exact h.elim
    | some O => exact ODone_ok h

/-- The stream whose out part a frame is of: it may come to be. -/
def Tb.outOf (T : Tb) (id : Nat) : Tb := if T.findErr id true = 0 then (match mget T.m id with
  | none => T.make id
  | some _ => T) else T
def OutOfPost (w : World) (o : Own) (t : Tag) (k bm : Nat) (T : Tb) (id : Nat) (e : Ending) (w' : World) : Prop :=
  ∃ p blk' o', e = .returned (.tuple #[p, .int .i64 (T.findErr id true)]) ∧ (T.findErr id true = 0 → p = ptr (blk' id)) ∧ TbAt w' o' t k bm blk' (T.outOf id) ∧ Chg [t] w o w' o'

theorem find_none {T : Tb} {id : Nat} {out : Bool} (blk : Nat → Nat) (h : T.findErr id out ≠ 0) : T.findPtr blk id out = .pointer none := by
  unfold Tb.findPtr
  unfold Tb.findErr at h
  split
  · rfl
  · rename_i h1
    rw [if_neg h1] at h
    split at h
    · exact absurd rfl h
    · rename_i h2
      unfold Tb.blkOf
      cases hs : mget T.m id with
      | none => rfl
      | some s => rw [hs] at h2; simp at h2
theorem find_some {T : Tb} {id : Nat} {out : Bool} {s : St} (blk : Nat → Nat) (h : T.findErr id out = 0) (hs : mget T.m id = some s) : T.findPtr blk id out = ptr (blk id) := by
  unfold Tb.findPtr
  unfold Tb.findErr at h
  split
  · rename_i h1; rw [if_pos h1] at h; omega
  · unfold Tb.blkOf; rw [hs]; rfl
theorem find_nil {T : Tb} {id : Nat} {out : Bool} (blk : Nat → Nat) (hs : mget T.m id = none) : T.findPtr blk id out = .pointer none := by
  unfold Tb.findPtr Tb.blkOf; rw [hs]; split <;> rfl

set_option maxRecDepth 100000 in
theorem outOf_ok {w : World} {o : Own} {t : Tag} {k bm : Nat} {blk : Nat → Nat} {T : Tb} (h : TbAt w o t k bm blk T) (id : Nat) (hid : id < 18446744073709551616) :
    Calls Tryz.prog 79 #[ptr k, .int .u64 id] w fun e w' => OutOfPost w o t k bm T id e w' := by
  have HF := Lib.hid (Tfind_ok h id hid true)
  have HM := Lib.hid (make_ok h id hid)
  have H := Lib.hid h
  clear h
  unfold ptr at HF HM ⊢
  by_cases he : T.findErr id true = 0
  · cases hs : mget T.m id with
    | none =>
      rw [find_nil blk hs, he] at HF
      have HE : RowKit.Hid (T.findErr id true = 0) := he
      have HS : RowKit.Hid (mget T.m id = none) := hs
      clear he hs
      go_enter Tryz.func79, Tryz.ntmps79
      go_wp2_with (first
        | (go_at_call 147; refine HF.out.mono ?_; rintro e w' ⟨rfl, rfl⟩)
        | (go_at_call 29; refine HM.out.mono ?_; rintro e w' ⟨ks, o', rfl, h1, h2⟩; have H1 := Lib.hid h1; have H2 := Lib.hid h2; clear h1 h2; unfold ptr))
      go_ret2
      refine ⟨_, upd blk id ks, o', by rw [HE.out]; rfl, fun _ => by rw [upd_same]; rfl, ?_, H2.out.mono fun u hu => below_t u hu⟩
      unfold Tb.outOf
      rw [HE.out, HS.out]
      exact H1.out
    | some s =>
      rw [find_some blk he hs, he] at HF
      have HE : RowKit.Hid (T.findErr id true = 0) := he
      have HS : RowKit.Hid (mget T.m id = some s) := hs
      clear he hs HM
      unfold ptr at HF
      go_enter Tryz.func79, Tryz.ntmps79
      go_wp2_with (go_at_call 147; refine HF.out.mono ?_; rintro e w' ⟨rfl, rfl⟩)
      go_ret2
      refine ⟨_, blk, o, by rw [HE.out]; rfl, fun _ => rfl, ?_, Chg.refl _ _ _⟩
      unfold Tb.outOf
      rw [HE.out, HS.out]
      exact H.out
  · rw [find_none blk he] at HF
    have hn : (T.findErr id true : Int) ≠ 0 := by omega
    have HE : RowKit.Hid (∀ er : Nat, er = T.findErr id true → OutOfPost w o t k bm T id (.returned (.tuple #[.pointer none, .int .i64 er])) w) := by
      rintro er rfl
      refine ⟨_, blk, o, rfl, fun h0 => absurd h0 he, ?_, Chg.refl _ _ _⟩
      unfold Tb.outOf; rw [if_neg he]; exact H.out
    clear he HM
    obtain ⟨er, her⟩ : ∃ er, er = T.findErr id true := ⟨_, rfl⟩
    rw [← her] at HF hn
    have Her := Lib.hid her
    clear her
    go_enter Tryz.func79, Tryz.ntmps79
    go_wp2_with (go_at_call 147; refine HF.out.mono ?_; rintro e w' ⟨rfl, rfl⟩)
    go_ret2
    exact HE.out er Her.out
end Go.Proofs.YthliihmhkhabeaaGreatDoor
