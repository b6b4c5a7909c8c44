/- The streams' table, IX: Finish, Reset. No condition. -/
import Derived.Test.YthliihmhkhabeaaGreatDoorIds13
import Derived.Test.YthliihmhkhabeaaGreatDoorIds14
namespace Go.Proofs.YthliihmhkhabeaaGreatDoor
open Go Go.RowKit

/-- A stream in memory, its parts named. -/
structure StAt (w : World) (o : Own) (u : Tag) (k : Nat) (C : Array Value) (ko ki : Option Nat) (bt : Nat) (out : Option Out) (inn : Option In) (tell : List (Nat × Bool)) : Prop where
  at_ : At w o k u (.cells C 81 (0, 0))
  out : OutOpt w o (0 :: u) ko out
  inn : InOpt w o (1 :: u) ki inn
  tell : MapAt w o (2 :: u) bt (tellKV tell)

section
variable {w w' : World} {o o' : Own} {u : Tag} {k bt : Nat} {C : Array Value} {ko ki : Option Nat} {out : Option Out} {inn : Option In} {tell : List (Nat × Bool)}
theorem StAt.set (h : StAt w o u k C ko ki bt out inn tell) (i : Nat) (x : Value) : StAt (w.setCell ⟨k, i, none⟩ x) o u k (C.setIfInBounds i x) ko ki bt out inn tell :=
  ⟨h.at_.set i x, h.out.store' (by rw [h.at_.2]; simp) x, h.inn.store' (by rw [h.at_.2]; simp) x, h.tell.far (by rw [h.at_.2]; exact tag_ne u 2) x⟩
theorem StAt.chg {L : List Tag} (h : StAt w o u k C ko ki bt out inn tell) (hc : Chg L w o w' o') (hl : ∀ v, u <:+ v → off L v) : StAt w' o' u k C ko ki bt out inn tell :=
  ⟨h.at_.chg hc (hl _ (List.suffix_refl _)), h.out.chg hc fun v hv => hl v ((List.suffix_cons _ _).trans hv), h.inn.chg hc fun v hv => hl v ((List.suffix_cons _ _).trans hv), h.tell.chg hc (hl _ (List.suffix_cons _ _))⟩
theorem StAt.drewN (h : StAt w o u k C ko ki bt out inn tell) (n : Nat) : StAt (w.drewN n) o u k C ko ki bt out inn tell := h.chg ((Chg.refl [] w o).drewN n) fun _ _ => off_nil _
/-- The out part was turned. -/
theorem StAt.outs (h : StAt w o u k C ko ki bt out inn tell) (hc : Chg [0 :: u] w o w' o') {out' : Option Out} (hO : OutOpt w' o' (0 :: u) ko out') : StAt w' o' u k C ko ki bt out' inn tell :=
  ⟨h.at_.chg hc (off_child _ _), hO, h.inn.chg hc fun v hv => off_deep (by omega) hv, h.tell.chg hc (off_sib _ (by omega))⟩
theorem StAt.ins (h : StAt w o u k C ko ki bt out inn tell) (hc : Chg [1 :: u] w o w' o') {inn' : Option In} (hI : InOpt w' o' (1 :: u) ki inn') : StAt w' o' u k C ko ki bt out inn' tell :=
  ⟨h.at_.chg hc (off_child _ _), h.out.chg hc fun v hv => off_deep (by omega) hv, hI, h.tell.chg hc (off_sib _ (by omega))⟩

/-- tell[kind] = ok, asked for and stored. -/
theorem StAt.entry (h : StAt w o u k C ko ki bt out inn tell) (kind : Nat) (kI : Int) (hk : kI = kind) (b : Bool) :
    ∃ ob1 v1 stamp ob2, (Instr.mapEntry 79 (.map (some bt)) (.int .i64 kI)).run Tryz.prog w = .ok (.tuple #[v1, .int .i64 stamp]) (setOb w bt ob1) ∧
      (Instr.entryStore 79 (.map (some bt)) (.int .i64 stamp) (.bool b)).run Tryz.prog (setOb w bt ob1) = .ok () (setOb (setOb w bt ob1) bt ob2) ∧
      StAt (setOb (setOb w bt ob1) bt ob2) o u k C ko ki bt out inn (mset tell kind b) ∧ Chg [2 :: u] w o (setOb (setOb w bt ob1) bt ob2) o := by
  subst hk
  obtain ⟨ob1, v1, stamp, h1, ob2, h2, h3⟩ := run_mapEntry (P := Tryz.prog) (V := Value.bool) (PlainKey.int Tryz.underlying3) Tryz.underlying79 false (fun w => by simp [Tryz.zeroValue4]) h.tell kind b
  have hch : Chg [2 :: u] w o (setOb (setOb w bt ob1) bt ob2) o := by
    refine ((Chg.refl _ _ _).setOb ob1 (.inr ?_)).setOb ob2 (.inr ?_) <;> (rw [h.tell.tag_]; exact on_self _)
  exact ⟨ob1, v1, stamp, ob2, h1, h2, ⟨h.at_.chg hch (off_child _ _), h.out.chg hch fun v hv => off_deep (by omega) hv, h.inn.chg hch fun v hv => off_deep (by omega) hv, h3⟩, hch⟩

/-- tell[kind] = ok. -/
theorem StAt.update (h : StAt w o u k C ko ki bt out inn tell) (kind : Nat) (kI : Int) (hk : kI = kind) (b : Bool) :
    ∃ ob, (Instr.mapUpdate 79 (.map (some bt)) (.int .i64 kI) (.bool b)).run Tryz.prog w = .ok () (setOb w bt ob) ∧ StAt (setOb w bt ob) o u k C ko ki bt out inn (mset tell kind b) ∧ Chg [2 :: u] w o (setOb w bt ob) o := by
  subst hk
  obtain ⟨ob, h1, h2⟩ := run_mapUpdate (P := Tryz.prog) (V := Value.bool) (PlainKey.int Tryz.underlying3) Tryz.underlying79 h.tell kind b
  have hch : Chg [2 :: u] w o (setOb w bt ob) o := by
    refine (Chg.refl _ _ _).setOb ob (.inr ?_); rw [h.tell.tag_]; exact on_self _
  exact ⟨ob, h1, ⟨h.at_.chg hch (off_child _ _), h.out.chg hch fun v hv => off_deep (by omega) hv, h.inn.chg hch fun v hv => off_deep (by omega) hv, h2⟩, hch⟩
theorem StAt.told (h : StAt w o u k C ko ki bt out inn tell) (kind : Nat) (kI : Int) (hk : kI = kind) : (Instr.lookup 79 (.map (some bt)) (.int .i64 kI) false).run Tryz.prog w = .ok (.bool ((mget tell kind).getD false)) w := by
  subst hk
  have := run_lookup (P := Tryz.prog) (V := Value.bool) (PlainKey.int Tryz.underlying3) Tryz.underlying79 (z := .bool false) (fun w => by simp [Tryz.zeroValue4]) h.tell kind false
  cases hg : mget tell kind <;> rw [hg] at this <;> exact this
end

theorem StRep.at' {w : World} {o : Own} {u : Tag} {k : Nat} {s : St} (h : StRep w o u k s) : ∃ ko ki bt, StAt w o u k (s.cells ko ki bt) ko ki bt s.out s.inn s.tell := by
  obtain ⟨_, ko, ki, bt, h1, h2, h3, h4⟩ := h
  exact ⟨ko, ki, bt, h1, h2, h3, h4⟩
theorem StAt.rep {w : World} {o : Own} {u : Tag} {k bt : Nat} {ko ki : Option Nat} {s : St} (hw : s.Wf) (h : StAt w o u k (s.cells ko ki bt) ko ki bt s.out s.inn s.tell) : StRep w o u k s := ⟨hw, ko, ki, bt, h.at_, h.out, h.inn, h.tell⟩

theorem OutOpt.some' {w : World} {o : Own} {u : Tag} {ko : Option Nat} {O : Out} (h : OutOpt w o u ko (some O)) : ∃ k, ko = some k ∧ OutRep w o u k O := by
  cases ko with
  | none => exact h.elim
  | some k => exact ⟨k, rfl, h⟩
theorem InOpt.some' {w : World} {o : Own} {u : Tag} {ki : Option Nat} {I : In} (h : InOpt w o u ki (some I)) : ∃ k, ki = some k ∧ InRep w o u k I := by
  cases ki with
  | none => exact h.elim
  | some k => exact ⟨k, rfl, h⟩

/-- What an operation that returns a number, or none, comes to. -/
def NumPost (w : World) (o : Own) (t : Tag) (k : Nat) (r : Nat × Tb) (e : Ending) (w' : World) : Prop :=
  ∃ o', e = .returned (.int .i64 r.1) ∧ TbRep w' o' t k r.2 ∧ Chg [t] w o w' o'

def Tb.finish (T : Tb) (id : Nat) : Nat × Tb := match mget T.m id with
  | none => (6, T)
  | some s => match s.out with
    | none => (6, T)
    | some O => if s.reset then (8, T) else if O.fin then (8, T) else (0, T.set id { s with out := some { O with fin := true }, finished := true })

set_option maxRecDepth 100000 in
theorem TFinish_ok {w : World} {o : Own} {t : Tag} {k : Nat} {T : Tb} (h : TbRep w o t k T) (id : Nat) :
    Calls Tryz.prog 22 #[ptr k, .int .u64 id] w fun e w' => NumPost w o t k (T.finish id) e w' := by
  obtain ⟨bm, blk, h⟩ := h
  have HO := Lib.hid (outPart_ok h id)
  have H := Lib.hid h
  unfold ptr at HO ⊢
  have hno : ∀ r : Nat, r ≠ 0 → T.outErr id = r → T.finish id = (r, T) → Calls Tryz.prog 22 #[.pointer (some ⟨k, 0, none⟩), .int .u64 id] w fun e w' => NumPost w o t k (T.finish id) e w' := by
    intro r hr0 hr hw
    rw [hr, if_neg hr0] at HO
    rw [hw]
    have hr1 : (r : Int) ≠ 0 := by omega
    clear hw hr h
    go_enter Tryz.func22, Tryz.ntmps22
    go_wp2_with (go_at_call 32; refine HO.out.mono ?_; rintro e w' ⟨rfl, rfl⟩)
    go_ret
    exact ⟨o, rfl, ⟨bm, blk, H.out⟩, Chg.refl _ _ _⟩
  cases hs : mget T.m id with
  | none => exact hno 6 (by decide) (by unfold Tb.outErr; rw [hs]) (by unfold Tb.finish; rw [hs])
  | some s =>
    cases hso : s.out with
    | none => exact hno 6 (by decide) (by unfold Tb.outErr; rw [hs]; simp [St.outErr, hso]) (by unfold Tb.finish; rw [hs]; simp [hso])
    | some O =>
      cases hr : s.reset with
      | true => exact hno 8 (by decide) (by unfold Tb.outErr; rw [hs]; simp [St.outErr, hso, hr]) (by unfold Tb.finish; rw [hs]; simp [hso, hr])
      | false =>
        clear hno
        rw [show T.outErr id = 0 from by unfold Tb.outErr; rw [hs]; simp [St.outErr, hso, hr]] at HO
        have hsw := (h.st hs).1
        obtain ⟨ko, ki, bt, hst⟩ := (h.st hs).at'
        have hw : T.finish id = if O.fin then (8, T) else (0, T.set id { s with out := some { O with fin := true }, finished := true }) := by
          unfold Tb.finish; rw [hs]; simp [hso, hr]
        rw [hw]
        clear hw
        have ho := hst.out
        rw [hso] at ho
        obtain ⟨ko, rfl, ho⟩ := ho.some'
        have HF := Lib.hid (OFinish_ok ho)
        have hcs := hst.at_.cells
        unfold St.cells at hcs
        simp only [optPtr, ptr] at hcs
        by_cases hf : O.fin = true
        · rw [if_pos hf]
          rw [hf] at HF
          have Hfin : RowKit.Hid (∀ w', Chg [0 :: (id + 1) :: t] w o w' o → OutRep w' o (0 :: (id + 1) :: t) ko { O with fin := true } → TbRep w' o t k T ∧ Chg [t] w o w' o) := by
            intro w' hch hO
            have e1 : ({ O with fin := true } : Out) = O := by cases O; simp_all
            rw [e1] at hO
            have h1 := hst.outs hch (out' := some O) hO
            rw [← hso] at h1
            obtain ⟨h2, h3⟩ := h.turn hs (hch.up (List.suffix_cons _ _)) (StAt.rep hsw h1)
            have e2 : mset T.m id s = T.m := by
              have : ∀ m : List (Nat × St), mget m id = some s → mset m id s = m := by
                intro m
                induction m with
                | nil => intro h; cases h
                | cons p m ih =>
                  intro hm
                  unfold mget at hm
                  unfold mset
                  by_cases hp : p.1 = id
                  · rw [if_pos hp] at hm ⊢; injection hm with hm; rw [← hm, ← hp]
                  · rw [if_neg hp] at hm ⊢; rw [ih hm]
              exact this T.m hs
            rw [e2] at h2
            exact ⟨⟨bm, blk, h2⟩, h3⟩
          clear h hs hso hr ho hst
          go_enter Tryz.func22, Tryz.ntmps22
          go_wp2_with (first
            | (go_at_call 32; refine HO.out.mono ?_; rintro e w' ⟨rfl, rfl⟩)
            | (go_at_call 52; refine HF.out.mono ?_; rintro e w' ⟨rfl, hch, hO⟩))
          go_ret
          obtain ⟨h1, h2⟩ := Hfin.out _ hch hO
          exact ⟨o, rfl, h1, h2⟩
        · rw [if_neg hf]
          rw [Bool.not_eq_true] at hf
          rw [hf] at HF
          have Hmid : RowKit.Hid (∀ w', Chg [0 :: (id + 1) :: t] w o w' o → OutRep w' o (0 :: (id + 1) :: t) ko { O with fin := true } → StAt w' o ((id + 1) :: t) (blk id) (s.cells (some ko) ki bt) (some ko) ki bt (some { O with fin := true }) s.inn s.tell ∧
              TbRep (w'.setCell ⟨blk id, 9, none⟩ (.bool true)) o t k (T.set id { s with out := some { O with fin := true }, finished := true }) ∧ Chg [t] w o (w'.setCell ⟨blk id, 9, none⟩ (.bool true)) o) := by
            intro w' hch hO
            have h1 := hst.outs hch (out' := some { O with fin := true }) hO
            have h1' := h1.set 9 (.bool true)
            have hon := hst.at_.2
            obtain ⟨h2, h3⟩ := h.turn hs ((hch.up (List.suffix_cons _ _)).setCell (p := ⟨blk id, 9, none⟩) (.bool true) (.inr (by rw [hon]; exact on_self _))) (s' := { s with out := some { O with fin := true }, finished := true }) (StAt.rep ⟨hsw.max64, hsw.given64, hsw.code64, hsw.in264, hsw.stop64, hsw.taken64, hsw.tk⟩ h1')
            exact ⟨h1, ⟨bm, blk, h2⟩, h3⟩
          clear h hs hso hr ho hst
          go_enter Tryz.func22, Tryz.ntmps22
          go_wp2_with (first
            | (go_at_call 32; refine HO.out.mono ?_; rintro e w' ⟨rfl, rfl⟩)
            | (go_at_call 52; refine HF.out.mono ?_; rintro e w' ⟨rfl, hch, hO⟩; obtain ⟨m1, m2⟩ := Hmid.out _ hch hO; have Hm2 := Lib.hid m2; have m3 := m1.at_.cells; have m4 := m1.at_.free; unfold St.cells at m3; clear m1 m2))
          go_ret
          exact ⟨o, rfl, Hm2.out.1, Hm2.out.2⟩
end Go.Proofs.YthliihmhkhabeaaGreatDoor
/- The streams' table, X: Reset. No condition. -/
namespace Go.Proofs.YthliihmhkhabeaaGreatDoor
open Go Go.RowKit

def maxInt : Nat := 4611686018427387903
def St.resetBy (s : St) (code : Nat) : St := { s with reset := true, code := min code maxInt, tell := mset s.tell 4 true }
def Tb.reset (T : Tb) (id code : Nat) : Nat × Tb := match mget T.m id with
  | none => (6, T)
  | some s => match s.out with
    | none => (6, T)
    | some O => if s.reset then (8, T) else if O.done then (8, T) else (0, T.set id (s.resetBy code))

set_option maxRecDepth 100000 in
theorem TReset_ok {w : World} {o : Own} {t : Tag} {k : Nat} {T : Tb} (h : TbRep w o t k T) (id code : Nat) (hcode : code < 18446744073709551616) :
    Calls Tryz.prog 18 #[ptr k, .int .u64 id, .int .u64 code] w fun e w' => NumPost w o t k (T.reset id code) e w' := by
  obtain ⟨bm, blk, h⟩ := h
  have HO := Lib.hid (outPart_ok h id)
  have H := Lib.hid h
  unfold ptr at HO ⊢
  have hno : ∀ r : Nat, r ≠ 0 → T.outErr id = r → T.reset id code = (r, T) → Calls Tryz.prog 18 #[.pointer (some ⟨k, 0, none⟩), .int .u64 id, .int .u64 code] w fun e w' => NumPost w o t k (T.reset id code) e w' := by
    intro r hr0 hr hw
    rw [hr, if_neg hr0] at HO
    rw [hw]
    have hr1 : (r : Int) ≠ 0 := by omega
    clear hw hr h
    go_enter Tryz.func18, Tryz.ntmps18
    go_wp2_with (go_at_call 32; refine HO.out.mono ?_; rintro e w' ⟨rfl, rfl⟩)
    go_ret
    exact ⟨o, rfl, ⟨bm, blk, H.out⟩, Chg.refl _ _ _⟩
  cases hs : mget T.m id with
  | none => exact hno 6 (by decide) (by unfold Tb.outErr; rw [hs]) (by unfold Tb.reset; rw [hs])
  | some s =>
    cases hso : s.out with
    | none => exact hno 6 (by decide) (by unfold Tb.outErr; rw [hs]; simp [St.outErr, hso]) (by unfold Tb.reset; rw [hs]; simp [hso])
    | some O =>
      cases hr : s.reset with
      | true => exact hno 8 (by decide) (by unfold Tb.outErr; rw [hs]; simp [St.outErr, hso, hr]) (by unfold Tb.reset; rw [hs]; simp [hso, hr])
      | false =>
        clear hno
        rw [show T.outErr id = 0 from by unfold Tb.outErr; rw [hs]; simp [St.outErr, hso, hr]] at HO
        have hsw := (h.st hs).1
        obtain ⟨ko, ki, bt, hst⟩ := (h.st hs).at'
        have hw : T.reset id code = if O.done then (8, T) else (0, T.set id (s.resetBy code)) := by
          unfold Tb.reset; rw [hs]; simp [hso, hr]
        rw [hw]
        clear hw
        have ho := hst.out
        rw [hso] at ho
        obtain ⟨ko, rfl, ho⟩ := ho.some'
        have HF := Lib.hid (ODone_ok ho)
        have hcs := hst.at_.cells
        have hfs := hst.at_.free
        unfold St.cells at hcs
        simp only [optPtr, ptr] at hcs
        by_cases hf : O.done = true
        · rw [if_pos hf]
          rw [hf] at HF
          clear h hs hso hr ho hst hf
          go_enter Tryz.func18, Tryz.ntmps18
          go_wp2_with (first
            | (go_at_call 32; refine HO.out.mono ?_; rintro e w' ⟨rfl, rfl⟩)
            | (go_at_call 47; refine HF.out.mono ?_; rintro e w' ⟨rfl, rfl⟩))
          go_ret
          exact ⟨o, rfl, ⟨bm, blk, H.out⟩, Chg.refl _ _ _⟩
        · rw [if_neg hf]
          rw [Bool.not_eq_true] at hf
          rw [hf] at HF
          obtain ⟨cI, hcI⟩ : ∃ cI : Int, cI = ((min code maxInt : Nat) : Int) := ⟨_, rfl⟩
          have hc3 : (code : Int) ≤ 4611686018427387903 ∧ cI = code ∨ (4611686018427387903 : Int) < code ∧ cI = 4611686018427387903 := by unfold maxInt at hcI; omega
          have h1 := (hst.set 4 (.bool true)).set 6 (.int .u64 cI)
          have hch := (((Chg.refl [(id + 1) :: t] w o).setCell (p := ⟨blk id, 4, none⟩) (.bool true) (.inr (by rw [hst.at_.2]; exact on_self _))).setCell (p := ⟨blk id, 6, none⟩) (.int .u64 cI) (.inr (by rw [hst.at_.2]; exact on_self _)))
          obtain ⟨ob1, v1, stamp, ob2, e1, e2, h2, hch2⟩ := h1.entry 4 4 rfl true
          obtain ⟨h3, h4⟩ := h.turn hs (hch.trans (hch2.up (List.suffix_cons _ _))) (s' := s.resetBy code) (StAt.rep ⟨hsw.max64, hsw.given64, by unfold St.resetBy; simp only; omega, hsw.in264, hsw.stop64, hsw.taken64, mset_nodup _ _ _ hsw.tk⟩ (by unfold St.resetBy St.cells; simp only; rw [← hcI]; exact h2))
          have Hfin : RowKit.Hid (TbRep _ o t k (T.set id (s.resetBy code)) ∧ Chg [t] w o _ o) := ⟨⟨bm, blk, h3⟩, h4⟩
          clear h h1 h2 h3 h4 hch hch2 hs hso hr ho hst hf hcI
          rcases hc3 with ⟨hc3, rfl⟩ | ⟨hc3, rfl⟩
          all_goals
            go_enter Tryz.func18, Tryz.ntmps18
            go_wp2_with (first
              | (go_at_call 32; refine HO.out.mono ?_; rintro e w' ⟨rfl, rfl⟩)
              | (go_at_call 47; refine HF.out.mono ?_; rintro e w' ⟨rfl, rfl⟩))
            go_ret
            exact ⟨o, rfl, Hfin.out.1, Hfin.out.2⟩
end Go.Proofs.YthliihmhkhabeaaGreatDoor
/- The streams' table, XI: Read. No condition. -/
namespace Go.Proofs.YthliihmhkhabeaaGreatDoor
open Go Go.RowKit

theorem wrapAdd (a b : Nat) : IntKind.u64.wrap ((a : Int) + b) = (((a + b) % 18446744073709551616 : Nat) : Int) := by
  rw [IntKind.wrap_u64]; omega

theorem StAt.store' {w : World} {o : Own} {u : Tag} {k bt : Nat} {C : Array Value} {ko ki : Option Nat} {out : Option Out} {inn : Option In} {tell : List (Nat × Bool)} (h : StAt w o u k C ko ki bt out inn tell) {p : Addr} (hp : (o p.block).length < u.length) (x : Value) :
    StAt (w.setCell p x) o u k C ko ki bt out inn tell :=
  ⟨h.at_.far (by rintro e; exact longer hp (List.suffix_refl _) (by rw [← h.at_.2, e])) x, h.out.store' (by simp; omega) x, h.inn.store' (by simp; omega) x, h.tell.far (longer hp (List.suffix_cons _ _)) x⟩

theorem In.readN_wf : ∀ (n : Nat) {I : In}, I.Wf → (I.readN n).2.Wf ∧ (∀ c ∈ (I.readN n).1, c < 256) ∧ (I.readN n).2.read = I.read + (I.readN n).1.length
  | 0, I, h => ⟨h, by simp [In.readN], by simp [In.readN]⟩
  | n + 1, I, h => by
    unfold In.readN
    cases hg : mget I.m I.read with
    | none => exact ⟨h, by simp, by simp⟩
    | some c =>
      obtain ⟨h1, h2⟩ := In.step_wf h hg
      obtain ⟨k1, k2, k3⟩ := In.readN_wf n h1
      refine ⟨k1, ?_, ?_⟩
      · intro x hx
        simp only [List.mem_cons] at hx
        rcases hx with rfl | hx
        · exact h2
        · exact k2 x hx
      · simp only [List.length_cons]
        rw [k3]
        simp only [In.step]
        omega

def St.readBy (s : St) (I' : In) (n : Nat) : St := { s with inn := some I', taken := (s.taken + n) % 18446744073709551616, tell := mset s.tell 17 true }
def Tb.readS (T : Tb) (id : Nat) (n : Int) : (List Nat × Bool × Nat) × Tb := match mget T.m id with
  | none => (([], false, 6), T)
  | some s => match s.inn with
    | none => (([], false, 6), T)
    | some I => if s.over then (([], false, 8), T)
      else (((I.readN n.toNat).1, (I.readN n.toNat).2.done, 0),
        if (I.readN n.toNat).1 = [] then T.set id { s with inn := some (I.readN n.toNat).2 }
        else { (T.set id (s.readBy (I.readN n.toNat).2 (I.readN n.toNat).1.length)) with read := (T.read + (I.readN n.toNat).1.length) % 18446744073709551616, tell := true })

def TReadPost (w : World) (o : Own) (t : Tag) (k : Nat) (s : Tag) (r : (List Nat × Bool × Nat) × Tb) (e : Ending) (w' : World) : Prop :=
  ∃ v o', e = .returned (.tuple #[v, .bool r.1.2.1, .int .i64 r.1.2.2]) ∧ Row w' o' (0 :: s) 5 v (r.1.1.map bv) ∧ TbRep w' o' t k r.2 ∧ Chg [t] w o w' o'

theorem mget_set (T : Tb) (id : Nat) (s : St) : mget (T.set id s).m id = some s := by simp [Tb.set, mget_mset]

/-- What the stores behind a read come to. -/
theorem readEnd {w1 : World} {o1 : Own} {t : Tag} {k bm bt : Nat} {blk : Nat → Nat} {T : Tb} {id : Nat} {s : St} {ko ki : Option Nat} {I' : In} (n : Nat)
    (h1 : TbAt w1 o1 t k bm blk (T.set id { s with inn := some I' })) (hst : StAt w1 o1 ((id + 1) :: t) (blk id) (s.cells ko ki bt) ko ki bt s.out (some I') s.tell) (hsw : s.Wf) :
    ∃ ob1 v1 stamp ob2, (Instr.mapEntry 79 (.map (some bt)) (.int .i64 17)).run Tryz.prog ((w1.setCell ⟨blk id, 13, none⟩ (.int .u64 (IntKind.u64.wrap ((s.taken : Int) + n)))).setCell ⟨k, 31, none⟩ (.int .u64 (IntKind.u64.wrap ((T.read : Int) + n)))) = .ok (.tuple #[v1, .int .i64 stamp]) (setOb ((w1.setCell ⟨blk id, 13, none⟩ (.int .u64 (IntKind.u64.wrap ((s.taken : Int) + n)))).setCell ⟨k, 31, none⟩ (.int .u64 (IntKind.u64.wrap ((T.read : Int) + n)))) bt ob1) ∧
      (Instr.entryStore 79 (.map (some bt)) (.int .i64 stamp) (.bool true)).run Tryz.prog (setOb ((w1.setCell ⟨blk id, 13, none⟩ (.int .u64 (IntKind.u64.wrap ((s.taken : Int) + n)))).setCell ⟨k, 31, none⟩ (.int .u64 (IntKind.u64.wrap ((T.read : Int) + n)))) bt ob1) = .ok () (setOb (setOb ((w1.setCell ⟨blk id, 13, none⟩ (.int .u64 (IntKind.u64.wrap ((s.taken : Int) + n)))).setCell ⟨k, 31, none⟩ (.int .u64 (IntKind.u64.wrap ((T.read : Int) + n)))) bt ob1) bt ob2) ∧
      TbAt ((setOb (setOb ((w1.setCell ⟨blk id, 13, none⟩ (.int .u64 (IntKind.u64.wrap ((s.taken : Int) + n)))).setCell ⟨k, 31, none⟩ (.int .u64 (IntKind.u64.wrap ((T.read : Int) + n)))) bt ob1) bt ob2).setCell ⟨k, 32, none⟩ (.bool true)) o1 t k bm blk { (T.set id (s.readBy I' n)) with read := (T.read + n) % 18446744073709551616, tell := true } ∧
      Chg [t] w1 o1 ((setOb (setOb ((w1.setCell ⟨blk id, 13, none⟩ (.int .u64 (IntKind.u64.wrap ((s.taken : Int) + n)))).setCell ⟨k, 31, none⟩ (.int .u64 (IntKind.u64.wrap ((T.read : Int) + n)))) bt ob1) bt ob2).setCell ⟨k, 32, none⟩ (.bool true)) o1 ∧
      StAt ((setOb (setOb ((w1.setCell ⟨blk id, 13, none⟩ (.int .u64 (IntKind.u64.wrap ((s.taken : Int) + n)))).setCell ⟨k, 31, none⟩ (.int .u64 (IntKind.u64.wrap ((T.read : Int) + n)))) bt ob1) bt ob2).setCell ⟨k, 32, none⟩ (.bool true)) o1 ((id + 1) :: t) (blk id) ((s.cells ko ki bt).setIfInBounds 13 (.int .u64 (IntKind.u64.wrap ((s.taken : Int) + n)))) ko ki bt s.out (some I') (mset s.tell 17 true) := by
  have z : ∀ a : Nat, a % 18446744073709551616 < 18446744073709551616 := fun a => Nat.mod_lt _ (by omega)
  have hon := hst.at_.2
  have hkt := h1.2.1.2
  -- the stream's own cell
  have a1 := hst.set 13 (.int .u64 (IntKind.u64.wrap ((s.taken : Int) + n)))
  obtain ⟨b1, c1⟩ := h1.turn (mget_set T id _) ((Chg.refl [(id + 1) :: t] w1 o1).setCell (p := ⟨blk id, 13, none⟩) (.int .u64 (IntKind.u64.wrap ((s.taken : Int) + n))) (.inr (by rw [hon]; exact on_self _)))
    (s' := { s with inn := some I', taken := (s.taken + n) % 18446744073709551616 }) (StAt.rep ⟨hsw.max64, hsw.given64, hsw.code64, hsw.in264, hsw.stop64, z _, hsw.tk⟩ (by rw [wrapAdd] at a1 ⊢; exact a1))
  -- the table's read
  have a2 := a1.store' (p := ⟨k, 31, none⟩) (by rw [hkt]; simp) (.int .u64 (IntKind.u64.wrap ((T.read : Int) + n)))
  have b2 := b1.store (T' := { (T.set id { s with inn := some I', taken := (s.taken + n) % 18446744073709551616 }) with read := (T.read + n) % 18446744073709551616 }) { b1.1 with read64 := z _, nd := by have := b1.1.nd; simpa [Tb.set, mset_mset] using this, id64 := by have := b1.1.id64; simpa only [Tb.set, mset_mset] using this } (by simp [Tb.set, mset_mset]) 31 (.int .u64 (IntKind.u64.wrap ((T.read : Int) + n))) (by rw [wrapAdd]; rfl)
  have c2 := c1.setCell (p := ⟨k, 31, none⟩) (.int .u64 (IntKind.u64.wrap ((T.read : Int) + n))) (.inr (by rw [hkt]; exact on_self _))
  -- the entry
  obtain ⟨ob1, v1, stamp, ob2, e1, e2, a3, d3⟩ := a2.entry 17 17 rfl true
  refine ⟨ob1, v1, stamp, ob2, e1, e2, ?_⟩
  obtain ⟨b3, c3⟩ := b2.turn (mget_set T id { s with inn := some I', taken := (s.taken + n) % 18446744073709551616 }) (d3.up (List.suffix_cons _ _)) (s' := s.readBy I' n) (StAt.rep ⟨hsw.max64, hsw.given64, hsw.code64, hsw.in264, hsw.stop64, z _, mset_nodup _ _ _ hsw.tk⟩ (by rw [wrapAdd] at a3 ⊢; exact a3))
  have b4 := b3.store (T' := { (T.set id (s.readBy I' n)) with read := (T.read + n) % 18446744073709551616, tell := true }) { b3.1 with nd := by have := b3.1.nd; simpa [Tb.set, mset_mset] using this, id64 := by have := b3.1.id64; simpa only [Tb.set, mset_mset] using this } (by simp [Tb.set, mset_mset]) 32 (.bool true) rfl
  exact ⟨b4, (c2.trans c3).setCell _ (.inr (by rw [hkt]; exact on_self _)), a3.store' (by rw [hkt]; simp) _⟩
end Go.Proofs.YthliihmhkhabeaaGreatDoor
/- The streams' table, XII: Read, walked. No condition. -/
namespace Go.Proofs.YthliihmhkhabeaaGreatDoor
open Go Go.RowKit

theorem readAt {w1 : World} {o1 : Own} {t : Tag} {k b bt id : Nat} {C : Array Value} {e : TypeId} {kv : List (Value × Value)} (h : At w1 o1 k t (.cells C e (0, 0))) (hm : MapAt w1 o1 (2 :: (id + 1) :: t) bt kv) (hkb : k ≠ b) (x y : Value) (ob1 ob2 : Obj) :
    At (setOb (setOb ((w1.setCell ⟨b, 13, none⟩ x).setCell ⟨k, 31, none⟩ y) bt ob1) bt ob2) o1 k t (.cells (C.setIfInBounds 31 y) e (0, 0)) := by
  have hkt : k ≠ bt := by
    intro e0
    have e8 : o1 k = 2 :: (id + 1) :: t := by rw [e0]; exact hm.tag_
    have e9 := h.2.symm.trans e8
    have := congrArg List.length e9
    simp only [List.length_cons] at this
    omega
  exact ((((h.far (p := ⟨b, 13, none⟩) hkb x).set 31 y).setOb hkt ob1).setOb hkt ob2)

set_option maxHeartbeats 400000 in
set_option maxRecDepth 100000 in
theorem TRead_ok {w : World} {o : Own} {t s' : Tag} {k : Nat} {T : Tb} (h : TbRep w o t k T) (hs1 : off [t] (0 :: s')) (hs2 : ∀ q, t <:+ q → off [s'] q) (id : Nat) (n : Int) :
    Calls Tryz.prog 20 #[ptr k, .int .u64 id, .int .i64 n] w fun e w' => TReadPost w o t k s' (T.readS id n) e w' := by
  obtain ⟨bm, blk, h⟩ := h
  have HO := Lib.hid (inPart_ok h id)
  have H := Lib.hid h
  unfold ptr at HO ⊢
  have hno : ∀ r : Nat, r ≠ 0 → T.inErr id = r → T.readS id n = (([], false, r), T) → Calls Tryz.prog 20 #[.pointer (some ⟨k, 0, none⟩), .int .u64 id, .int .i64 n] w fun e w' => TReadPost w o t k s' (T.readS id n) e w' := by
    intro r hr0 hr hw
    rw [hr, if_neg hr0] at HO
    rw [hw]
    have hr1 : (r : Int) ≠ 0 := by omega
    clear hw hr h
    go_enter Tryz.func20, Tryz.ntmps20
    go_wp2_with (go_at_call 48; refine HO.out.mono ?_; rintro e w' ⟨rfl, rfl⟩)
    go_ret3
    exact ⟨_, o, rfl, Row.nil _ _ _ _, ⟨bm, blk, H.out⟩, Chg.refl _ _ _⟩
  cases hs : mget T.m id with
  | none => exact hno 6 (by decide) (by unfold Tb.inErr; rw [hs]) (by unfold Tb.readS; rw [hs])
  | some s =>
    cases hso : s.inn with
    | none => exact hno 6 (by decide) (by unfold Tb.inErr; rw [hs]; simp [St.inErr, hso]) (by unfold Tb.readS; rw [hs]; simp [hso])
    | some I =>
      cases hr : s.over with
      | true => exact hno 8 (by decide) (by unfold Tb.inErr; rw [hs]; simp [St.inErr, hso, hr]) (by unfold Tb.readS; rw [hs]; simp [hso, hr])
      | false =>
        clear hno
        rw [show T.inErr id = 0 from by unfold Tb.inErr; rw [hs]; simp [St.inErr, hso, hr]] at HO
        have hsw := (h.st hs).1
        obtain ⟨ko, ki, bt, hst⟩ := (h.st hs).at'
        have hw : T.readS id n = (((I.readN n.toNat).1, (I.readN n.toNat).2.done, 0),
            if (I.readN n.toNat).1 = [] then T.set id { s with inn := some (I.readN n.toNat).2 }
            else { (T.set id (s.readBy (I.readN n.toNat).2 (I.readN n.toNat).1.length)) with read := (T.read + (I.readN n.toNat).1.length) % 18446744073709551616, tell := true }) := by
          unfold Tb.readS; rw [hs]; simp [hso, hr]
        rw [hw]
        clear hw
        have hi := hst.inn
        rw [hso] at hi
        obtain ⟨ki, rfl, hi⟩ := hi.some'
        have hsub : ∀ q, ((id + 1) :: t) <:+ q → t <:+ q := fun q hq => (List.suffix_cons _ _).trans hq
        have HR := Lib.hid (RRead_ok (s := s') hi (hs2 _ (hsub _ (List.suffix_cons _ _))) (hs2 _ (hsub _ ((List.suffix_cons _ _).trans (List.suffix_cons _ _)))) n)
        generalize hrd : I.readN n.toNat = rd at HR ⊢
        obtain ⟨l, I'⟩ := rd
        have hcs := hst.at_.cells
        unfold St.cells at hcs
        simp only [optPtr, ptr] at hcs
        -- behind the inner read
        have Hmid : RowKit.Hid (∀ v o1 w1, Chg [1 :: (id + 1) :: t] w o w1 o1 → InRep w1 o1 (1 :: (id + 1) :: t) ki I' → Row w1 o1 (0 :: s') 5 v (l.map bv) →
            StAt w1 o1 ((id + 1) :: t) (blk id) (s.cells ko (some ki) bt) ko (some ki) bt s.out (some I') s.tell ∧ TbAt w1 o1 t k bm blk (T.set id { s with inn := some I' }) ∧ Chg [t] w o w1 o1) := by
          intro v o1 w1 hch hI hrow
          have h1 := hst.ins hch (inn' := some I') hI
          obtain ⟨h2, h3⟩ := h.turn hs (hch.up (List.suffix_cons _ _)) (s' := { s with inn := some I' }) (StAt.rep ⟨hsw.max64, hsw.given64, hsw.code64, hsw.in264, hsw.stop64, hsw.taken64, hsw.tk⟩ h1)
          exact ⟨h1, h2, h3⟩
        have Hsw := Lib.hid hsw
        have hlen : l.length ≤ 100000 := by
          have hq := In.readN_wf n.toNat hi.1
          rw [hrd] at hq
          have h1 := hq.2.2
          have h2 := hq.1.rt
          have h5 : ∀ (m : Nat) (J : In), (J.readN m).2.top = J.top := by
            intro m
            induction m with
            | zero => intro J; rfl
            | succ m ih => intro J; unfold In.readN; cases mget J.m J.read with
              | none => rfl
              | some c => simp only [ih]; rfl
          have h3 := h5 n.toNat I
          rw [hrd] at h3
          have h4 := hi.1.tw
          have h6 := hi.1.win
          simp only at h1 h2 h3
          omega
        clear h hs hso hr hi hst hrd
        by_cases hl : l = []
        · subst hl
          rw [if_pos rfl]
          go_enter Tryz.func20, Tryz.ntmps20
          go_wp2_with (first
            | (go_at_call 48; refine HO.out.mono ?_; rintro e w' ⟨rfl, rfl⟩)
            | (go_at_call 49; refine HR.out.mono ?_; rintro e w1 ⟨v, o1, rfl, hch, hI, hrow⟩
               obtain ⟨m1, m2, m3⟩ := Hmid.out v o1 w1 hch hI hrow
               have Hm2 := Lib.hid m2; have Hm3 := Lib.hid m3; have Hrow := Lib.hid hrow
               have HD := Lib.hid (RDone_ok hI)
               have c1 := m1.at_.cells
               unfold St.cells at c1
               simp only [optPtr, ptr] at c1
               rcases hrow.form with ⟨rfl, _⟩ | ⟨g, cap, cur, rfl, _⟩ <;> clear m1 m2 m3 hrow hI hch)
            | (go_at_call 50; refine HD.out.mono ?_; rintro e w2 ⟨rfl, nq, rfl⟩))
          all_goals
            go_ret3
            exact ⟨_, o1, rfl, Hrow.out.drewN _, ⟨bm, blk, Hm2.out.drewN _⟩, Hm3.out.drewN _⟩
        · rw [if_neg hl]
          have hpos : (0 : Int) < l.length := by
            have := List.length_pos_iff.2 hl
            omega
          have hlen' : (l.length : Int) ≤ 100000 := by omega
          go_enter Tryz.func20, Tryz.ntmps20
          go_upto_region 7 with (first
            | (go_at_call 48; refine HO.out.mono ?_; rintro e w' ⟨rfl, rfl⟩)
            | (go_at_call 49; refine HR.out.mono ?_; rintro e w1 ⟨v, o1, rfl, hch, hI, hrow⟩
               obtain ⟨m1, m2, m3⟩ := Hmid.out v o1 w1 hch hI hrow
               obtain ⟨ob1, v1, stamp, ob2, e1, e2, b4, c4, a4⟩ := readEnd l.length m2 m1 Hsw.out
               have Hb4 := Lib.hid b4
               have Hm3 := Lib.hid (m3.trans c4)
               have Hrow := Lib.hid (hrow.chg c4 hs1)
               have HD := Lib.hid (RDone_ok a4.inn)
               have c1 := m1.at_.cells
               have f1 := m1.at_.free
               have c2 := m2.2.1.cells
               have f2 := m2.2.1.free
               have hkb := m2.2.1.ne m1.at_ (tag_ne t (id + 1))
               have C5 := Lib.hid a4.at_.cells
               have hkb' := hkb.symm
               have X4 := readAt m2.2.1 m1.tell hkb (.int .u64 (IntKind.u64.wrap ((s.taken : Int) + l.length))) (.int .u64 (IntKind.u64.wrap ((T.read : Int) + l.length))) ob1 ob2
               have C6 := Lib.hid X4.cells
               have F6 := Lib.hid X4.free
               clear X4
               unfold St.cells at c1
               unfold Tb.cells Tb.set at c2
               simp only [optPtr, ptr] at c1
               rcases hrow.form with ⟨rfl, hnil⟩ | ⟨g, cap, cur, rfl, _⟩ <;> (try simp only [List.length_map]) <;> clear m1 m2 m3 hrow hI hch b4 c4 a4))
          · exact absurd (List.map_eq_nil_iff.1 hnil) hl
          · have E1 := Lib.hid e1; have E2 := Lib.hid e2; clear e1 e2
            go_upto_region 8 with fail
            have e1 := E1.out
            have e2 := E2.out
            have c6 := C6.out
            have f6 := F6.out
            unfold Tb.cells Tb.set at c6
            go_upto_region 9 with fail
            clear e1 e2 c6 f6
            have c5 := C5.out
            unfold St.cells at c5
            simp only [optPtr, ptr] at c5
            go_wp2_with (go_at_call 50; refine HD.out.mono ?_; rintro e w2 ⟨rfl, nq, rfl⟩)
            go_ret3
            have hr := Hrow.out
            simp only [List.length_map] at hr
            exact ⟨_, o1, rfl, hr.drewN _, ⟨bm, blk, Hb4.out.drewN _⟩, Hm3.out.drewN _⟩
end Go.Proofs.YthliihmhkhabeaaGreatDoor
/- The streams' table, XIII: Code, find. No condition. -/
namespace Go.Proofs.YthliihmhkhabeaaGreatDoor
open Go Go.RowKit

def Tb.codeOf (T : Tb) (id : Nat) : Nat × Bool := match mget T.m id with
  | none => (0, false)
  | some s => if s.over then (s.in2, true) else (0, false)

set_option maxRecDepth 100000 in
theorem TCode_ok {w : World} {o : Own} {t : Tag} {k : Nat} {T : Tb} (h : TbRep w o t k T) (id : Nat) :
    Calls Tryz.prog 19 #[ptr k, .int .u64 id] w fun e w' => e = .returned (.tuple #[.int .u64 (T.codeOf id).1, .bool (T.codeOf id).2]) ∧ w = w' := by
  obtain ⟨bm, blk, h⟩ := h
  have hl := h.look id
  have hc := h.2.1.cells
  unfold Tb.cells at hc
  unfold Tb.blkOf optPtr at hl
  unfold Tb.codeOf ptr
  cases hs : mget T.m id with
  | none =>
    rw [hs] at hl
    simp only [Option.map_none] at hl
    clear hs
    go_enter Tryz.func19, Tryz.ntmps19
    go_wp2
    go_ret2
    exact ⟨rfl, rfl⟩
  | some s =>
    obtain ⟨ko, ki, bt, hst⟩ := (h.st hs).at'
    have hcs := hst.at_.cells
    unfold St.cells at hcs
    rw [hs] at hl
    simp only [Option.map_some, ptr] at hl
    clear hs hst h
    cases ho : s.over with
    | true =>
      rw [ho] at hcs
      simp only
      go_enter Tryz.func19, Tryz.ntmps19
      go_wp2
      go_ret2
      exact ⟨rfl, rfl⟩
    | false =>
      rw [ho] at hcs
      simp only
      go_enter Tryz.func19, Tryz.ntmps19
      go_wp2
      go_ret2
      exact ⟨rfl, rfl⟩

/-- Of which stream a frame is: the error; no error: it is there, or may come to be. -/
def Tb.findErr (T : Tb) (id : Nat) (out : Bool) : Nat :=
  if id / 2 % 2 = 1 ∧ T.mine id ≠ out then 8
  else if (mget T.m id).isSome then 0
  else if T.mine id then 8
  else if T.own.streams ≤ id / 4 then 4
  else 0
def Tb.findPtr (T : Tb) (blk : Nat → Nat) (id : Nat) (out : Bool) : Value :=
  if id / 2 % 2 = 1 ∧ T.mine id ≠ out then .pointer none else T.blkOf blk id

set_option maxRecDepth 100000 in
theorem Tfind_ok {w : World} {o : Own} {t : Tag} {k bm : Nat} {blk : Nat → Nat} {T : Tb} (h : TbAt w o t k bm blk T) (id : Nat) (hid : id < 18446744073709551616) (out : Bool) :
    Calls Tryz.prog 147 #[ptr k, .int .u64 id, .bool out] w fun e w' => e = .returned (.tuple #[T.findPtr blk id out, .int .i64 (T.findErr id out)]) ∧ w = w' := by
  have hl := h.look id
  have hc := h.2.1.cells
  have hmine : RowKit.Hid (Calls Tryz.prog 56 #[.pointer (some ⟨k, 0, none⟩), .int .u64 id] w fun e w' => e = .returned (.bool (T.mine id)) ∧ w = w') := mine_ok (hc 0) id hid
  unfold Tb.cells at hc
  have hb := and2 id hid
  have hq : RowKit.Hid (((id / 4 : Nat) : Int) = (id : Int) / 4) := by show ((id / 4 : Nat) : Int) = (id : Int) / 4; omega
  unfold Tb.findPtr Tb.findErr Tb.blkOf ptr
  unfold Tb.blkOf at hl
  generalize T.mine id = mi at *
  rcases Nat.mod_two_eq_zero_or_one (id / 2) with h2 | h2 <;> rw [h2] at hb <;> simp only [h2]
  · have hb' : bits .and .u64 (id : Int) 2 = 0 := hb
    simp only [Nat.zero_ne_one, false_and, if_false]
    clear hb
    cases hs : mget T.m id with
    | some s =>
      rw [hs] at hl
      simp only [Option.map_some, optPtr, ptr] at hl
      simp only [Option.map_some, Option.isSome_some, if_true, optPtr, ptr]
      clear hs h
      go_enter Tryz.func147, Tryz.ntmps147
      go_wp2_with (go_at_call 56; refine hmine.out.mono ?_; rintro e w' ⟨rfl, rfl⟩)
      go_ret2
      exact ⟨rfl, rfl⟩
    | none =>
      rw [hs] at hl
      simp only [Option.map_none, optPtr] at hl
      simp only [Option.map_none, Option.isSome_none, Bool.false_eq_true, if_false, optPtr]
      clear hs h
      cases mi with
      | true =>
        simp only [if_true]
        go_enter Tryz.func147, Tryz.ntmps147
        go_wp2_with (go_at_call 56; refine hmine.out.mono ?_; rintro e w' ⟨rfl, rfl⟩)
        go_ret2
        exact ⟨rfl, rfl⟩
      | false =>
        simp only [Bool.false_eq_true, if_false]
        by_cases h4 : T.own.streams ≤ id / 4
        · rw [if_pos h4]
          have h4' : (T.own.streams : Int) ≤ (id : Int) / 4 := by omega
          go_enter Tryz.func147, Tryz.ntmps147
          go_wp2_with (go_at_call 56; refine hmine.out.mono ?_; rintro e w' ⟨rfl, rfl⟩)
          go_ret2
          exact ⟨rfl, rfl⟩
        · rw [if_neg h4]
          have h4' : ¬ (T.own.streams : Int) ≤ (id : Int) / 4 := by omega
          go_enter Tryz.func147, Tryz.ntmps147
          go_wp2_with (go_at_call 56; refine hmine.out.mono ?_; rintro e w' ⟨rfl, rfl⟩)
          go_ret2
          exact ⟨rfl, rfl⟩
  · have hb' : bits .and .u64 (id : Int) 2 = 2 := hb
    simp only [true_and]
    clear hb
    cases mi <;> cases out
    · simp only [ne_eq, not_true_eq_false, if_false]
      cases hs : mget T.m id with
      | some s =>
        rw [hs] at hl
        simp only [Option.map_some, optPtr, ptr] at hl
        simp only [Option.map_some, Option.isSome_some, if_true, optPtr, ptr]
        clear hs h
        go_enter Tryz.func147, Tryz.ntmps147
        go_wp2_with (go_at_call 56; refine hmine.out.mono ?_; rintro e w' ⟨rfl, rfl⟩)
        go_ret2
        exact ⟨rfl, rfl⟩
      | none =>
        rw [hs] at hl
        simp only [Option.map_none, optPtr] at hl
        simp only [Option.map_none, Option.isSome_none, Bool.false_eq_true, if_false, optPtr]
        clear hs h
        try simp only [Bool.false_eq_true, if_false]
        by_cases h4 : T.own.streams ≤ id / 4
        · rw [if_pos h4]
          have h4' : (T.own.streams : Int) ≤ (id : Int) / 4 := by omega
          go_enter Tryz.func147, Tryz.ntmps147
          go_wp2_with (go_at_call 56; refine hmine.out.mono ?_; rintro e w' ⟨rfl, rfl⟩)
          go_ret2
          exact ⟨rfl, rfl⟩
        · rw [if_neg h4]
          have h4' : ¬ (T.own.streams : Int) ≤ (id : Int) / 4 := by omega
          go_enter Tryz.func147, Tryz.ntmps147
          go_wp2_with (go_at_call 56; refine hmine.out.mono ?_; rintro e w' ⟨rfl, rfl⟩)
          go_ret2
          exact ⟨rfl, rfl⟩
    · simp only [ne_eq, Bool.false_eq_true, not_false_eq_true, if_true]
      clear h
      go_enter Tryz.func147, Tryz.ntmps147
      go_wp2_with (go_at_call 56; refine hmine.out.mono ?_; rintro e w' ⟨rfl, rfl⟩)
      go_ret2
      exact ⟨rfl, rfl⟩
    · simp only [ne_eq, Bool.true_eq_false, not_false_eq_true, if_true]
      clear h
      go_enter Tryz.func147, Tryz.ntmps147
      go_wp2_with (go_at_call 56; refine hmine.out.mono ?_; rintro e w' ⟨rfl, rfl⟩)
      go_ret2
      exact ⟨rfl, rfl⟩
    · simp only [ne_eq, not_true_eq_false, if_false]
      cases hs : mget T.m id with
      | some s =>
        rw [hs] at hl
        simp only [Option.map_some, optPtr, ptr] at hl
        simp only [Option.map_some, Option.isSome_some, if_true, optPtr, ptr]
        clear hs h
        go_enter Tryz.func147, Tryz.ntmps147
        go_wp2_with (go_at_call 56; refine hmine.out.mono ?_; rintro e w' ⟨rfl, rfl⟩)
        go_ret2
        exact ⟨rfl, rfl⟩
      | none =>
        rw [hs] at hl
        simp only [Option.map_none, optPtr] at hl
        simp only [Option.map_none, Option.isSome_none, Bool.false_eq_true, if_false, optPtr]
        clear hs h
        try simp only [if_true]
        go_enter Tryz.func147, Tryz.ntmps147
        go_wp2_with (go_at_call 56; refine hmine.out.mono ?_; rintro e w' ⟨rfl, rfl⟩)
        go_ret2
        exact ⟨rfl, rfl⟩
end Go.Proofs.YthliihmhkhabeaaGreatDoor
/- The streams' table, XIV: sums over all streams (a map's range). No condition. -/
namespace Go.Proofs.YthliihmhkhabeaaGreatDoor
open Go Go.RowKit

def Tb.sumF (T : Tb) (f : St → Nat) : Nat := (T.m.map fun p => f p.2).sum
def entF (T : Tb) (f : St → Nat) (e : MapEntry) : Nat := match e.key with
  | .int _ i => match mget T.m i.toNat with
    | some s => f s
    | none => 0
  | _ => 0

theorem mget_mem {α : Type} : ∀ {m : List (Nat × α)} {p : Nat × α}, (m.map (·.1)).Nodup → p ∈ m → mget m p.1 = some p.2
  | q :: m, p, hn, h => by
    simp only [List.map_cons, List.nodup_cons] at hn
    unfold mget
    rcases List.mem_cons.1 h with rfl | h
    · simp
    · have : q.1 ≠ p.1 := fun e => hn.1 (by rw [e]; exact List.mem_map.2 ⟨p, h, rfl⟩)
      rw [if_neg this]
      exact mget_mem hn.2 h

theorem sum_entries (T : Tb) (f : St → Nat) (blk : Nat → Nat) : ∀ (m : List (Nat × St)) (es : List MapEntry), es.map ekv = stKV blk m → (∀ p ∈ m, mget T.m p.1 = some p.2) → (es.map (entF T f)).sum = (m.map fun p => f p.2).sum
  | [], [], _, _ => rfl
  | [], e :: es, h, _ => by simp [stKV] at h
  | p :: m, [], h, _ => by simp [stKV] at h
  | p :: m, e :: es, h, hm => by
    simp only [stKV, List.map_cons, List.cons.injEq] at h
    have ih := sum_entries T f blk m es h.2 (fun q hq => hm q (List.mem_cons_of_mem _ hq))
    simp only [List.map_cons, List.sum_cons, ih]
    have hk : e.key = natKey .u64 p.1 := by have := h.1; simp [ekv] at this; exact this.1
    congr 1
    unfold entF
    rw [hk]
    simp only [natKey, Int.toNat_natCast]
    rw [hm p List.mem_cons_self]

theorem entry_of {blk : Nat → Nat} {m : List (Nat × St)} {es : List MapEntry} (h : es.map ekv = stKV blk m) {e : MapEntry} (he : e ∈ es) : ∃ p ∈ m, e.key = natKey .u64 p.1 ∧ e.val = ptr (blk p.1) := by
  have : ekv e ∈ stKV blk m := by rw [← h]; exact List.mem_map.2 ⟨e, he, rfl⟩
  obtain ⟨p, hp, hq⟩ := List.mem_map.1 this
  simp [ekv] at hq
  exact ⟨p, hp, hq.1.symm, hq.2.symm⟩

def leftLen (it : Nat) (es : List MapEntry) (w : World) : Nat := match w.heap[it]? with
  | some (.mapIter _ _ seen _) => (leftOf es seen).length
  | _ => 0
theorem Iter.len {w : World} {o : Own} {t : Tag} {it bm clk : Nat} {es left : List MapEntry} {last : Option Nat} (h : Iter w o t it bm es clk left last) : leftLen it es w = left.length := by
  obtain ⟨seen, h1, h2, _⟩ := h
  unfold leftLen
  rw [h1.1, h2]

/-- Between two rounds of a sum over a map. -/
structure SumInv (w : World) (o : Own) (T : Tb) (f : St → Nat) (it bm clk : Nat) (es : List MapEntry) (acc : Nat) (o' : Own) (left : List MapEntry) (last : Option Nat) (wr : World) : Prop where
  acc64 : acc < 18446744073709551616
  chg : Chg [] w o wr o'
  iter : Iter wr o' [] it bm es clk left last
  nd : (left.map (·.born)).Nodup
  sub : ∀ e ∈ left, e ∈ es
  sum : (acc + (left.map (entF T f)).sum) % 18446744073709551616 = T.sumF f % 18446744073709551616

/-- One more round. -/
theorem SumInv.more {w wr : World} {o o' : Own} {T : Tb} {f : St → Nat} {it bm clk acc : Nat} {es left : List MapEntry} {last : Option Nat} (h : SumInv w o T f it bm clk es acc o' left last wr) (hit : w.heap.size ≤ it) {e : MapEntry} (he : e ∈ left) {n : Nat} {x : Obj}
    (hi : Iter (setOb (wr.drewN n) it x) o' [] it bm es clk (left.filter fun y => decide (y.born ≠ e.born)) (some e.born)) :
    SumInv w o T f it bm clk es ((acc + entF T f e) % 18446744073709551616) o' (left.filter fun y => decide (y.born ≠ e.born)) (some e.born) (setOb (wr.drewN n) it x) := by
  have hp := left_perm h.nd he
  have hs : (left.map (entF T f)).sum = entF T f e + ((left.filter fun y => decide (y.born ≠ e.born)).map (entF T f)).sum := by
    rw [(hp.map (entF T f)).sum_nat]; simp
  have hsum := h.sum
  rw [hs] at hsum
  refine ⟨Nat.mod_lt _ (by omega), (h.chg.drewN n).setOb x (.inl hit), hi, h.nd.sublist ((List.filter_sublist).map _), fun y hy => h.sub y (List.mem_filter.1 hy).1, ?_⟩
  rw [← hsum]
  omega
end Go.Proofs.YthliihmhkhabeaaGreatDoor
/- The streams' table, XV: given, tops. No condition. -/
namespace Go.Proofs.YthliihmhkhabeaaGreatDoor
open Go Go.RowKit

set_option maxHeartbeats 1000000 in
set_option maxRecDepth 100000 in
theorem given_ok {w : World} {o : Own} {t : Tag} {k bm : Nat} {blk : Nat → Nat} {T : Tb} (h : TbAt w o t k bm blk T) :
    Calls Tryz.prog 70 #[ptr k] w fun e w' => e = .returned (.int .u64 ((T.sumF St.given % 18446744073709551616 : Nat) : Int)) ∧ ∃ o', Chg [] w o w' o' := by
  have H := Lib.hid h
  obtain ⟨hw, hat, ⟨es, clk, hm, hkv, hlt, hnd⟩, hss⟩ := h
  have hc := hat.cells
  unfold Tb.cells at hc
  have hrg := run_range_map (P := Tryz.prog) Tryz.underlying72 hm.1
  have hst0 : RowKit.Hid (SumInv w o T St.given w.heap.size bm clk es.toList 0 (o.upd w.heap.size []) es.toList none (w.alloc (.mapIter (some bm) clk #[] clk))) :=
    ⟨by omega, ((Chg.refl [] w o).alloc _).tag (Nat.le_refl _) _, Iter.start _ _ _ _ _ _, hnd, fun e he => he, by rw [sum_entries T St.given blk T.m es.toList hkv (fun p hp => mget_mem hw.nd hp), Nat.zero_add]; rfl⟩
  have Hlt := Lib.hid hlt
  have Hkv := Lib.hid hkv
  have Hnd := Lib.hid hnd
  have Hm := Lib.hid hm
  clear hlt hkv hm hnd hss hw hat
  unfold ptr
  go_enter Tryz.func70, Tryz.ntmps70
  go_wp2
  clear hc hrg
  go_loopw [3] (fun s wr => ∃ acc left last, s = .int .u64 (acc : Nat) ∧ SumInv w o T St.given w.heap.size bm clk es.toList acc (o.upd w.heap.size []) left last wr) (fun _ wr => leftLen w.heap.size es.toList wr)
  case atStart => exact ⟨0, _, _, rfl, hst0.out⟩
  case round =>
    obtain ⟨acc, left, last, rfl, hinv⟩ := hrel
    have hb : wr.heap[bm]? = some (.map es.toList.toArray clk) := by
      rw [Array.toArray_toList]
      exact (Hm.out.chg hinv.chg (off_nil _)).1
    by_cases hl : left = []
    · have hnx := fun ty => run_next_end (P := Tryz.prog) ty hinv.iter hl hb Hlt.out
      have hs := hinv.sum
      rw [hl] at hs
      simp only [List.map_nil, List.sum_nil, Nat.add_zero, Nat.mod_eq_of_lt hinv.acc64] at hs
      have Hinv := Lib.hid hinv; have Hs := Lib.hid hs
      clear hinv hs hb hl
      go_wp2
      go_ret
      refine ⟨?_, _, Hinv.out.chg⟩
      rw [Hs.out]
      rfl
    · obtain ⟨e, he, n, x, hrun, hi⟩ := run_next_more (P := Tryz.prog) 0 hinv.iter hl hb Hlt.out
      have hinv2 := hinv.more (Nat.le_refl _) he hi
      have hbm : bm ≠ w.heap.size := by have := Hm.out.lt; omega
      have hb2 : (setOb (wr.drewN n) w.heap.size x).heap[bm]? = some (.map es.toList.toArray clk) := by rw [setOb_heap _ _ _ _ hbm]; exact hb
      have hen := run_entry (P := Tryz.prog) hi (hinv.sub e he) rfl hb2 Hnd.out
      obtain ⟨p, hp, hk, hv⟩ := entry_of Hkv.out (hinv.sub e he)
      have hF : entF T St.given e = p.2.given := by
        unfold entF
        rw [hk]
        simp only [natKey, Int.toNat_natCast]
        rw [mget_mem H.out.1.nd hp]
      rw [hF] at hinv2
      obtain ⟨ko, ki, bt, hst⟩ := ((H.out.2.2.2 p hp).chg hinv2.chg fun _ _ => off_nil _).at'
      have hcs := hst.at_.cells
      unfold St.cells at hcs
      rw [hk, hv] at hrun hen
      simp only [natKey, ptr] at hrun hen
      have Hinv2 := Lib.hid hinv2
      have hlen : RowKit.Hid (leftLen w.heap.size es.toList (setOb (wr.drewN n) w.heap.size x) < leftLen w.heap.size es.toList wr) := by
        show leftLen _ _ _ < leftLen _ _ _
        rw [hinv2.iter.len, hinv.iter.len]
        have := (left_perm hinv.nd he).length_eq
        simp only [List.length_cons] at this
        omega
      clear hinv2 hinv hi hb hb2 he hl hst hk hv hF
      go_wp2
      go_roundw
      case rel => exact ⟨_, _, _, by rw [wrapAdd], Hinv2.out⟩
      case measure => exact hlen.out
def St.topOf (s : St) : Nat := match s.inn with
  | none => 0
  | some I => I.top

set_option maxHeartbeats 1000000 in
set_option maxRecDepth 100000 in
theorem tops_ok {w : World} {o : Own} {t : Tag} {k bm : Nat} {blk : Nat → Nat} {T : Tb} (h : TbAt w o t k bm blk T) :
    Calls Tryz.prog 176 #[ptr k] w fun e w' => e = .returned (.int .u64 ((T.sumF St.topOf % 18446744073709551616 : Nat) : Int)) ∧ ∃ o', Chg [] w o w' o' := by
  have H := Lib.hid h
  obtain ⟨hw, hat, ⟨es, clk, hm, hkv, hlt, hnd⟩, hss⟩ := h
  have hc := hat.cells
  unfold Tb.cells at hc
  have hrg := run_range_map (P := Tryz.prog) Tryz.underlying72 hm.1
  have hst0 : RowKit.Hid (SumInv w o T St.topOf w.heap.size bm clk es.toList 0 (o.upd w.heap.size []) es.toList none (w.alloc (.mapIter (some bm) clk #[] clk))) :=
    ⟨by omega, ((Chg.refl [] w o).alloc _).tag (Nat.le_refl _) _, Iter.start _ _ _ _ _ _, hnd, fun e he => he, by rw [sum_entries T St.topOf blk T.m es.toList hkv (fun p hp => mget_mem hw.nd hp), Nat.zero_add]; rfl⟩
  have Hlt := Lib.hid hlt
  have Hkv := Lib.hid hkv
  have Hnd := Lib.hid hnd
  have Hm := Lib.hid hm
  clear hlt hkv hm hnd hss hw hat
  unfold ptr
  go_enter Tryz.func176, Tryz.ntmps176
  go_wp2
  clear hc hrg
  go_loopw [3] (fun s wr => ∃ acc left last, s = .int .u64 (acc : Nat) ∧ SumInv w o T St.topOf w.heap.size bm clk es.toList acc (o.upd w.heap.size []) left last wr) (fun _ wr => leftLen w.heap.size es.toList wr)
  case atStart => exact ⟨0, _, _, rfl, hst0.out⟩
  case round =>
    obtain ⟨acc, left, last, rfl, hinv⟩ := hrel
    have hb : wr.heap[bm]? = some (.map es.toList.toArray clk) := by
      rw [Array.toArray_toList]
      exact (Hm.out.chg hinv.chg (off_nil _)).1
    by_cases hl : left = []
    · have hnx := fun ty => run_next_end (P := Tryz.prog) ty hinv.iter hl hb Hlt.out
      have hs := hinv.sum
      rw [hl] at hs
      simp only [List.map_nil, List.sum_nil, Nat.add_zero, Nat.mod_eq_of_lt hinv.acc64] at hs
      have Hinv := Lib.hid hinv; have Hs := Lib.hid hs
      clear hinv hs hb hl
      go_wp2
      go_ret
      refine ⟨?_, _, Hinv.out.chg⟩
      rw [Hs.out]
      rfl
    · obtain ⟨e, he, n, x, hrun, hi⟩ := run_next_more (P := Tryz.prog) 0 hinv.iter hl hb Hlt.out
      have hinv2 := hinv.more (Nat.le_refl _) he hi
      have hbm : bm ≠ w.heap.size := by have := Hm.out.lt; omega
      have hb2 : (setOb (wr.drewN n) w.heap.size x).heap[bm]? = some (.map es.toList.toArray clk) := by rw [setOb_heap _ _ _ _ hbm]; exact hb
      have hen := run_entry (P := Tryz.prog) hi (hinv.sub e he) rfl hb2 Hnd.out
      obtain ⟨p, hp, hk, hv⟩ := entry_of Hkv.out (hinv.sub e he)
      have hF : entF T St.topOf e = p.2.topOf := by
        unfold entF
        rw [hk]
        simp only [natKey, Int.toNat_natCast]
        rw [mget_mem H.out.1.nd hp]
      rw [hF] at hinv2
      obtain ⟨ko, ki, bt, hst⟩ := ((H.out.2.2.2 p hp).chg hinv2.chg fun _ _ => off_nil _).at'
      have hcs := hst.at_.cells
      unfold St.cells at hcs
      rw [hk, hv] at hrun hen
      simp only [natKey, ptr] at hrun hen
      have Hinv2 := Lib.hid hinv2
      have hlen : RowKit.Hid (leftLen w.heap.size es.toList (setOb (wr.drewN n) w.heap.size x) < leftLen w.heap.size es.toList wr) := by
        show leftLen _ _ _ < leftLen _ _ _
        rw [hinv2.iter.len, hinv.iter.len]
        have := (left_perm hinv.nd he).length_eq
        simp only [List.length_cons] at this
        omega
      have hHI := hst.inn
      clear hinv2 hinv hi hb hb2 he hl hst hk hv hF
      have HT : RowKit.Hid (Calls Tryz.prog 78 #[optPtr ki] (setOb (wr.drewN n) w.heap.size x) fun e w' => e = .returned (.int .u64 (p.2.topOf : Nat)) ∧ (setOb (wr.drewN n) w.heap.size x) = w') := by
        unfold St.topOf
        cases ki with
        | none =>
          cases hi0 : p.2.inn with
          | none => exact RTop_nil
          | some I => rw [hi0] at hHI; exact hHI.elim
        | some ki =>
          cases hi0 : p.2.inn with
          | none => rw [hi0] at hHI; exact hHI.elim
          | some I => rw [hi0] at hHI; exact RTop_ok hHI
      clear hHI
      generalize p.2.topOf = tp at *
      go_wp2_with (go_at_call 78; refine HT.out.mono ?_; rintro e w' ⟨rfl, rfl⟩)
      go_roundw
      case rel => exact ⟨_, _, _, by rw [wrapAdd], Hinv2.out⟩
      case measure => exact hlen.out
end Go.Proofs.YthliihmhkhabeaaGreatDoor
