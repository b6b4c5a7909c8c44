/- What package reasm's Put does to a buffer. Conditions: the buffer is as its functions leave it (In.Wf); what is put is less than 256 a byte. -/
import Derived.Test.YthliihmhkhabeaaGreatDoorIds08
import Derived.Deep.CutBlock
namespace Go.Proofs.YthliihmhkhabeaaGreatDoor
open Go Go.RowKit

def In.put1 (read : Nat) (m : List (Nat × Nat)) (at_ c : Nat) : List (Nat × Nat) :=
  if (mget m at_).isNone ∧ read ≤ at_ then mset m at_ c else m
def In.store (read : Nat) (m : List (Nat × Nat)) (off : Nat) : List Nat → List (Nat × Nat)
  | [] => m
  | c :: cs => In.store read (In.put1 read m off c) (off + 1) cs

theorem In.store_snoc (read : Nat) : ∀ (l : List Nat) (m : List (Nat × Nat)) (off c : Nat), In.store read m off (l ++ [c]) = In.put1 read (In.store read m off l) (off + l.length) c
  | [], m, off, c => rfl
  | x :: l, m, off, c => by
    have := In.store_snoc read l (In.put1 read m off x) (off + 1) c
    simp only [List.cons_append, In.store, List.length_cons, this]
    congr 1
    omega

def In.bad (I : In) (en : Nat) (last : Bool) : Bool := (I.known && (decide (en > I.size) || last && en != I.size)) || last && decide (en < I.top)
def In.put (I : In) (off : Nat) (data : List Nat) (last : Bool) : Nat × In :=
  if 4611686018427387903 < off ∨ 4611686018427387903 < off + data.length then (1, I)
  else if I.read + I.window < off + data.length then (9, I)
  else if I.bad (off + data.length) last then (10, I)
  else (0, { I with m := In.store I.read I.m off data, top := max I.top (off + data.length), size := if last then off + data.length else I.size, known := last || I.known })

def PutPost (w : World) (o : Own) (t : Tag) (k : Nat) (r : Nat × In) (e : Ending) (w' : World) : Prop :=
  e = .returned (.int .i64 r.1) ∧ Chg [t] w o w' o ∧ InRep w' o t k r.2

theorem put1_wf {read top : Nat} {m : List (Nat × Nat)} {at_ c : Nat} (h1 : (m.map (·.1)).Nodup) (h2 : ∀ p ∈ m, read ≤ p.1 ∧ p.1 < top ∧ p.2 < 256) (ha : at_ < top) (hc : c < 256) :
    ((In.put1 read m at_ c).map (·.1)).Nodup ∧ ∀ p ∈ In.put1 read m at_ c, read ≤ p.1 ∧ p.1 < top ∧ p.2 < 256 := by
  unfold In.put1
  by_cases h : (mget m at_).isNone ∧ read ≤ at_
  · rw [if_pos h]
    refine ⟨mset_nodup _ _ _ h1, ?_⟩
    have hn : midx m at_ 0 = none := by
      have := midx_get m at_ 0
      rw [Option.isNone_iff_eq_none.1 h.1] at this
      simpa using this
    rw [(midx_none m at_ 0 hn).1]
    intro p hp
    rcases List.mem_append.1 hp with hp | hp
    · exact h2 p hp
    · simp at hp; subst hp; exact ⟨h.2, ha, hc⟩
  · rw [if_neg h]
    exact ⟨h1, h2⟩
theorem store_wf {read top : Nat} : ∀ (l : List Nat) (m : List (Nat × Nat)) (off : Nat), (m.map (·.1)).Nodup → (∀ p ∈ m, read ≤ p.1 ∧ p.1 < top ∧ p.2 < 256) → off + l.length ≤ top → (∀ c ∈ l, c < 256) →
    ((In.store read m off l).map (·.1)).Nodup ∧ ∀ p ∈ In.store read m off l, read ≤ p.1 ∧ p.1 < top ∧ p.2 < 256
  | [], m, off, h1, h2, _, _ => ⟨h1, h2⟩
  | c :: l, m, off, h1, h2, h3, h4 => by
    simp only [List.length_cons] at h3
    obtain ⟨k1, k2⟩ := put1_wf (at_ := off) (c := c) h1 h2 (by omega) (h4 c (by simp))
    exact store_wf l _ (off + 1) k1 k2 (by omega) (fun c hc => h4 c (by simp [hc]))

theorem In.put_wf {I : In} (h : I.Wf) (off : Nat) (data : List Nat) (last : Bool) (hd : ∀ c ∈ data, c < 256) : (I.put off data last).2.Wf := by
  unfold In.put
  split
  · exact h
  split
  · exact h
  split
  · exact h
  rename_i h1 h2 h3
  obtain ⟨k1, k2⟩ := store_wf (read := I.read) (top := max I.top (off + data.length)) data I.m off h.nd (fun p hp => by have := h.keys p hp; exact ⟨this.1, by omega, this.2.2⟩) (by omega) hd
  have := h.rt; have := h.tw; have := h.tm; have := h.sm; have hk := h.ks
  refine ⟨h.win, by simp only; omega, by simp only; omega, by simp only; omega, ?_, ?_, k1, k2⟩
  · simp only; split <;> omega
  · simp only
    unfold In.bad at h3
    cases last <;> cases hk' : I.known <;> simp_all <;> omega

theorem zeroU8 : ∀ w, (zeroValue 5).run Tryz.prog w = .ok (bv 0) w := fun w => by
  obtain ⟨i, h1, h2, _⟩ := infoU8'
  simp [zeroValue, typeInfo, h1, h2, bv]

set_option maxRecDepth 100000 in
theorem RPut_bad {w : World} {o : Own} {t : Tag} {k : Nat} {I : In} (h : InRep w o t k I) (fo : Nat) (hfo : fo < 18446744073709551616) {A : Option Addr} {c : Nat} {n : Nat} (hl : n ≤ 1000000000000) (last : Bool) (r : Nat)
    (hr : (4611686018427387903 < fo ∨ 4611686018427387903 < fo + n) ∧ r = 1 ∨ fo ≤ 4611686018427387903 ∧ fo + n ≤ 4611686018427387903 ∧ (I.read + I.window < fo + n ∧ r = 9 ∨ fo + n ≤ I.read + I.window ∧ I.bad (fo + n) last = true ∧ r = 10)) :
    Calls Tryz.prog 150 #[.pointer (some ⟨k, 0, none⟩), .int .u64 fo, .slice A n c, .bool last] w fun e w' => e = .returned (.int .i64 r) ∧ ∃ n, w' = w.drewN n := by
  have HL := Lib.hid (RLimit_ok h)
  obtain ⟨hw, bm, hat, hm⟩ := h
  have hc := hat.cells
  rcases hr with ⟨hr, rfl⟩ | ⟨h1, h2, hr⟩
  · by_cases h1 : 4611686018427387903 < fo
    · clear hr
      go_enter Tryz.func150, Tryz.ntmps150
      go_wp2
      go_ret
      exact ⟨rfl, 0, rfl⟩
    · have h2 : 4611686018427387903 < fo + n := by omega
      clear hr
      go_enter Tryz.func150, Tryz.ntmps150
      go_wp2
      go_ret
      exact ⟨rfl, 0, rfl⟩
  · rcases hr with ⟨hr, rfl⟩ | ⟨h3, hr, rfl⟩
    · go_enter Tryz.func150, Tryz.ntmps150
      go_wp2_with (go_at_call 68; refine HL.out.mono ?_; rintro e w' ⟨rfl, nq, rfl⟩)
      go_ret
      exact ⟨rfl, _, rfl⟩
    · unfold In.bad at hr
      cases hk : I.known with
      | false =>
        rw [hk] at hc hr
        cases last with
        | false => simp at hr
        | true =>
          simp at hr
          go_enter Tryz.func150, Tryz.ntmps150
          go_wp2_with (go_at_call 68; refine HL.out.mono ?_; rintro e w' ⟨rfl, nq, rfl⟩)
          go_ret
          exact ⟨rfl, _, rfl⟩
      | true =>
        rw [hk] at hc hr
        cases last with
        | false =>
          simp at hr
          go_enter Tryz.func150, Tryz.ntmps150
          go_wp2_with (go_at_call 68; refine HL.out.mono ?_; rintro e w' ⟨rfl, nq, rfl⟩)
          go_ret
          exact ⟨rfl, _, rfl⟩
        | true =>
          simp at hr
          by_cases h4 : fo + n ≤ I.size
          · by_cases h5 : fo + n = I.size
            · have h6 : fo + n < I.top := by omega
              clear hr
              go_enter Tryz.func150, Tryz.ntmps150
              go_wp2_with (go_at_call 68; refine HL.out.mono ?_; rintro e w' ⟨rfl, nq, rfl⟩)
              all_goals first
                | (go_ret; exact ⟨rfl, _, rfl⟩)
                | (exfalso; rename ((fo : Int) + n ≤ I.size ∧ ((fo : Int) + n != I.size) = false) => q2; rename ((I.size : Int) < (fo : Int) + n ∨ ((fo : Int) + n != I.size) = true) => q1; obtain ⟨qa, qb⟩ := q2; rcases q1 with q | q; omega; rw [q] at qb; cases qb)
            · have h5' : (fo : Int) + n ≠ I.size := by omega
              have h5b : ¬ (((fo : Int) + n != I.size) = false) := by simp; omega
              clear hr
              go_enter Tryz.func150, Tryz.ntmps150
              go_wp2_with (go_at_call 68; refine HL.out.mono ?_; rintro e w' ⟨rfl, nq, rfl⟩)
              all_goals first
                | (go_ret; exact ⟨rfl, _, rfl⟩)
                | (exfalso; rename ((fo : Int) + n ≤ I.size ∧ ((fo : Int) + n != I.size) = false) => q2; exact h5b q2.2)
          · have h4' : (I.size : Int) < (fo : Int) + n := by omega
            have h5' : (fo : Int) + n ≠ I.size := by omega
            have h5b : ¬ (((fo : Int) + n != I.size) = false) := by simp; omega
            clear hr
            go_enter Tryz.func150, Tryz.ntmps150
            go_wp2_with (go_at_call 68; refine HL.out.mono ?_; rintro e w' ⟨rfl, nq, rfl⟩)
            go_ret
            exact ⟨rfl, _, rfl⟩

theorem setOb_size (w : World) (r : Nat) (x : Obj) : (setOb w r x).heap.size = w.heap.size := by simp [setOb]

/-- The world behind the loop: only the map was turned. -/
structure Stored (w : World) (o : Own) (t : Tag) (bm : Nat) (m : List (Nat × Nat)) (wx : World) : Prop where
  chg : Chg [0 :: t] w o wx o
  map : MapAt wx o (0 :: t) bm (inKV m)

def PutGood (w : World) (o : Own) (t : Tag) (k : Nat) (I : In) (fo : Nat) (data : List Nat) (last : Bool) (w' : World) : Prop :=
  ∃ bm wx X, At w o k t (.cells #[.int .i64 I.window, .int .u64 I.read, .int .u64 I.top, .int .u64 I.size, .bool I.known, .map (some bm)] 132 (0, 0)) ∧ Stored w o t bm (In.store I.read I.m fo data) wx ∧ X = ((max I.top (fo + data.length) : Nat) : Int) ∧
      w' = (if last then ((wx.setCell ⟨k, 2, none⟩ (.int .u64 X)).setCell ⟨k, 3, none⟩ (.int .u64 ((fo : Int) + data.length))).setCell ⟨k, 4, none⟩ (.bool true) else wx.setCell ⟨k, 2, none⟩ (.int .u64 X))

set_option maxRecDepth 100000 in
theorem RPut_good {w : World} {o : Own} {t s : Tag} {k : Nat} {I : In} (h : InRep w o t k I) (fo : Nat) {v : Value} {data : List Nat} (hd : Sl w o s v (data.map bv)) (hs : off [0 :: t] s) (hl : data.length ≤ 1000000000000) (last : Bool)
    (h1 : fo + data.length ≤ 4611686018427387903) (h2 : fo + data.length ≤ I.read + I.window) (h3 : I.bad (fo + data.length) last = false) :
    Calls Tryz.prog 150 #[.pointer (some ⟨k, 0, none⟩), .int .u64 fo, v, .bool last] w fun e w' => e = .returned (.int .i64 0) ∧ PutGood w o t k I fo data last w' := by
  have HL := Lib.hid (RLimit_ok h)
  obtain ⟨hw, bm, hat, hm⟩ := h
  have hc := hat.cells
  obtain ⟨A, c, hv, hcap, hcm, _⟩ := id hd
  rw [List.length_map] at hv hcap
  subst hv
  unfold maxLen at hcm
  have Hd := Lib.hid hd; clear hd
  have Hhat := Lib.hid hat; clear hat
  unfold In.bad at h3
  have e1 : (fo : Int) + data.length ≤ 4611686018427387903 := by omega
  have H3 := Lib.hid h3; clear h3
  have Hh := Lib.hid hm; clear hm
  have e2 : I.top ≤ 4611686018427387903 := hw.tm
  go_enter Tryz.func150, Tryz.ntmps150
  go_upto_block 0 with fail
  go_cut [9] (fun s wx => s = .int .u64 ((fo : Int) + data.length) ∧ ∃ n, wx = w.drewN n)
  case first =>
    have h3 := H3.out
    cases hk : I.known with
    | false =>
      rw [hk] at hc h3
      cases last with
      | false =>
        go_wp2_with (go_at_call 68; refine HL.out.mono ?_; rintro e w' ⟨rfl, nq, rfl⟩)
        go_meet
        exact ⟨rfl, _, rfl⟩
      | true =>
        simp at h3
        have h4 : (I.top : Int) ≤ fo + data.length := by omega
        go_wp2_with (go_at_call 68; refine HL.out.mono ?_; rintro e w' ⟨rfl, nq, rfl⟩)
        go_meet
        exact ⟨rfl, _, rfl⟩
    | true =>
      rw [hk] at hc h3
      cases last with
      | false =>
        simp at h3
        have h4 : (fo : Int) + data.length ≤ I.size := by omega
        go_wp2_with (go_at_call 68; refine HL.out.mono ?_; rintro e w' ⟨rfl, nq, rfl⟩)
        go_meet
        exact ⟨rfl, _, rfl⟩
      | true =>
        simp at h3
        have h4 : (fo : Int) + data.length ≤ I.size := by omega
        have h4b : (I.size : Int) ≤ (fo : Int) + data.length := by omega
        have h5 : (I.top : Int) ≤ fo + data.length := by omega
        have h6 : ((fo : Int) + data.length != I.size) = false := by simp; omega
        go_wp2_with (go_at_call 68; refine HL.out.mono ?_; rintro e w' ⟨rfl, nq, rfl⟩)
        all_goals first
          | (exfalso; rename ((I.size : Int) < (fo : Int) + data.length ∨ ((fo : Int) + data.length != I.size) = true) => q1; rcases q1 with q | q; omega; rw [h6] at q; cases q)
          | (go_meet; exact ⟨rfl, _, rfl⟩)
  case rest =>
    obtain ⟨rfl, m0, rfl⟩ := hcut
    clear hc
    go_wp2
    go_loopw [67] (fun i wr => ∃ j : Nat, i = .int .i64 j ∧ j ≤ data.length ∧ Stored w o t bm (In.store I.read I.m fo (data.take j)) wr)
      (fun i _ => data.length - (intOf i).toNat)
    case atStart =>
      exact ⟨0, rfl, Nat.zero_le _, (Chg.refl _ _ _).drewN _, Hh.out⟩
    case round =>
      obtain ⟨j, rfl, hj1, hst⟩ := hrel
      have hat := Hhat.out.chg hst.chg (off_child 0 t)
      have hc := hat.cells
      have hd := Hd.out.chg hst.chg hs
      by_cases hlt : j < data.length
      · obtain ⟨x, hx⟩ : ∃ x, data[j]? = some x := ⟨data[j], List.getElem?_eq_getElem _⟩
        have hm := hst.map
        have hlk := run_lookup (P := Tryz.prog) (V := bv) (PlainKey.int Tryz.underlying26) Tryz.underlying130 (fun w => zeroU8 w) hm (fo + j) true
        obtain ⟨ob, hup, hm2⟩ := run_mapUpdate (P := Tryz.prog) (V := bv) (PlainKey.int Tryz.underlying26) Tryz.underlying130 hm (fo + j) x
        have hst2 : data.take (j + 1) = data.take j ++ [x] := by rw [List.take_add_one, hx]; rfl
        have hsn : In.store I.read I.m fo (data.take (j + 1)) = In.put1 I.read (In.store I.read I.m fo (data.take j)) (fo + j) x := by
          rw [hst2, In.store_snoc, List.length_take, Nat.min_eq_left hj1]
        unfold In.put1 at hsn
        have hcell : ∃ b f, A = some ⟨b, f, none⟩ ∧ wr.cell? ⟨b, f + j, none⟩ = some (bv x) := by
          obtain ⟨A', c', hv, _, _, _, h5⟩ := hd
          injection hv with hA _ _
          subst hA
          obtain ⟨b, f, rfl, _, h6⟩ := h5 (by simp; omega)
          exact ⟨b, f, rfl, by rw [h6 j (by simpa using hlt), List.getElem?_map, hx]; rfl⟩
        obtain ⟨b, f, rfl, hcj⟩ := hcell
        unfold bv at hcj
        generalize hg : mget (In.store I.read I.m fo (data.take j)) (fo + j) = g at hlk hsn
        have Hst := Lib.hid hst; clear hst hm hst2 hx hd
        have Hm2 := Lib.hid hm2; clear hm2
        have Hsn := Lib.hid hsn; clear hsn hg
        have hat' := Lib.hid hat; clear hat
        simp only [natKey, Int.natCast_add, bv] at hlk hup
        have Hup := Lib.hid hup
        cases g with
        | some y =>
          simp only [Option.map_some, Option.getD_some, Option.isSome_some, if_true] at hlk
          go_wp2
          go_roundw
          case rel =>
            refine ⟨j + 1, by go_num, by omega, ?_⟩
            rw [Hsn.out]
            simpa using Hst.out
          case measure => simp [intOf]; omega
        | none =>
          simp only [Option.map_none, Option.getD_none, Option.isSome_none, if_true] at hlk
          by_cases hr : I.read ≤ fo + j
          · go_wp2
            go_roundw
            case rel =>
              refine ⟨j + 1, by go_num, by omega, ?_⟩
              rw [Hsn.out]
              simp only [Option.isNone_none, hr, true_and, if_true]
              exact ⟨Hst.out.chg.setOb _ (.inr (by rw [Hh.out.tag_]; exact on_self _)), Hm2.out⟩
            case measure => simp [intOf]; omega
          · go_wp2
            go_roundw
            case rel =>
              refine ⟨j + 1, by go_num, by omega, ?_⟩
              rw [Hsn.out]
              simpa [hr] using Hst.out
            case measure => simp [intOf]; omega
      · have hje : j = data.length := by omega
        subst hje
        rw [List.take_length] at hst
        have Hst := Lib.hid hst; clear hst
        have hf := hat.free
        cases last with
        | false =>
          go_wp2
          all_goals
            go_ret
            exact ⟨rfl, bm, wr, _, Hhat.out, Hst.out, by omega, rfl⟩
        | true =>
          go_wp2
          all_goals
            go_ret
            exact ⟨rfl, bm, wr, _, Hhat.out, Hst.out, by omega, rfl⟩
end Go.Proofs.YthliihmhkhabeaaGreatDoor
/- What package reasm's Put does to a buffer, II. Conditions: the buffer is as its functions leave it (In.Wf); what is put is less than 256 a byte. -/
namespace Go.Proofs.YthliihmhkhabeaaGreatDoor
open Go Go.RowKit

theorem InRep.mk' {w : World} {o : Own} {t : Tag} {k bm : Nat} {J : In} (hw : J.Wf) (h1 : At w o k t (.cells #[.int .i64 J.window, .int .u64 J.read, .int .u64 J.top, .int .u64 J.size, .bool J.known, .map (some bm)] 132 (0, 0))) (h2 : MapAt w o (0 :: t) bm (inKV J.m)) : InRep w o t k J := ⟨hw, bm, h1, h2⟩

theorem RPut_ok {w : World} {o : Own} {t s : Tag} {k : Nat} {I : In} (h : InRep w o t k I) (fo : Nat) (hfo : fo < 18446744073709551616) {v : Value} {data : List Nat} (hd : Sl w o s v (data.map bv)) (hs : off [0 :: t] s) (hb : ∀ c ∈ data, c < 256) (hl : data.length ≤ 1000000000000) (last : Bool) :
    Calls Tryz.prog 150 #[.pointer (some ⟨k, 0, none⟩), .int .u64 fo, v, .bool last] w fun e w' => PutPost w o t k (I.put fo data last) e w' := by
  have hwf := In.put_wf h.1 fo data last hb
  obtain ⟨A, c, hv, hcap, hcm, _⟩ := id hd
  rw [List.length_map] at hv hcap
  have hbad : ∀ r : Nat, I.put fo data last = (r, I) → ((4611686018427387903 < fo ∨ 4611686018427387903 < fo + data.length) ∧ r = 1 ∨ fo ≤ 4611686018427387903 ∧ fo + data.length ≤ 4611686018427387903 ∧ (I.read + I.window < fo + data.length ∧ r = 9 ∨ fo + data.length ≤ I.read + I.window ∧ I.bad (fo + data.length) last = true ∧ r = 10)) →
      Calls Tryz.prog 150 #[.pointer (some ⟨k, 0, none⟩), .int .u64 fo, v, .bool last] w fun e w' => PutPost w o t k (I.put fo data last) e w' := by
    intro r hr hh
    rw [hr, hv]
    refine (RPut_bad (A := A) (c := c) h fo hfo hl last r hh).mono ?_
    rintro e w' ⟨rfl, n, rfl⟩
    exact ⟨rfl, (Chg.refl _ _ _).drewN n, h.chg ((Chg.refl [] _ _).drewN n) (off_nil _) (off_nil _)⟩
  by_cases h1 : 4611686018427387903 < fo ∨ 4611686018427387903 < fo + data.length
  · exact hbad 1 (by unfold In.put; rw [if_pos h1]) (.inl ⟨h1, rfl⟩)
  by_cases h2 : I.read + I.window < fo + data.length
  · exact hbad 9 (by unfold In.put; rw [if_neg h1, if_pos h2]) (.inr ⟨by omega, by omega, .inl ⟨h2, rfl⟩⟩)
  by_cases h3 : I.bad (fo + data.length) last = true
  · exact hbad 10 (by unfold In.put; rw [if_neg h1, if_neg h2, if_pos h3]) (.inr ⟨by omega, by omega, .inr ⟨by omega, h3, rfl⟩⟩)
  have hp : I.put fo data last = (0, { I with m := In.store I.read I.m fo data, top := max I.top (fo + data.length), size := if last then fo + data.length else I.size, known := last || I.known }) := by
    unfold In.put
    rw [if_neg h1, if_neg h2, if_neg h3]
  rw [hp] at hwf ⊢
  refine (RPut_good h fo hd hs hl last (by omega) (by omega) (by simpa using h3)).mono ?_
  rintro e w' ⟨rfl, bm, wx, X, hat, ⟨hch, hm⟩, rfl, hw'⟩
  have hat2 := hat.chg hch (off_child 0 t)
  have hot := hat2.2
  have hne : o k ≠ 0 :: t := by rw [hot]; exact tag_ne t 0
  have hon : wx.heap.size ≤ k ∨ ¬ off [t] (o k) := .inr hat2.on
  have hch2 : Chg [t] w o wx o := hch.up (List.suffix_cons 0 t)
  cases last with
  | false =>
    rw [if_neg (by simp)] at hw'
    subst hw'
    refine ⟨rfl, hch2.setCell _ (.inr hat2.on), InRep.mk' hwf (hat2.set _ _) (hm.far hne _)⟩
  | true =>
    rw [if_pos rfl] at hw'
    subst hw'
    refine ⟨rfl, ((hch2.setCell _ (.inr hat2.on)).setCell _ (.inr hat2.on)).setCell _ (.inr hat2.on), InRep.mk' hwf (((hat2.set _ _).set _ _).set _ _) (((hm.far hne _).far hne _).far hne _)⟩
end Go.Proofs.YthliihmhkhabeaaGreatDoor
