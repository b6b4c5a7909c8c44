/- A stream that is reset: the plain part. No condition. -/
import Derived.Test.YthliihmhkhabeaaGreatDoorIds48
namespace Go.Proofs.YthliihmhkhabeaaGreatDoor
open Go Go.RowKit

/-- So many were sent, the others wait. -/
def sentS (n p : Nat) : List Nat := List.replicate p 1 ++ List.replicate (n - p) 0
theorem sentS_len {n p : Nat} (h : p ≤ n) : (sentS n p).length = n := by simp [sentS]; omega
theorem sentS_get {n p i : Nat} (h : p ≤ n) : (sentS n p)[i]? = if i < p then some 1 else if i < n then some 0 else none := by
  unfold sentS
  by_cases h1 : i < p
  · rw [if_pos h1, List.getElem?_append_left (by simpa using h1), List.getElem?_replicate, if_pos h1]
  · rw [if_neg h1, List.getElem?_append_right (by simp; omega), List.getElem?_replicate, List.length_replicate]
    by_cases h2 : i < n
    · rw [if_pos h2, if_pos (by omega)]
    · rw [if_neg h2, if_neg (by omega)]
theorem sentS_mark {n p q : Nat} (h : p + q ≤ n) : markF (sentS n p) p (p + q) (fun _ => 1) = sentS n (p + q) := by
  apply List.ext_getElem?
  intro i
  rw [sentS_get h]
  simp only [markF, List.getElem?_mapIdx, sentS_get (show p ≤ n by omega)]
  by_cases h1 : i < p
  · rw [if_pos h1, if_pos (by omega)]; simp
  · rw [if_neg h1]
    by_cases h2 : i < n
    · rw [if_pos h2]
      simp only [Option.map_some]
      by_cases h3 : i < p + q
      · rw [if_pos ⟨by omega, h3⟩, if_pos h3]
      · rw [if_neg (by omega), if_neg h3]
    · rw [if_neg h2, if_neg (by omega)]; rfl
theorem no2 {n p : Nat} (k : Nat) : 2 ∉ (sentS n p).take k := by
  intro h
  have := List.mem_of_mem_take h
  unfold sentS at this
  simp only [List.mem_append, List.mem_replicate] at this
  omega
theorem idx0 {n p top : Nat} (h1 : p < top) (h2 : top ≤ n) : 0 ∈ (sentS n p).take top ∧ ((sentS n p).take top).idxOf 0 = p := by
  have hs : (sentS n p).take top = List.replicate p 1 ++ (0 :: List.replicate (top - p - 1) 0) := by
    apply List.ext_getElem?
    intro i
    rw [List.getElem?_take]
    by_cases h : i < top
    · rw [if_pos h, sentS_get (by omega)]
      by_cases h3 : i < p
      · rw [if_pos h3, List.getElem?_append_left (by simpa using h3), List.getElem?_replicate, if_pos h3]
      · rw [if_neg h3, if_pos (by omega), List.getElem?_append_right (by simp; omega), List.length_replicate, ← List.replicate_succ, List.getElem?_replicate, if_pos (by omega)]
    · rw [if_neg h, List.getElem?_append_right (by simp; omega), List.length_replicate, ← List.replicate_succ, List.getElem?_replicate, if_neg (by omega)]
  rw [hs]
  refine ⟨by simp, ?_⟩
  rw [List.idxOf_append, if_neg (by simp)]
  simp
theorem run0 {n p q many : Nat} {b : List Nat} {lim : Nat} (hq : 1 ≤ q) (h2 : p + q ≤ n) (hm : q ≤ many) : (⟨b, sentS n p, false, 0, lim⟩ : Out).run 0 (p + q) many = (p, p + q, true) := by
  obtain ⟨h0, hi⟩ := idx0 (n := n) (p := p) (top := p + q) (by omega) h2
  unfold Out.run Out.runl
  simp only
  rw [if_pos h0, hi]
  have hr : (((sentS n p).take (p + q)).drop p).take many = List.replicate q 0 := by
    apply List.ext_getElem?
    intro i
    rw [List.getElem?_take, List.getElem?_drop, List.getElem?_take, List.getElem?_replicate]
    by_cases h : i < q
    · rw [if_pos (by omega), if_pos (by omega), sentS_get (by omega), if_neg (by omega), if_pos (by omega), if_pos h]
    · rw [if_neg h]
      split
      · rw [if_neg (by omega)]
      · rfl
  rw [hr]
  have htw : ∀ q : Nat, (List.replicate q 0).takeWhile (· == 0) = List.replicate q 0 := by
    intro q
    induction q with
    | zero => rfl
    | succ q ih => rw [List.replicate_succ, List.takeWhile_cons_of_pos (by rfl), ih]
  rw [htw, List.length_replicate]

def rsSt (text : List Nat) (p : Nat) (rst : Bool) (code : Nat) (tell : List (Nat × Bool)) : St :=
  { out := some ⟨text, sentS text.length p, false, 0, p⟩, inn := some (In.new 300), max := 300, given := p, reset := rst, over := false, code := code, in2 := 0, stop := 0, finished := false, done := false, tell := tell, stopped := false, taken := 0 }
def rsA (text : List Nat) (p : Nat) (rst : Bool) (code : Nat) (tell : List (Nat × Bool)) : Tb := { al2 with m := [(0, rsSt text p rst code tell)] }
theorem rsA_get (text : List Nat) (p : Nat) (rst : Bool) (code : Nat) (tell : List (Nat × Bool)) : mget (rsA text p rst code tell).m 0 = some (rsSt text p rst code tell) := rfl
theorem rsWrite (text : List Nat) (h : text.length ≤ 200) : (al2.write 0 text) = ((text.length, 0), rsA text 0 false 0 []) := by
  have h1 : min text.length 2000 = text.length := by omega
  have h2 : al2.m = [(0, { out := some ⟨[], [], false, 0, 0⟩, inn := some (In.new 300), max := 300, given := 0, reset := false, over := false, code := 0, in2 := 0, stop := 0, finished := false, done := false, tell := [], stopped := false, taken := 0 })] := rfl
  unfold Tb.write
  rw [h2]
  simp only [mget, if_true, Out.write, Bool.false_eq_true, if_false, List.length_nil, Nat.sub_zero, List.nil_append, h1, List.take_length]
  simp only [Tb.set, h2, mset, if_true]
  unfold rsA rsSt sentS
  simp
theorem lift_yes {T : Tb} {s : St} {O : Out} {many g : Nat} (h1 : s.given < s.want O) (h2 : T.sumG < T.data) (hg : T.grant s O many = g) (hr : O.limit < s.given + g) : T.lift s O many = ({ s with given := s.given + g }, { O with limit := s.given + g }) := by
  unfold Tb.lift Tb.grantC
  rw [decide_eq_true h1, decide_eq_true h2, hg]
  simp only [Bool.and_self, if_true, Out.raise, if_neg (show ¬ s.given + g ≤ O.limit by omega)]
theorem lift_no {T : Tb} {s : St} {O : Out} {many : Nat} (h1 : ¬ s.given < s.want O) : T.lift s O many = (s, O) := by
  unfold Tb.lift Tb.grantC
  rw [decide_eq_false h1]
  simp
theorem next_some {n p q many : Nat} {b : List Nat} (_hn : b.length = n) (hq : 1 ≤ q) (h2 : p + q ≤ n) (hm : q ≤ many) :
    (⟨b, sentS n p, false, 0, p + q⟩ : Out).next many = (⟨b, sentS n (p + q), false, 0, p + q⟩, p, (b.take (p + q)).drop p, false, true) := by
  have hl : (sentS n p).length = n := sentS_len (by omega)
  have hop : (⟨b, sentS n p, false, 0, p + q⟩ : Out).open_ = p + q := by unfold Out.open_; simp only [hl]; omega
  have hr2 : (⟨b, sentS n p, false, 0, p + q⟩ : Out).run 2 n many = (0, 0, false) := by unfold Out.run; simp only; rw [if_neg (no2 _)]
  have hpk : (⟨b, sentS n p, false, 0, p + q⟩ : Out).pick many = (p, p + q, true) := by
    unfold Out.pick
    simp only [hl, hr2, hop, run0 hq h2 hm, Bool.false_eq_true, if_false]
  have hd : (⟨b, sentS n p, false, 0, p + q⟩ : Out).due many = (p, p + q, false, true) := by
    unfold Out.due
    rw [hpk]
    simp [Out.opens]
  unfold Out.next
  rw [hd]
  simp only [sentS_mark h2, Bool.false_eq_true, if_false]
theorem next_none {n many : Nat} {b : List Nat} (_hn : b.length = n) : (⟨b, sentS n n, false, 0, n⟩ : Out).next many = (⟨b, sentS n n, false, 0, n⟩, 0, [], false, false) := by
  have hl : (sentS n n).length = n := sentS_len (Nat.le_refl n)
  have hop : (⟨b, sentS n n, false, 0, n⟩ : Out).open_ = n := by unfold Out.open_; simp only [hl]; omega
  have hr2 : (⟨b, sentS n n, false, 0, n⟩ : Out).run 2 n many = (0, 0, false) := by unfold Out.run; simp only; rw [if_neg (no2 _)]
  have hr0 : (⟨b, sentS n n, false, 0, n⟩ : Out).run 0 n many = (0, 0, false) := by
    unfold Out.run
    simp only
    rw [if_neg]
    intro h
    have := List.mem_of_mem_take h
    simp [sentS] at this
  have hd : (⟨b, sentS n n, false, 0, n⟩ : Out).due many = (0, 0, false, false) := by
    unfold Out.due Out.pick
    simp only [hl, hr2, hop, hr0, Bool.false_eq_true, if_false, Out.opens, Bool.false_and]
  unfold Out.next
  rw [hd]
  have hm : markF (sentS n n) 0 0 (fun _ => 1) = sentS n n := markF_none _ _ _ _ (Nat.le_refl 0)
  simp [hm]

theorem rsNext {text : List Nat} {p many : Nat} (h : text.length ≤ 200) (hp : p < text.length) (hm : 1 ≤ many) (hm2 : many ≤ 200) :
    (rsA text p false 0 []).nextF 0 (rsSt text p false 0 []) ⟨text, sentS text.length p, false, 0, p⟩ many =
      ((frStream 0 p ((text.take (p + Min.min (text.length - p) many)).drop p) false, true), rsA text (p + Min.min (text.length - p) many) false 0 []) := by
  obtain ⟨q, hq⟩ : ∃ q, q = Min.min (text.length - p) many := ⟨_, rfl⟩
  rw [← hq]
  have hsum : (rsA text p false 0 []).sumG = p := by
    show (((rsSt text p false 0 []).given + 0) % 18446744073709551616) = p
    show (p + 0) % 18446744073709551616 = p
    omega
  have hw : (rsSt text p false 0 []).want ⟨text, sentS text.length p, false, 0, p⟩ = text.length := by show Min.min 300 text.length = _; omega
  have hlift := lift_yes (T := rsA text p false 0 []) (s := rsSt text p false 0 []) (O := ⟨text, sentS text.length p, false, 0, p⟩) (many := many) (g := q) (by rw [hw]; exact hp) (by rw [hsum]; show p < 600; omega)
    (by unfold Tb.grant; rw [hw, hsum]; show Min.min (Min.min (text.length - p) many) (600 - p) = q; omega) (by show p < p + q; omega)
  unfold Tb.nextF
  rw [hlift]
  simp only
  have hn := next_some (n := text.length) (p := p) (q := q) (many := many) (b := text) rfl (by omega) (by omega) (by omega)
  show (_ : (Fr × Bool) × Tb) = _
  rw [show (rsSt text p false 0 []).given + q = p + q from rfl, hn]
  rfl
theorem rsEnd {text : List Nat} {many : Nat} (h : text.length ≤ 200) :
    ((rsA text text.length false 0 []).nextF 0 (rsSt text text.length false 0 []) ⟨text, sentS text.length text.length, false, 0, text.length⟩ many).1.2 = false ∧
    ((rsA text text.length false 0 []).nextF 0 (rsSt text text.length false 0 []) ⟨text, sentS text.length text.length, false, 0, text.length⟩ many).2 = rsA text text.length false 0 [] := by
  have hw : (rsSt text text.length false 0 []).want ⟨text, sentS text.length text.length, false, 0, text.length⟩ = text.length := by show Min.min 300 text.length = _; omega
  have hlift := lift_no (T := rsA text text.length false 0 []) (s := rsSt text text.length false 0 []) (O := ⟨text, sentS text.length text.length, false, 0, text.length⟩) (many := many) (by rw [hw]; exact Nat.lt_irrefl _)
  unfold Tb.nextF
  rw [hlift]
  simp only
  rw [next_none (n := text.length) (b := text) rfl]
  exact ⟨rfl, rfl⟩

/-- Frames of a stream, one behind the other. -/
inductive Chain (text : List Nat) : Nat → Nat → List Fr → Prop
  | nil (p : Nat) : Chain text p p []
  | cons {p q p' : Nat} {L : List Fr} (hq : 1 ≤ q) (h : p + q ≤ text.length) (hc : Chain text (p + q) p' L) : Chain text p p' (frStream 0 p ((text.take (p + q)).drop p) false :: L)
theorem rsPump {text : List Nat} (h : text.length ≤ 200) : ∀ (fuel p room : Nat) (L0 : List Fr), p ≤ text.length → room < fuel →
    ∃ p' room' L b, p' ≤ text.length ∧ Chain text p p' L ∧ FS.pump 0 fuel ⟨rsA text p false 0 [], room, L0⟩ = (⟨rsA text p' false 0 [], room', L0 ++ L⟩, b)
  | 0, _, _, _, _, hf => absurd hf (Nat.not_lt_zero _)
  | fuel + 1, p, room, L0, hp, hf => by
    by_cases h21 : room < 21
    · exact ⟨p, room, [], false, hp, .nil p, by rw [pump_full (rsA_get text p false 0 []) rfl rfl h21, List.append_nil]⟩
    · by_cases hn : p = text.length
      · subst hn
        obtain ⟨e1, e2⟩ := rsEnd (text := text) (many := Min.min (room - 20) 200) h
        refine ⟨text.length, room, [], true, Nat.le_refl _, .nil _, ?_⟩
        have hpe := pump_end (n := fuel) (S := ⟨rsA text text.length false 0 [], room, L0⟩) (rsA_get text text.length false 0 []) (O := ⟨text, sentS text.length text.length, false, 0, text.length⟩) rfl rfl h21 (many := Min.min (room - 20) 200) rfl e1
        rw [hpe, List.append_nil]
        have e3 : (⟨rsA text text.length false 0 [], room, L0⟩ : FS).T = rsA text text.length false 0 [] := rfl
        rw [e3, e2]
      · have hnx := rsNext (text := text) (p := p) (many := Min.min (room - 20) 200) h (by omega) (by omega) (by omega)
        obtain ⟨q, hq⟩ : ∃ q, q = Min.min (text.length - p) (Min.min (room - 20) 200) := ⟨_, rfl⟩
        rw [← hq] at hnx
        have hlen : frLen (frStream 0 p ((text.take (p + q)).drop p) false) ≤ 19 + q := by
          show slen 0 p ((text.take (p + q)).drop p).length ≤ 19 + q
          have e : ((text.take (p + q)).drop p).length = q := by simp; omega
          rw [e]
          have e1 := vsize_le 0
          have e2 := alen_le p
          have e3 : vsize q ≤ 2 := by unfold vsize; split; omega; split; omega; omega
          unfold slen
          omega
        have hpos : 1 ≤ frLen (frStream 0 p ((text.take (p + q)).drop p) false) := by show 1 ≤ slen _ _ _; unfold slen; omega
        obtain ⟨p', room', L, b, h1, h2, h3⟩ := rsPump h fuel (p + q) (room - frLen (frStream 0 p ((text.take (p + q)).drop p) false)) (L0 ++ [frStream 0 p ((text.take (p + q)).drop p) false]) (by omega) (by omega)
        refine ⟨p', room', frStream 0 p ((text.take (p + q)).drop p) false :: L, b, h1, .cons (by omega) (by omega) h2, ?_⟩
        have hst := pump_step (n := fuel) (S := ⟨rsA text p false 0 [], room, L0⟩) (rsA_get text p false 0 []) (O := ⟨text, sentS text.length p, false, 0, p⟩) rfl rfl h21 (many := Min.min (room - 20) 200) rfl (by show ((rsA text p false 0 []).nextF 0 _ _ _).1.2 = true; rw [hnx]) (by show ¬ room < frLen ((rsA text p false 0 []).nextF 0 _ _ _).1.1; rw [hnx]; simp only; omega)
        rw [hst]
        simp only [hnx]
        rw [h3, List.append_assoc]
        rfl
theorem rsIds (text : List Nat) (p : Nat) (rst : Bool) (code : Nat) (tell : List (Nat × Bool)) : (rsA text p rst code tell).ids = [0] := sortN_of (by simp) (List.Perm.refl _)
theorem rsFrames {text : List Nat} (h : text.length ≤ 200) (room : Nat) : ∃ p, p ≤ text.length ∧ Chain text 0 p ((rsA text 0 false 0 []).frames room).L ∧ ((rsA text 0 false 0 []).frames room).T = rsA text p false 0 [] := by
  obtain ⟨p, room', L, b, h1, h2, h3⟩ := rsPump h (room + 1) 0 room [] (Nat.zero_le _) (Nat.lt_succ_self _)
  have h4 : FS.phase3 [0] (⟨rsA text 0 false 0 [], room, []⟩ : FS).quiet = (⟨rsA text p false 0 [], room', [] ++ L⟩, b) := by
    show (if (FS.pump 0 (room + 1) ⟨rsA text 0 false 0 [], room, []⟩).2 then ((FS.pump 0 (room + 1) ⟨rsA text 0 false 0 [], room, []⟩).1, true) else ((FS.pump 0 (room + 1) ⟨rsA text 0 false 0 [], room, []⟩).1, false)) = _
    rw [h3]
    cases b <;> rfl
  have h5 := frames_eval (T := rsA text 0 false 0 []) (room := room) (rsIds text 0 false 0 []) (S1 := ⟨rsA text 0 false 0 [], room, []⟩) (S2 := ⟨rsA text 0 false 0 [], room, []⟩) rfl rfl (I2 := [0]) (rsIds text 0 false 0 []) h4
  exact ⟨p, h1, by rw [h5]; exact h2, by rw [h5]⟩

/-- The other one. -/
def rbB0 : Tb := bl0.peer ownP
def rbSt (p : Nat) (m : List (Nat × Nat)) : St := { out := some ⟨[], [], false, 0, 0⟩, inn := some ⟨300, 0, p, 0, false, m⟩, max := 300, given := 0, reset := false, over := false, code := 0, in2 := 0, stop := 0, finished := false, done := false, tell := [], stopped := false, taken := 0 }
def rbB (p : Nat) (m : List (Nat × Nat)) : Tb := { rbB0 with m := [(0, rbSt p m)] }
def BS (p : Nat) (B : Tb) : Prop := (p = 0 ∧ B = rbB0) ∨ (1 ≤ p ∧ ∃ m, B = rbB p m)
theorem put_more {p q : Nat} {m : List (Nat × Nat)} {d : List Nat} (hd : d.length = q) (h : p + q ≤ 200) : (⟨300, 0, p, 0, false, m⟩ : In).put p d false = (0, ⟨300, 0, p + q, 0, false, In.store 0 m p d⟩) := by
  unfold In.put In.bad
  rw [hd, if_neg (by omega), if_neg (by simp only; omega)]
  simp
theorem put_end {p : Nat} {m : List (Nat × Nat)} (h : p ≤ 200) : (⟨300, 0, p, 0, false, m⟩ : In).put p [] true = (0, ⟨300, 0, p, p, true, m⟩) := by
  unfold In.put In.bad
  rw [List.length_nil, if_neg (by omega), if_neg (by simp only; omega)]
  simp [In.store]
theorem rises_y {B : Tb} {was en : Nat} (h : B.sumF St.topOf = was) (h2 : B.read + B.own.data = 600) (hw : was ≤ 200) (he : en ≤ 200) : B.risesN was en = true := by
  unfold Tb.risesN
  rw [h, h2]
  by_cases hle : en ≤ was
  · rw [decide_eq_true hle]; rfl
  · rw [decide_eq_false hle, Bool.false_or, decide_eq_true_eq]; omega
theorem rsTake {p q : Nat} {B : Tb} {d : List Nat} (hB : BS p B) (hq : 1 ≤ q) (hd : d.length = q) (h : p + q ≤ 200) : (B.take (frStream 0 p d false)).1 = 0 ∧ BS (p + q) (B.take (frStream 0 p d false)).2 := by
  rcases hB with ⟨rfl, rfl⟩ | ⟨hp, m, rfl⟩
  · have hr : rbB0.rises 0 (0 + d.length) = true   := rises_y (was := 0) rfl rfl (by omega) (by omega)
    have hc : rbB0.come 0 0 d false = ((true, 0), rbB q (In.store 0 [] 0 d)) := by
      unfold Tb.come
      rw [if_neg (by decide), if_neg (by decide), if_neg (by omega), if_neg (by rw [hr]; simp)]
      have hput : (In.new rbB0.own.stream).put 0 d false = (0, ⟨300, 0, 0 + q, 0, false, In.store 0 [] 0 d⟩) := put_more (m := []) hd (by omega)
      have hg : mget rbB0.m 0 = none := rfl
      rw [hg]
      simp only [hput, if_true, Nat.zero_add]
      rfl
    have ht : rbB0.take (frStream 0 0 d false) = (0, rbB q (In.store 0 [] 0 d)) := by
      show rbB0.takeStream (frStream 0 0 d false) = _
      unfold Tb.takeStream
      show (((rbB0.come 0 0 d false).1.2, (rbB0.come 0 0 d false).2) : Nat × Tb) = _
      rw [hc]
    rw [ht, Nat.zero_add]
    exact ⟨rfl, .inr ⟨hq, _, rfl⟩⟩
  · have hr : (rbB p m).rises 0 (p + d.length) = true   := rises_y (was := p) (by show p + 0 = p; rfl) rfl (by omega) (by omega)
    have hc : (rbB p m).come 0 p d false = ((true, 0), rbB (p + q) (In.store 0 m p d)) := by
      unfold Tb.come
      rw [if_neg (show ¬ (rbB p m).findErr 0 false ≠ 0 by simp [Tb.findErr, rbB, mget]), if_neg (show ¬ overAt (rbB p m) 0 = true by simp [overAt, rbB, mget, rbSt]), if_neg (by omega), if_neg (by rw [hr]; simp)]
      have hg : mget (rbB p m).m 0 = some (rbSt p m) := rfl
      rw [hg]
      have hi : (rbSt p m).inn = some ⟨300, 0, p, 0, false, m⟩ := rfl
      simp only [hi, put_more hd h, if_true]
      rfl
    have ht : (rbB p m).take (frStream 0 p d false) = (0, rbB (p + q) (In.store 0 m p d)) := by
      show (((rbB p m).come 0 p d false).1.2, ((rbB p m).come 0 p d false).2) = _
      rw [hc]
    rw [ht]
    exact ⟨rfl, .inr ⟨by omega, _, rfl⟩⟩
def rbE (p code : Nat) (m : List (Nat × Nat)) : Tb := { rbB0 with m := [(0, { rbSt p m with inn := some ⟨300, 0, p, p, true, m⟩, over := true, in2 := code, taken := p })], read := p, tell := true }
theorem takeReset_of {T T' : Tb} {f : Fr} {s : St} {p : Nat} (h : T.come f.id f.a [] true = ((true, 0), T')) (hg : mget T'.m f.id = some s) (h0 : T'.read = 0) (h1 : topO s.inn = p) (h2 : s.taken = 0) (hp : p ≤ 200) :
    T.takeReset f = (0, { (T'.set f.id (s.resetIn f.code)) with read := p, tell := true }) := by
  have hm : (0 + (p + 18446744073709551616 - 0) % 18446744073709551616) % 18446744073709551616 = p := by omega
  unfold Tb.takeReset
  rw [h]
  simp only [if_true, hg]
  rw [h0, h1, h2, hm]
theorem rsTakeR {p code : Nat} {B : Tb} (hB : BS p B) (h : p ≤ 200) : ∃ m, B.take (frReset 0 code p) = (0, rbE p code m) := by
  rcases hB with ⟨rfl, rfl⟩ | ⟨hp, m, rfl⟩
  · refine ⟨[], ?_⟩
    have hc : rbB0.come 0 0 [] true = ((true, 0), { rbB0 with m := [(0, { rbSt 0 [] with inn := some ⟨300, 0, 0, 0, true, []⟩ })] }) := rfl
    have hc' : rbB0.come (frReset 0 code 0).id (frReset 0 code 0).a [] true = _ := hc
    show rbB0.takeReset (frReset 0 code 0) = _
    unfold Tb.takeReset
    rw [hc']
    rfl
  · refine ⟨m, ?_⟩
    have hr : (rbB p m).rises 0 (p + ([] : List Nat).length) = true   := rises_y (was := p) (by show p + 0 = p; rfl) rfl (by omega) (by simp; omega)
    have hc : (rbB p m).come 0 p [] true = ((true, 0), (rbB p m).set 0 { rbSt p m with inn := some ⟨300, 0, p, p, true, m⟩ }) := by
      unfold Tb.come
      rw [if_neg (show ¬ (rbB p m).findErr 0 false ≠ 0 by simp [Tb.findErr, rbB, mget]), if_neg (show ¬ overAt (rbB p m) 0 = true by simp [overAt, rbB, mget, rbSt]), if_neg (by simp; omega), if_neg (by rw [hr]; simp)]
      have hg : mget (rbB p m).m 0 = some (rbSt p m) := rfl
      rw [hg]
      have hi : (rbSt p m).inn = some ⟨300, 0, p, 0, false, m⟩ := rfl
      simp only [hi, put_end h, if_true]
    have hc' : (rbB p m).come (frReset 0 code p).id (frReset 0 code p).a [] true = ((true, 0), (rbB p m).set 0 { rbSt p m with inn := some ⟨300, 0, p, p, true, m⟩ }) := hc
    have hg2 : mget ((rbB p m).set 0 { rbSt p m with inn := some ⟨300, 0, p, p, true, m⟩ }).m (frReset 0 code p).id = some { rbSt p m with inn := some ⟨300, 0, p, p, true, m⟩ } := rfl
    show (rbB p m).takeReset (frReset 0 code p) = _
    rw [takeReset_of hc' hg2 rfl rfl rfl h]
    rfl
theorem rbE_code (p code : Nat) (m : List (Nat × Nat)) : (rbE p code m).codeOf 0 = (code, true) := rfl
theorem rbE_read (p code : Nat) (m : List (Nat × Nat)) (n : Int) : (rbE p code m).readS 0 n = (([], false, 8), rbE p code m) := rfl
theorem rbE_held (p code : Nat) (m : List (Nat × Nat)) : (rbE p code m).held = 0 := by
  have h : (rbE p code m).ids = [0] := sortN_of (by simp) (List.Perm.refl _)
  unfold Tb.held
  rw [h]
  rfl

theorem rsReset {text : List Nat} {p code : Nat} (hc : code ≤ 4611686018427387903) : (rsA text p false 0 []).reset 0 code = (0, rsA text p true code [(4, true)]) := by
  have e : min code maxInt = code := by unfold maxInt; omega
  show (0, (rsA text p false 0 []).set 0 ((rsSt text p false 0 []).resetBy code)) = _
  unfold St.resetBy
  rw [e]
  rfl
theorem rsSent {n p : Nat} {b : List Nat} {lim : Nat} (h : p ≤ n) : (⟨b, sentS n p, false, 0, lim⟩ : Out).sent = p := by
  unfold Out.sent
  simp only
  by_cases hp : p = n
  · subst hp
    rw [if_neg (by simp [sentS]), sentS_len (Nat.le_refl _)]
  · obtain ⟨h1, h2⟩ := idx0 (n := n) (p := p) (top := n) (by omega) (Nat.le_refl _)
    rw [List.take_of_length_le (by rw [sentS_len h]; omega)] at h1 h2
    rw [if_pos h1, h2]
theorem rsFrames2 {text : List Nat} {p code : Nat} (hp : p ≤ text.length) (_h : text.length ≤ 200) : ∃ room, (rsA text p true code [(4, true)]).frames 500 = ⟨rsA text p true code [(4, false)], room, [frReset 0 code p]⟩ := by
  have hd : (rsSt text p true code [(4, true)]).due 0 = [frReset 0 code p] := by
    show [frReset 0 code (sentO (some ⟨text, sentS text.length p, false, 0, p⟩))] ++ [] ++ [] = _
    rw [List.append_nil, List.append_nil]
    show [frReset 0 code (Out.sent ⟨text, sentS text.length p, false, 0, p⟩)] = _
    rw [rsSent hp]
  have hl : ¬ 500 < frLen (frReset 0 code p) := by
    have := isum_le [0, code, p]
    show ¬ 500 < 1 + isum [0, code, p]
    simp at this
    omega
  refine ⟨500 - frLen (frReset 0 code p), frames_eval (rsIds text p true code [(4, true)]) (S1 := ⟨rsA text p true code [(4, false)], 500 - frLen (frReset 0 code p), [frReset 0 code p]⟩) (S2 := ⟨rsA text p true code [(4, false)], 500 - frLen (frReset 0 code p), [frReset 0 code p]⟩) ?_ rfl (I2 := [0]) (rsIds text p true code [(4, false)]) (b := true) rfl⟩
  show (if (FS.dues 0 ((rsSt text p true code [(4, true)]).due 0) ⟨rsA text p true code [(4, true)], 500, []⟩).2 then ((FS.dues 0 ((rsSt text p true code [(4, true)]).due 0) ⟨rsA text p true code [(4, true)], 500, []⟩).1, true) else _) = _
  rw [hd]
  have hdu : FS.dues 0 [frReset 0 code p] ⟨rsA text p true code [(4, true)], 500, []⟩ = (⟨rsA text p true code [(4, false)], 500 - frLen (frReset 0 code p), [frReset 0 code p]⟩, true) := by
    simp only [FS.dues, FS.fit, if_neg hl]
    rfl
  rw [hdu]
  rfl
theorem rsFrames3 {text : List Nat} {p code : Nat} : ((rsA text p true code [(4, false)]).frames 500).L = [] := by
  have := frames_eval (T := rsA text p true code [(4, false)]) (room := 500) (rsIds text p true code [(4, false)]) (S1 := ⟨rsA text p true code [(4, false)], 500, []⟩) (S2 := ⟨rsA text p true code [(4, false)], 500, []⟩) rfl rfl (I2 := [0]) (rsIds text p true code [(4, false)]) (b := true) (R := ⟨rsA text p true code [(4, false)], 500, []⟩) rfl
  rw [this]
theorem rsWrite2 {text : List Nat} {p code : Nat} {tell : List (Nat × Bool)} (d : List Nat) : (rsA text p true code tell).write 0 d = ((0, 8), rsA text p true code tell) := rfl
theorem rsNice {text : List Nat} {p code : Nat} {rst : Bool} {tell : List (Nat × Bool)} (hc : code ≤ 4611686018427387903) : (rsA text p rst code tell).Nice := by
  refine ⟨fun q hq => ?_, fun q hq => ?_, by show 0 + 600 ≤ _; omega⟩
  · simp only [rsA, List.mem_singleton] at hq; subst hq; exact Nat.zero_le _
  · simp only [rsA, List.mem_singleton] at hq; subst hq; exact ⟨hc, Nat.zero_le _, by show 0 + 300 ≤ _; omega⟩
end Go.Proofs.YthliihmhkhabeaaGreatDoor
/- A stream that is reset: the walk. No condition but what stands in the library's table. -/
namespace Go.Proofs.YthliihmhkhabeaaGreatDoor
open Go Go.RowKit

theorem Chain.len {text : List Nat} {p p' : Nat} {L : List Fr} (h : Chain text p p' L) : p + L.length ≤ p' := by
  induction h with
  | nil => simp
  | cons hq _ _ ih => simp only [List.length_cons]; omega
theorem Chain.inv {text : List Nat} {p p' : Nat} {L : List Fr} (h : Chain text p p' L) : (L = [] ∧ p = p') ∨ ∃ q L', L = frStream 0 p ((text.take (p + q)).drop p) false :: L' ∧ 1 ≤ q ∧ p + q ≤ text.length ∧ Chain text (p + q) p' L' := by
  cases h with
  | nil => exact .inl ⟨rfl, rfl⟩
  | cons hq h2 hc => exact .inr ⟨_, _, rfl, hq, h2, hc⟩

def tE (kb : Nat) (B : Tb) (v : Value) (text : List Nat) : World → Own → Prop := fun w o => TbRep w o tagB kb B ∧ Sl w o [] v (text.map bv)
def uE (ka : Nat) (A : Tb) (v : Value) (text : List Nat) : World → Own → Prop := fun w o => TbRep w o tagA ka A ∧ Sl w o [] v (text.map bv)
def lE (ka : Nat) (A : Tb) (v : Value) (text : List Nat) (fv : Value) (L : List (Fr × Value)) : World → Own → Prop := fun w o => TbRep w o tagA ka A ∧ Sl w o [] v (text.map bv) ∧ FRow w o (2 :: gtag tagA) [] fv L
theorem tE_ok (kb : Nat) (B : Tb) (v : Value) (text : List Nat) : Stays tagA (tE kb B v text) := (Stays.tb tagA_ne tagB_ne (by decide) kb B).and (Stays.sl tagA_ne v _)
theorem uE_ok (ka : Nat) (A : Tb) (v : Value) (text : List Nat) : Stays tagB (uE ka A v text) := (Stays.tb tagB_ne tagA_ne (by decide) ka A).and (Stays.sl tagB_ne v _)
theorem lE_ok (ka : Nat) (A : Tb) (v : Value) (text : List Nat) (fv : Value) (L : List (Fr × Value)) : Stays tagB (lE ka A v text fv L) := (Stays.tb tagB_ne tagA_ne (by decide) ka A).and ((Stays.sl tagB_ne v _).and (Stays.frow tagB_ne (by simp) (by decide) _ _))

section
variable {w X : World} {ka kb : Nat} {v : Value} {text : List Nat} {A B : Tb}
theorem tu (h : Sys w tagA ka A (tE kb B v text) X) : Sys w tagB kb B (uE ka A v text) X := by
  obtain ⟨ox, h1, h2, h3, h4, h5⟩ := h
  exact ⟨ox, h4, h2, h3, h1, h5⟩
theorem ut (h : Sys w tagB kb B (uE ka A v text) X) : Sys w tagA ka A (tE kb B v text) X := by
  obtain ⟨ox, h1, h2, h3, h4, h5⟩ := h
  exact ⟨ox, h4, h2, h3, h1, h5⟩
theorem lt_ {fv : Value} {L : List (Fr × Value)} (h : Sys w tagB kb B (lE ka A v text fv L) X) : Sys w tagA ka A (tE kb B v text) X := by
  obtain ⟨ox, h1, h2, h3, h4, h5, _⟩ := h
  exact ⟨ox, h4, h2, h3, h1, h5⟩
theorem ownSys {t : Tag} {k : Nat} {T : Tb} {E : World → Own → Prop} (ht : t ∈ roots) (hE : Stays t E) (h : Sys w t k T E X) : Calls Tryz.prog 9 #[] X fun e w' => e = .returned (.agg ownP.cells) ∧ Sys w t k T E w' := by
  obtain ⟨ox, h1, h2, h3, h4⟩ := h
  refine (Own_ok X ox).mono ?_
  rintro e w' ⟨rfl, oy, hc⟩
  exact ⟨rfl, Sys.turn ht h2 h3 h4 hE (h1.chg hc fun _ _ => off_nil _) hc.of_nil⟩
theorem rsStart (hg : GTab w (fun _ => [])) (hv : Sl w (fun _ => []) [] v (text.map bv)) {w1 w2 w3 w4 : World} {o1 o2 o3 o4 : Own} (h0 : Below w.heap.size w X) (h1 : Chg [] X (fun _ => []) w1 o1) (h2 : Chg [] w1 o1 w2 o2) (hA : TbRep w2 o2 tagA ka A) (h3 : Chg [] w2 o2 w3 o3) (h4 : Chg [] w3 o3 w4 o4) (hB : TbRep w4 o4 tagB kb B) :
    Sys w tagA ka A (tE kb B v text) w4 := by
  have hc := ((((Chg.of_below (fun _ => []) h0).trans h1).trans h2).trans h3).trans h4
  exact ⟨o4, (hA.chg h3 fun _ _ => off_nil _).chg h4 fun _ _ => off_nil _, hg.chg hc (off_nil _), hc.of_nil, hB, hv.chg hc (off_nil _)⟩
theorem rs6 (h : Sys w tagA ka al0 (tE kb bl0 v text) X) : Calls Tryz.prog 10 #[.pointer (some ⟨ka, 0, none⟩), .agg ownP.cells] X fun e w' => e = .returned (.tuple #[]) ∧ Sys w tagB kb bl0 (uE ka al1 v text) w' :=
  (h.peer memA (tE_ok _ _ _ _) ownP ownP_wf).mono fun _ _ ⟨h1, h2⟩ => ⟨h1, tu h2⟩
theorem rs7 (h : Sys w tagB kb bl0 (uE ka al1 v text) X) : Calls Tryz.prog 10 #[.pointer (some ⟨kb, 0, none⟩), .agg ownP.cells] X fun e w' => e = .returned (.tuple #[]) ∧ Sys w tagA ka al1 (tE kb rbB0 v text) w' :=
  (h.peer memB (uE_ok _ _ _ _) ownP ownP_wf).mono fun _ _ ⟨h1, h2⟩ => ⟨h1, ut h2⟩
theorem rs8 (h : Sys w tagA ka al1 (tE kb rbB0 v text) X) : Calls Tryz.prog 11 #[.pointer (some ⟨ka, 0, none⟩), .bool false] X fun e w' => e = .returned (.tuple #[.int .u64 0, .int .i64 0]) ∧ Sys w tagA ka al2 (tE kb rbB0 v text) w' := h.open_ memA (tE_ok _ _ _ _) false
theorem rs9 (h : Sys w tagA ka al2 (tE kb rbB0 v text) X) (hl : text.length ≤ 200) (h8 : ∀ x ∈ text, x < 256) : Calls Tryz.prog 14 #[.pointer (some ⟨ka, 0, none⟩), .int .u64 0, v] X fun e w' => e = .returned (.tuple #[.int .i64 text.length, .int .i64 0]) ∧ Sys w tagA ka (rsA text 0 false 0 []) (tE kb rbB0 v text) w' := by
  have H := h.write memA (tE_ok _ _ _ _) 0 (fun ox hE => ⟨[], hE.2⟩) h8
  rw [rsWrite text hl] at H
  exact H
theorem rs10 (h : Sys w tagA ka (rsA text 0 false 0 []) (tE kb rbB0 v text) X) (hl : text.length ≤ 200) {nn : Nat} (hn : nn < 256) : Calls Tryz.prog 15 #[.pointer (some ⟨ka, 0, none⟩), .int .i64 (30 + (nn : Int))] X fun e w' =>
    ∃ Ad c L p, e = .returned (.slice Ad (L : List (Fr × Value)).length c) ∧ L.length ≤ 200 ∧ RowKit.Hid (p ≤ text.length ∧ Chain text 0 p (L.map (·.1)) ∧ BS 0 rbB0 ∧ Sys w tagB kb rbB0 (lE ka (rsA text p false 0 []) v text (.slice Ad L.length c) L) w') := by
  have H := h.frames memA (tE_ok _ _ _ _) (rsNice (by decide)) (by show 1 ≤ _; omega) (30 + nn) (by omega)
  obtain ⟨p, hp, hc, hT⟩ := rsFrames hl (30 + nn)
  rw [show ((30 + nn : Nat) : Int) = 30 + (nn : Int) by omega] at H
  refine H.mono ?_
  rintro e w' ⟨Ad, c, L, rfl, hL, ox, h1, h2, h3, ⟨h4, h4'⟩, h5⟩
  have e1 : ((rsA text 0 false 0 []).frames (30 + nn)).L.length = L.length := by rw [← hL, List.length_map]
  rw [e1] at h5 ⊢
  rw [hT] at h1
  rw [← hL] at hc
  have := hc.len
  rw [List.length_map] at this
  exact ⟨Ad, c, L, p, rfl, by omega, hp, hc, .inl ⟨rfl, rfl⟩, ox, h4, h2, h3, h1, h4', h5⟩
theorem rsForm {Ad : Option Addr} {c : Nat} {L : List (Fr × Value)} (h : Sys w tagB kb B (lE ka A v text (.slice Ad L.length c) L) X) (hL : 0 < L.length) : ∃ g, Ad = some ⟨g, 0, none⟩ := by
  obtain ⟨ox, h1, h2, h3, h4, h5, h6⟩ := h
  rcases h6.form with ⟨_, h0⟩ | ⟨g, cap, cur, he, _⟩
  · subst h0; cases hL
  · injection he with e1 e2 e3
    exact ⟨g, e1⟩
theorem rsRange {g n c j : Nat} {L : List (Fr × Value)} {f : Fr} {dv : Value} (h : Sys w tagB kb B (lE ka A v text (.slice (some ⟨g, 0, none⟩) n c) L) X) (hj : L[j]? = some (f, dv)) : X.rangeAt g (j * 24) (f.cells dv nilS).toList := by
  obtain ⟨ox, h1, h2, h3, h4, h5, h6⟩ := h
  intro i z hz
  have hi : i < 24 := by
    have := (List.getElem?_eq_some_iff.1 hz).1
    simp [Fr.cells] at this
    exact this
  have := h6.cell (j := j) (p := (f, dv)) hj hi
  rw [this, ← Array.getElem?_toList]
  exact hz
theorem rs14 {p q j : Nat} {d : List Nat} {fv dv : Value} {L : List (Fr × Value)} (h : Sys w tagB kb B (lE ka A v text fv L) X) (hB : BS p B) (hq : 1 ≤ q) (hd : d.length = q) (hp : p + q ≤ 200) (hj : L[j]? = some (frStream 0 p d false, dv)) (h8 : ∀ x ∈ d, x < 256) :
    Calls Tryz.prog 17 #[.pointer (some ⟨kb, 0, none⟩), .agg ((frStream 0 p d false).cells dv nilS)] X fun e w' => e = .returned (.int .i64 0) ∧ ∃ B', BS (p + q) B' ∧ Sys w tagB kb B' (lE ka A v text fv L) w' := by
  obtain ⟨t1, t2⟩ := rsTake hB hq hd hp
  have H := h.take memB (lE_ok _ _ _ _ _ _) (frStream 0 p d false) ⟨by show 0 < _; omega, by show p < _; omega, by show 0 < _; omega, by show 0 < _; omega, h8, fun _ => by show 0 < 256; omega⟩ (fun ox hE => hE.2.2.2.2 _ (List.mem_of_getElem? hj)) (by show d.length ≤ _; omega)
  rw [t1] at H
  exact H.mono fun e w' ⟨h1, h2⟩ => ⟨h1, _, t2, h2⟩
theorem rs16 {p code : Nat} (h : Sys w tagA ka (rsA text p false 0 []) (tE kb B v text) X) (hc : code ≤ 4611686018427387903) : Calls Tryz.prog 18 #[.pointer (some ⟨ka, 0, none⟩), .int .u64 0, .int .u64 code] X fun e w' => e = .returned (.int .i64 0) ∧ Sys w tagA ka (rsA text p true code [(4, true)]) (tE kb B v text) w' := by
  have H := h.reset memA (tE_ok _ _ _ _) 0 code (by omega)
  rw [rsReset hc] at H
  exact H
theorem rs17 {p code : Nat} (h : Sys w tagA ka (rsA text p true code [(4, true)]) (tE kb B v text) X) (hc : code ≤ 4611686018427387903) (hp : p ≤ text.length) (hl : text.length ≤ 200) : Calls Tryz.prog 15 #[.pointer (some ⟨ka, 0, none⟩), .int .i64 500] X fun e w' =>
    ∃ g c dv, e = .returned (.slice (some ⟨g, 0, none⟩) 1 c) ∧ Sys w tagB kb B (lE ka (rsA text p true code [(4, false)]) v text (.slice (some ⟨g, 0, none⟩) 1 c) [(frReset 0 code p, dv)]) w' := by
  have H := h.frames memA (tE_ok _ _ _ _) (rsNice hc) (by show 1 ≤ _; omega) 500 (by omega)
  obtain ⟨room, hF⟩ := rsFrames2 (code := code) hp hl
  rw [hF] at H
  refine H.mono ?_
  rintro e w' ⟨Ad, c, L, rfl, hL, ox, h1, h2, h3, ⟨h4, h4'⟩, h5⟩
  obtain ⟨dv, rfl⟩ := one_of hL
  rcases h5.form with ⟨_, h0⟩ | ⟨g, cap, cur, he, _⟩
  · cases h0
  · injection he with e1 e2 e3
    subst e1
    exact ⟨g, c, dv, rfl, ox, h4, h2, h3, h1, h4', h5⟩
theorem rs18 {p code : Nat} {fv dv : Value} (h : Sys w tagB kb B (lE ka A v text fv [(frReset 0 code p, dv)]) X) (hB : BS p B) (hp : p ≤ 200) (hc : code ≤ 4611686018427387903) : Calls Tryz.prog 17 #[.pointer (some ⟨kb, 0, none⟩), .agg ((frReset 0 code p).cells dv nilS)] X fun e w' => e = .returned (.int .i64 0) ∧ ∃ m, Sys w tagB kb (rbE p code m) (uE ka A v text) w' := by
  obtain ⟨m, t⟩ := rsTakeR (code := code) hB hp
  have H := h.take memB (lE_ok _ _ _ _ _ _) (frReset 0 code p) ⟨by show 0 < _; omega, by show p < _; omega, by show 0 < _; omega, by show code < _; omega, fun _ h => (List.not_mem_nil h).elim, fun _ => by show 0 < 256; omega⟩ (fun ox hE => hE.2.2.2.2 (frReset 0 code p, dv) (by simp)) (by show 0 ≤ _; omega)
  rw [t] at H
  refine H.mono ?_
  rintro e w' ⟨h1, ox, a1, a2, a3, a4, a5, _⟩
  exact ⟨h1, m, ox, a1, a2, a3, a4, a5⟩
theorem rs20 {p code : Nat} {m : List (Nat × Nat)} (h : Sys w tagB kb (rbE p code m) (uE ka A v text) X) : Calls Tryz.prog 19 #[.pointer (some ⟨kb, 0, none⟩), .int .u64 0] X fun e w' => e = .returned (.tuple #[.int .u64 code, .bool true]) ∧ X = w' := by
  have H := h.code 0
  rw [rbE_code] at H
  exact H
theorem rs21 {p code : Nat} {m : List (Nat × Nat)} (h : Sys w tagB kb (rbE p code m) (uE ka A v text) X) : Calls Tryz.prog 20 #[.pointer (some ⟨kb, 0, none⟩), .int .u64 0, .int .i64 9] X fun e w' => ∃ As cs, e = .returned (.tuple #[.slice As 0 cs, .bool false, .int .i64 8]) ∧ Sys w tagA ka A (tE kb (rbE p code m) v text) w' := by
  have H := h.read memB (uE_ok _ _ _ _) 0 9
  rw [rbE_read] at H
  refine H.mono ?_
  rintro e w' ⟨As, cs, rfl, ox, a1, a2, a3, ⟨a4, a5⟩, _⟩
  exact ⟨As, cs, rfl, ox, a4, a2, a3, a1, a5⟩
theorem rs22 {p code : Nat} {tell : List (Nat × Bool)} (h : Sys w tagA ka (rsA text p true code tell) (tE kb B v text) X) (h8 : ∀ x ∈ text, x < 256) : Calls Tryz.prog 14 #[.pointer (some ⟨ka, 0, none⟩), .int .u64 0, v] X fun e w' => e = .returned (.tuple #[.int .i64 0, .int .i64 8]) ∧ Sys w tagA ka (rsA text p true code tell) (tE kb B v text) w' := by
  have H := h.write memA (tE_ok _ _ _ _) 0 (fun ox hE => ⟨[], hE.2⟩) h8
  rw [rsWrite2] at H
  exact H
theorem rs23 {p code : Nat} (h : Sys w tagA ka (rsA text p true code [(4, false)]) (tE kb B v text) X) (hc : code ≤ 4611686018427387903) : Calls Tryz.prog 15 #[.pointer (some ⟨ka, 0, none⟩), .int .i64 500] X fun e w' =>
    ∃ Ad c A', e = .returned (.slice Ad 0 c) ∧ Sys w tagB kb B (uE ka A' v text) w' := by
  have H := h.frames memA (tE_ok _ _ _ _) (rsNice hc) (by show 1 ≤ _; omega) 500 (by omega)
  rw [rsFrames3] at H
  refine H.mono ?_
  rintro e w' ⟨Ad, c, L, rfl, hL, ox, h1, h2, h3, ⟨h4, h4'⟩, h5⟩
  exact ⟨Ad, c, _, rfl, ox, h4, h2, h3, h1, h4'⟩
theorem rs24 {p code : Nat} {m : List (Nat × Nat)} (h : Sys w tagB kb (rbE p code m) (uE ka A v text) X) : Calls Tryz.prog 21 #[.pointer (some ⟨kb, 0, none⟩)] X fun e w' => e = .returned (.int .i64 0) ∧ Below w.heap.size w w' := by
  have H := h.held memB (uE_ok _ _ _ _) (by show 1 ≤ _; omega)
  rw [rbE_held] at H
  exact H.mono fun e w' ⟨h1, h2⟩ => ⟨h1, h2.below⟩
end

set_option maxHeartbeats 4000000 in
set_option maxRecDepth 100000 in
theorem StreamsResets_ok {w : World} (hg : GTab w (fun _ => [])) (code at_ nn : Nat) (v : Value) (text : List Nat) (hv : Sl w (fun _ => []) [] v (text.map bv)) (h8 : ∀ x ∈ text, x < 256) (hc : code < 18446744073709551616) (hn : nn < 256) :
    Calls Tryz.prog 5 #[.int .u64 code, .int .u64 at_, v, .int .u8 nn] w fun e w' => e = .returned (.bool true) ∧ Below w.heap.size w w' := by
  obtain ⟨A, cc, rfl, ha1, ha2, ha3, ha4⟩ := id hv
  rw [List.length_map] at *
  unfold maxLen at ha2
  have HA := Lib.hid (alive_ok hg)
  have HG := Lib.hid hg; have HV := Lib.hid hv
  clear hg hv ha3 ha4
  by_cases hl : (200 : Int) < text.length
  · clear h8
    go_enter Tryz.func5, Tryz.ntmps5
    go_wp2_with (go_at_call 7; ((with_reducible refine HA.out.mono ?_); rintro e w1 ⟨rfl, hb⟩; have HB := Lib.hid hb; clear hb))
    go_ret
    exact ⟨rfl, HB.out⟩
  have d200 : decide ((200 : Int) < text.length) = false := decide_eq_false hl
  by_cases hbig : (4611686018427387903 : Int) < code
  · clear h8
    go_enter Tryz.func5, Tryz.ntmps5
    go_wp2_with (go_at_call 7; ((with_reducible refine HA.out.mono ?_); rintro e w1 ⟨rfl, hb⟩; have HB := Lib.hid hb; clear hb))
    go_ret
    exact ⟨rfl, HB.out⟩
  have dbig : decide ((4611686018427387903 : Int) < code) = false := decide_eq_false hbig
  have hl' : text.length ≤ 200 := by omega
  have hc' : code ≤ 4611686018427387903 := by omega
  have hnI : (nn : Int) < 256 := by omega
  have hcI : (code : Int) ≤ 4611686018427387903 := by omega
  have H8 := Lib.hid h8
  clear h8 hl hbig
  have HN : RowKit.Hid (∀ (X : World) (o : Own) (t : Tag) (c : Bool), Calls Tryz.prog 8 #[.bool c, .agg ownP.cells] X (NewPost X o t (Tb.new c ownP))) := fun X o t c => New_yes o t c ownP ownP_wf ownP_may
  go_enter Tryz.func5, Tryz.ntmps5
  go_upto_region 6 with (first
    | (go_at_call 7; ((with_reducible refine HA.out.mono ?_); rintro e w1 ⟨rfl, hb⟩; have HB := Lib.hid hb; clear hb))
    | (go_at_call 9; ((with_reducible refine (Own_ok w1 (fun _ => [])).mono ?_); rintro e w2 ⟨rfl, o2, h2⟩; have H2 := Lib.hid h2; clear h2))
    | (go_at_call 8; ((with_reducible refine (HN.out w2 o2 tagA true).mono ?_); rintro e w3 ⟨ka, o3, rfl, h3, hA⟩; have H3 := Lib.hid h3; have HTA := Lib.hid hA; clear h3 hA))
    | (go_at_call 9; ((with_reducible refine (Own_ok w3 o3).mono ?_); rintro e w4 ⟨rfl, o4, h4⟩; have H4 := Lib.hid h4; clear h4))
    | (go_at_call 8; ((with_reducible refine (HN.out w4 o4 tagB false).mono ?_); rintro e w5 ⟨kb, o5, rfl, h5, hB⟩; have H5 := Lib.hid h5; have HTB := Lib.hid hB; clear h5 hB)))
  have HS := Lib.hid (rsStart HG.out HV.out HB.out H2.out H3.out HTA.out H4.out H5.out HTB.out)
  clear HA HB HG HV H2 H3 HTA H4 H5 HTB HN
  unfold ptr
  go_upto_region 7 with (first
    | (go_at_call 9; ((with_reducible refine (ownSys memA (tE_ok _ _ _ _) HS.out).mono ?_); rintro e w6 ⟨rfl, hS⟩; have HS1 := Lib.hid hS; clear hS))
    | (go_at_call 10; ((with_reducible refine (rs6 HS1.out).mono ?_); rintro e w7 ⟨rfl, hS⟩; have HS2 := Lib.hid hS; clear hS)))
  go_upto_region 8 with (first
    | (go_at_call 9; ((with_reducible refine (ownSys memB (uE_ok _ _ _ _) HS2.out).mono ?_); rintro e w8 ⟨rfl, hS⟩; have HS3 := Lib.hid hS; clear hS))
    | (go_at_call 10; ((with_reducible refine (rs7 HS3.out).mono ?_); rintro e w9 ⟨rfl, hS⟩; have HS4 := Lib.hid hS; clear hS)))
  go_upto_region 9 with (go_at_call 11; ((with_reducible refine (rs8 HS4.out).mono ?_); rintro e w10 ⟨rfl, hS⟩; have HS5 := Lib.hid hS; clear hS))
  clear HS HS1 HS2 HS3 HS4
  go_upto_region 10 with (go_at_call 14; ((with_reducible refine (rs9 HS5.out hl' H8.out).mono ?_); rintro e w11 ⟨rfl, hS⟩; have HS6 := Lib.hid hS; clear hS))
  go_upto_region 11 with (go_at_call 15; ((with_reducible refine (rs10 HS6.out hl' hn).mono ?_); rintro e w12 ⟨Ad, c, L, pe, rfl, hL, HS7⟩))
  clear HS5 HS6
  have Hsz : RowKit.Hid (∀ (f : Fr) (dv : Value), (Tryz.prog.info? 52).map (·.size) = some (f.cells dv nilS).toList.length) := fun _ _ => infoFR
  go_upto_region 12 with fail
  go_loopw [14] (fun i wr => ∃ (j p : Nat) (B : Tb), i = .int .i64 j ∧ j ≤ L.length ∧ RowKit.Hid (pe ≤ text.length ∧ Chain text p pe ((L.map (·.1)).drop j) ∧ BS p B ∧ Sys w tagB kb B (lE ka (rsA text pe false 0 []) (.slice A text.length cc) text (.slice Ad L.length c) L) wr)) (fun i _ => L.length - (intOf i).toNat)
  case atStart => exact ⟨0, 0, _, rfl, Nat.zero_le _, HS7.out⟩
  case round =>
    obtain ⟨j, p, B, rfl, hj, hX⟩ := hrel
    by_cases hlt : j < L.length
    · obtain ⟨f, hf⟩ : ∃ f, L[j]? = some f := ⟨L[j], List.getElem?_eq_getElem hlt⟩
      obtain ⟨f, dv⟩ := f
      obtain ⟨h1, h2, h3, h4⟩ := hX.out
      obtain ⟨g, rfl⟩ := rsForm h4 (by omega)
      have hrg := Lib.hid (rsRange h4 hf)
      have hdr : (L.map (·.1)).drop j = f :: (L.map (·.1)).drop (j + 1) := by
        rw [List.drop_eq_getElem_cons (by rw [List.length_map]; exact hlt)]
        congr 1
        have := (List.getElem?_eq_some_iff.1 hf).2
        simp [this]
      rw [hdr] at h2
      rcases h2.inv with ⟨hno, _⟩ | ⟨q, L', he, hq, hpq, hch⟩
      · cases hno
      injection he with he1 he2
      subst he1 he2
      have hch' := Lib.hid hch
      have hT := Lib.hid (rs14 h4 h3 (d := (text.take (p + q)).drop p) hq (by simp; omega) (by omega) hf (fun x hx => H8.out x (List.mem_of_mem_take (List.mem_of_mem_drop hx))))
      generalize frStream 0 p ((text.take (p + q)).drop p) false = f at hrg hT
      clear h1 h2 h3 h4 hdr hch hf
      go_wp2_with (first
        | ((with_reducible (show wpList _ _ _ ({ dst := _, op := Op.load 52 (.tmp 65), type := _, pos := _, after := _, guard := _ } :: _) _ _)); refine wpList_load_mid (P := Tryz.prog) rfl 52 (.tmp 65) rfl g (j * 24) rfl (f.cells dv nilS).toList _ hrg.out Tryz.underlying52 rfl (Hsz.out f dv) ?_; simp only [Array.toArray_toList])
        | (go_at_call 17; ((with_reducible refine hT.out.mono ?_); rintro e w13 ⟨rfl, B', hB', hS⟩; have HB' := Lib.hid hB'; have HS8 := Lib.hid hS; clear hB' hS)))
      go_round
      case rel => exact ⟨j + 1, p + q, B', by go_num, by omega, hX.out.1, hch'.out, HB'.out, HS8.out⟩
      case measure => simp [intOf]; omega
    · have hjl : j = L.length := by omega
      obtain ⟨h1, h2, h3, h4⟩ := hX.out
      have hp : p = pe := by
        rw [List.drop_eq_nil_of_le (by rw [List.length_map]; omega)] at h2
        rcases h2.inv with ⟨_, h⟩ | ⟨q, L', he, _⟩
        · exact h
        · cases he
      subst hp
      have HP := Lib.hid (show p ≤ text.length ∧ p ≤ 200 from ⟨h1, by omega⟩)
      have HBS := Lib.hid h3
      have HS9 := Lib.hid (lt_ h4)
      clear h1 h2 h3 h4 hX HS7
      go_upto_region 17 with (go_at_call 18; ((with_reducible refine (rs16 HS9.out hc').mono ?_); rintro e w14 ⟨rfl, hS⟩; have HS10 := Lib.hid hS; clear hS))
      go_upto_region 18 with (go_at_call 15; ((with_reducible refine (rs17 HS10.out hc' HP.out.1 hl').mono ?_); rintro e w15 ⟨g2, c2, dv2, rfl, hS⟩; have HS11 := Lib.hid hS; clear hS))
      clear HS9 HS10
      have hrg := Lib.hid (rsRange (j := 0) HS11.out rfl)
      have Hkd : w15.cell? ⟨g2, 0, none⟩ = some (.int .i64 4) := by
        have := hrg.out 0 (.int .i64 4) rfl
        simpa using this
      go_upto_if 100 with (first
        | ((with_reducible (show wpList _ _ _ ({ dst := _, op := Op.load 52 (.tmp 96), type := _, pos := _, after := _, guard := _ } :: _) _ _)); refine wpList_load_mid_g (P := Tryz.prog) rfl 52 (.tmp 96) rfl g2 0 rfl ((frReset 0 code p).cells dv2 nilS).toList _ hrg.out Tryz.underlying52 rfl (Hsz.out _ _) ?_; simp only [Array.toArray_toList])
        | (go_at_call 17; ((with_reducible refine (rs18 HS11.out HBS.out HP.out.2 hc').mono ?_); rintro e w16 ⟨rfl, m, hS⟩; have HS12 := Lib.hid hS; clear hS)))
      clear hrg Hkd HS11
      go_upto_region 20 with fail
      go_upto_region 21 with (go_at_call 19; ((with_reducible refine (rs20 HS12.out).mono ?_); rintro e w17 ⟨rfl, rfl⟩))
      go_upto_region 22 with (go_at_call 20; ((with_reducible refine (rs21 HS12.out).mono ?_); rintro e w18 ⟨As, cs, rfl, hS⟩; have HS13 := Lib.hid hS; clear hS))
      go_upto_region 23 with (go_at_call 14; ((with_reducible refine (rs22 HS13.out H8.out).mono ?_); rintro e w19 ⟨rfl, hS⟩; have HS14 := Lib.hid hS; clear hS))
      go_wp2_with (first
        | (go_at_call 15; ((with_reducible refine (rs23 HS14.out hc').mono ?_); rintro e w20 ⟨Ad3, c3, A3, rfl, hS⟩; have HS15 := Lib.hid hS; clear hS))
        | (go_at_call 21; ((with_reducible refine (rs24 HS15.out).mono ?_); rintro e w21 ⟨rfl, hS⟩; have HS16 := Lib.hid hS; clear hS)))
      go_ret
      exact ⟨rfl, HS16.out⟩
end Go.Proofs.YthliihmhkhabeaaGreatDoor
