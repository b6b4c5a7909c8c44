/- The document's example runs as it says. No condition but what stands in the library's table. -/
import Derived.Test.YthliihmhkhabeaaGreatDoorIds47
import Derived.Lib.SlBytesConst
namespace Go.Proofs.YthliihmhkhabeaaGreatDoor
open Go Go.RowKit

def stB (kb : Nat) (B : Tb) : World → Own → Prop := fun w o => TbRep w o tagB kb B
theorem stB_ok (kb : Nat) (B : Tb) : Stays tagA (stB kb B) := Stays.tb tagA_ne tagB_ne (by decide) kb B
def stA' (ka : Nat) (A : Tb) : World → Own → Prop := fun w o => TbRep w o tagA ka A
theorem memA : tagA ∈ roots := by simp [roots]
theorem memB : tagB ∈ roots := by simp [roots]

/-- The two tables, as they are made. -/
theorem twoNew {w w1 w2 w3 w4 : World} {o1 o2 o3 o4 : Own} {ka kb : Nat} {A B : Tb} (hg : GTab w (fun _ => [])) (h1 : Chg [] w (fun _ => []) w1 o1) (h2 : Chg [] w1 o1 w2 o2) (hA : TbRep w2 o2 tagA ka A) (h3 : Chg [] w2 o2 w3 o3) (h4 : Chg [] w3 o3 w4 o4) (hB : TbRep w4 o4 tagB kb B) :
    Sys w tagA ka A (stB kb B) w4 := by
  have hc := ((h1.trans h2).trans h3).trans h4
  exact ⟨o4, (hA.chg h3 fun _ _ => off_nil _).chg h4 fun _ _ => off_nil _, hg.chg hc (off_nil _), hc.of_nil, hB⟩

theorem strHello : strOfNums (hello.map fun n : Nat => (n : Int)) = ⟨#[104, 101, 108, 108, 111]⟩ := by kernel_rfl
theorem one_of {L : List (Fr × Value)} {f : Fr} (h : L.map (·.1) = [f]) : ∃ dv, L = [(f, dv)] := by
  match L, h with
  | [(g, dv)], h => simp at h; subst h; exact ⟨dv, rfl⟩
theorem two_of {L : List (Fr × Value)} {f g : Fr} (h : L.map (·.1) = [f, g]) : ∃ d1 d2, L = [(f, d1), (g, d2)] := by
  match L, h with
  | [(f', d1), (g', d2)], h => simp at h; obtain ⟨h1, h2⟩ := h; subst h1; subst h2; exact ⟨d1, d2, rfl⟩
section
variable {w X : World} {ka kb : Nat} {As : Option Addr} {cs g : Nat}
abbrev E1 (kb : Nat) (B : Tb) := stB kb B
theorem av2 (h : Sys w tagA ka al0 (stB kb bl0) X) : Calls Tryz.prog 11 #[.pointer (some ⟨ka, 0, none⟩), .bool false] X fun e w' => e = .returned (.tuple #[.int .u64 0, .int .i64 5]) ∧ Sys w tagA ka al0 (stB kb bl0) w' := h.open_ memA (stB_ok _ _) false
theorem av3 (h : Sys w tagA ka al0 (stB kb bl0) X) : Calls Tryz.prog 10 #[.pointer (some ⟨ka, 0, none⟩), .agg ownP.cells] X fun e w' => e = .returned (.tuple #[]) ∧ Sys w tagA ka al1 (stB kb bl0) w' := h.peer memA (stB_ok _ _) ownP ownP_wf
theorem av3o (h : Sys w tagA ka al0 (stB kb bl0) X) : Calls Tryz.prog 9 #[] X fun e w' => e = .returned (.agg ownP.cells) ∧ Sys w tagA ka al0 (stB kb bl0) w' := by
  obtain ⟨ox, h1, h2, h3, h4⟩ := h
  refine (Own_ok X ox).mono ?_
  rintro e w' ⟨rfl, oy, hc⟩
  exact ⟨rfl, Sys.turn memA h2 h3 h4 (stB_ok _ _) (h1.chg hc fun _ _ => off_nil _) hc.of_nil⟩
theorem av4 (h : Sys w tagA ka al1 (stB kb bl0) X) : Calls Tryz.prog 11 #[.pointer (some ⟨ka, 0, none⟩), .bool false] X fun e w' => e = .returned (.tuple #[.int .u64 0, .int .i64 0]) ∧ Sys w tagA ka al2 (stB kb bl0) w' := h.open_ memA (stB_ok _ _) false
theorem av5 (h : Sys w tagA ka al2 (stB kb bl0) X) : Calls Tryz.prog 11 #[.pointer (some ⟨ka, 0, none⟩), .bool false] X fun e w' => e = .returned (.tuple #[.int .u64 4, .int .i64 0]) ∧ Sys w tagA ka al3 (stB kb bl0) w' := h.open_ memA (stB_ok _ _) false
theorem av6 (h : Sys w tagA ka al3 (stB kb bl0) X) : Calls Tryz.prog 11 #[.pointer (some ⟨ka, 0, none⟩), .bool true] X fun e w' => e = .returned (.tuple #[.int .u64 2, .int .i64 0]) ∧ Sys w tagA ka al4 (stB kb bl0) w' := h.open_ memA (stB_ok _ _) true
theorem newHello (X : World) (o : Own) : Sl (X.alloc (.cells #[.int .u8 104, .int .u8 101, .int .u8 108, .int .u8 108, .int .u8 111] 5 (5, 6))) (o.upd X.heap.size []) [] (.slice (some ⟨X.heap.size, 0, none⟩) 5 5) (hello.map bv) := by
  have h := At.new X o [] (.cells #[.int .u8 104, .int .u8 101, .int .u8 108, .int .u8 108, .int .u8 111] 5 (5, 6))
  refine ⟨_, _, rfl, Nat.le_refl _, by simp [maxLen], by intro h; simp at h, fun _ => ⟨_, _, rfl, h.2, fun j hj => ?_⟩⟩
  rw [Nat.zero_add]
  have h1 := h.1
  simp only [World.cell?, h1, ← Array.getElem?_toList]
  rfl
theorem av7 (h : Sys w tagA ka al4 (stB kb bl0) X) : Calls Tryz.prog 14 #[.pointer (some ⟨ka, 0, none⟩), .int .u64 0, .slice (some ⟨X.heap.size, 0, none⟩) 5 5] (X.alloc (.cells #[.int .u8 104, .int .u8 101, .int .u8 108, .int .u8 108, .int .u8 111] 5 (5, 6))) fun e w' => e = .returned (.tuple #[.int .i64 5, .int .i64 0]) ∧ Sys w tagA ka al5 (stB kb bl0) w' := by
  obtain ⟨ox, h1, h2, h3, h4⟩ := h
  have hc := ((Chg.refl [] X ox).alloc (.cells #[.int .u8 104, .int .u8 101, .int .u8 108, .int .u8 108, .int .u8 111] 5 (5, 6))).tag (Nat.le_refl _) []
  have hT := h1.chg hc fun _ _ => off_nil _
  refine (TWrite_ok hT 0 (newHello X ox) (by decide)).mono ?_
  rintro e w' ⟨oy, rfl, hT', hc'⟩
  exact ⟨rfl, Sys.turn memA (h2.chg hc (off_nil _)) (h3.trans hc.of_nil) (stB_ok _ _ _ _ _ _ hc.of_nil h4) (stB_ok _ _) hT' hc'⟩
def fr1E (g c : Nat) (dv : Value) : World → Own → Prop := fun w o => FRow w o (2 :: gtag tagA) [] (.slice (some ⟨g, 0, none⟩) 1 c) [(fr1, dv)]
theorem fr1E_A (g c : Nat) (dv : Value) : Stays tagA (fr1E g c dv) := Stays.frow tagA_ne (by simp) (by decide) _ _
theorem fr1E_B (g c : Nat) (dv : Value) : Stays tagB (fr1E g c dv) := Stays.frow tagB_ne (by simp) (by decide) _ _
theorem av8 (h : Sys w tagA ka al5 (stB kb bl0) X) : Calls Tryz.prog 15 #[.pointer (some ⟨ka, 0, none⟩), .int .i64 100] X fun e w' => ∃ g c dv, e = .returned (.slice (some ⟨g, 0, none⟩) 1 c) ∧ Sys w tagB kb bl0 (fun w o => TbRep w o tagA ka al6 ∧ fr1E g c dv w o) w' := by
  have H := h.frames memA (stB_ok _ _) al5_nice (by decide) 100 (by omega)
  rw [al_f] at H
  refine H.mono ?_
  rintro e w' ⟨A, c, L, rfl, hL, ox, h1, h2, h3, h4, h5⟩
  obtain ⟨dv, rfl⟩ := one_of hL
  rcases h5.form with ⟨_, h0⟩ | ⟨g, cap, cur, he, _⟩
  · cases h0
  · injection he with e1 e2 e3
    subst e1; subst e3
    exact ⟨g, c, dv, rfl, ox, h4, h2, h3, h1, h5⟩
theorem fr1R {T : Tb} {t : Tag} {k g c : Nat} {dv : Value} {F : World → Own → Prop} (h : Sys w t k T F X) (hF : ∀ w o, F w o → fr1E g c dv w o) : X.rangeAt g 0 (fr1.cells dv nilS).toList := by
  obtain ⟨ox, h1, h2, h3, h4⟩ := h
  have h5 := hF _ _ h4
  intro j v hj
  have hi : j < 24 := by
    have := (List.getElem?_eq_some_iff.1 hj).1
    simp [Fr.cells] at this
    exact this
  have := h5.cell (j := 0) (p := (fr1, dv)) rfl hi
  rw [Nat.zero_mul] at this
  rw [this, ← Array.getElem?_toList]
  exact hj
theorem fr1_wf : fr1.Wf := ⟨by decide, by decide, by decide, by decide, by decide, fun _ => by show 0 < 256; omega⟩
theorem frZ8 (l : List Nat) (h : ∀ c ∈ l, c < 256) : ∀ c ∈ l, c < 256 := h
def aE (ka : Nat) (A : Tb) (g c : Nat) (dv : Value) : World → Own → Prop := fun w o => TbRep w o tagA ka A ∧ fr1E g c dv w o
theorem aE_ok (ka : Nat) (A : Tb) (g c : Nat) (dv : Value) : Stays tagB (aE ka A g c dv) := (Stays.tb tagB_ne tagA_ne (by decide) ka A).and (fr1E_B g c dv)
theorem av9 {g c : Nat} {dv : Value} (h : Sys w tagB kb bl0 (aE ka al6 g c dv) X) : Calls Tryz.prog 17 #[.pointer (some ⟨kb, 0, none⟩), .agg (fr1.cells dv nilS)] X fun e w' => e = .returned (.int .i64 0) ∧ Sys w tagB kb bl1 (aE ka al6 g c dv) w' :=
  h.take memB (aE_ok _ _ _ _ _) fr1 fr1_wf (fun ox hE => hE.2.2.2 (fr1, dv) (by simp)) (by decide)
def bE (kb : Nat) (B : Tb) (g c : Nat) (dv : Value) (As : Option Addr) (cs : Nat) : World → Own → Prop := fun w o => TbRep w o tagB kb B ∧ fr1E g c dv w o ∧ Row w o readTag 5 (.slice As 5 cs) (hello.map bv)
theorem av11 {g c : Nat} {dv : Value} (h : Sys w tagB kb bl1 (aE ka al6 g c dv) X) : Calls Tryz.prog 20 #[.pointer (some ⟨kb, 0, none⟩), .int .u64 0, .int .i64 9] X fun e w' => ∃ As cs, e = .returned (.tuple #[.slice As 5 cs, .bool false, .int .i64 0]) ∧ Sys w tagA ka al6 (bE kb bl2 g c dv As cs) w' := by
  refine (h.read memB (aE_ok _ _ _ _ _) 0 9).mono ?_
  rintro e w' ⟨A, cs, rfl, ox, h1, h2, h3, ⟨h4, h5⟩, h6⟩
  exact ⟨A, cs, rfl, ox, h4, h2, h3, h1, h5, h6⟩
theorem bE_ok (kb : Nat) (B : Tb) (g c : Nat) (dv : Value) (As : Option Addr) (cs : Nat) : Stays tagA (bE kb B g c dv As cs) := (stB_ok kb B).and ((fr1E_A g c dv).and (Stays.row tagA_ne (by simp [readTag]) (by decide) _ _ _))
theorem av12 {g c : Nat} {dv : Value} {As : Option Addr} {cs : Nat} (h : Sys w tagA ka al6 (bE kb bl2 g c dv As cs) X) : Calls Tryz.prog 24 #[.pointer (some ⟨ka, 0, none⟩), .agg (fr1.cells dv nilS)] X fun e w' => e = .returned (.tuple #[]) ∧ Sys w tagA ka al7 (bE kb bl2 g c dv As cs) w' :=
  h.acked memA (bE_ok _ _ _ _ _ _ _) fr1 fr1_wf (fun ox hE => hE.2.1.2.2 (fr1, dv) (by simp)) (by decide)
def cE (kb : Nat) (B : Tb) (As : Option Addr) (cs : Nat) (g : Nat) : World → Own → Prop := fun w o => TbRep w o tagB kb B ∧ Row w o readTag 5 (.slice As 5 cs) (hello.map bv) ∧ ∃ c d1 d2, FRow w o (2 :: gtag tagB) [] (.slice (some ⟨g, 0, none⟩) 2 c) [(fr2, d1), (fr3, d2)]
theorem cE_ok (kb : Nat) (B : Tb) (As : Option Addr) (cs : Nat) (g : Nat) : Stays tagA (cE kb B As cs g) := (stB_ok kb B).and ((Stays.row tagA_ne (by simp [readTag]) (by decide) _ _ _).and fun _ _ _ _ hc ⟨c, d1, d2, hF⟩ => ⟨c, d1, d2, Stays.frow tagA_ne (by simp) (by decide) _ _ _ _ _ _ hc hF⟩)
set_option maxRecDepth 100000 in
theorem avS (h : Sys w tagA ka al7 (cE kb bl3 As cs g) X) : (convert 42 9 (.slice As 5 cs)).run Tryz.prog X = .ok (.string ⟨#[104, 101, 108, 108, 111]⟩) X := by
  obtain ⟨ox, h1, h2, h3, h4, h5, h6⟩ := h
  obtain ⟨A, c, hv, e1, e2, hz, e3⟩ := h5.sl
  injection hv with v1 v2 v3
  subst v1; subst v3
  obtain ⟨b, f, rfl, _, hcell⟩ := e3 (by simp [hello])
  have := run_convert_bytes_arg (P := Tryz.prog) X 42 5 Tryz.underlying42 Tryz.underlying5 b f 5 cs (hello.map fun n : Nat => (n : Int)) (by simp [hello]) (fun i hi => by rw [hcell i (by simp [hello]; omega)]; rcases (by omega : i = 0 ∨ i = 1 ∨ i = 2 ∨ i = 3 ∨ i = 4) with rfl | rfl | rfl | rfl | rfl <;> rfl) 9 Tryz.underlying9
  rw [strHello] at this
  exact this
theorem avK (h : Sys w tagA ka al7 (cE kb bl3 As cs g) X) : X.cell? ⟨g, 0, none⟩ = some (.int .i64 17) := by
  obtain ⟨ox, h1, h2, h3, h4, h5, c, d1, d2, h6⟩ := h
  have := h6.cell (j := 0) (p := (fr2, d1)) rfl (i := 0) (by omega)
  rw [Nat.zero_mul, Nat.zero_add] at this
  exact this
theorem avAcks (h : Sys w tagA ka al7 (cE kb bl3 As cs g) X) : Calls Tryz.prog 26 #[.pointer (some ⟨ka, 0, none⟩), .int .u64 0, .int .u64 0, .int .i64 5] X fun e w' => e = .returned (.bool true) ∧ X = w' := h.acks 0 0 5 (by omega) (by omega)
theorem avIds (h : Sys w tagA ka al7 (cE kb bl3 As cs g) X) : Calls Tryz.prog 12 #[.pointer (some ⟨ka, 0, none⟩)] X fun e w' => ∃ A c, e = .returned (.slice A 3 c) ∧ Sys w tagA ka al7 (cE kb bl3 As cs g) w' := by
  have H := h.ids memA (cE_ok _ _ _ _ _) (by decide)
  rw [al_k] at H
  exact H
theorem avHeld (h : Sys w tagA ka al7 (cE kb bl3 As cs g) X) : Calls Tryz.prog 21 #[.pointer (some ⟨kb, 0, none⟩)] X fun e w' => e = .returned (.int .i64 0) ∧ Sys w tagA ka al7 (stB kb bl3) w' := by
  have h2 : Sys w tagB kb bl3 (fun w o => TbRep w o tagA ka al7) X := by
    obtain ⟨ox, h1, h2, h3, h4, _⟩ := h
    exact ⟨ox, h4, h2, h3, h1⟩
  have H := h2.held memB (Stays.tb tagB_ne tagA_ne (by decide) ka al7) (by decide)
  rw [al_l] at H
  refine H.mono ?_
  rintro e w' ⟨rfl, ox, h1, h2, h3, h4⟩
  exact ⟨rfl, ox, h4, h2, h3, h1⟩
theorem avReset (h : Sys w tagA ka al7 (stB kb bl3) X) : Calls Tryz.prog 18 #[.pointer (some ⟨ka, 0, none⟩), .int .u64 4, .int .u64 7] X fun e w' => e = .returned (.int .i64 0) ∧ Below w.heap.size w w' :=
  (h.reset memA (stB_ok _ _) 4 7 (by omega)).mono fun _ _ ⟨h1, h2⟩ => ⟨h1, h2.below⟩
theorem avBig (h : Below w.heap.size w X) : Calls Tryz.prog 8 #[.bool true, .agg bigP.cells] X fun e w' => e = .returned (.pointer none) ∧ Below w.heap.size w w' :=
  (New_no (fun _ => []) true bigP bigP_may).mono fun _ _ ⟨h1, h2⟩ => ⟨h1, h.trans ((h2.below fun _ _ => off_nil _).mono h.size)⟩
theorem av13 {g c : Nat} {dv : Value} {As : Option Addr} {cs : Nat} (h : Sys w tagA ka al7 (bE kb bl2 g c dv As cs) X) : Calls Tryz.prog 15 #[.pointer (some ⟨kb, 0, none⟩), .int .i64 100] X fun e w' => ∃ g2 c2, e = .returned (.slice (some ⟨g2, 0, none⟩) 2 c2) ∧ Sys w tagA ka al7 (cE kb bl3 As cs g2) w' := by
  have h2 : Sys w tagB kb bl2 (fun w o => TbRep w o tagA ka al7 ∧ Row w o readTag 5 (.slice As 5 cs) (hello.map bv)) X := by
    obtain ⟨ox, h1, h2, h3, h4, h5, h6⟩ := h
    exact ⟨ox, h4, h2, h3, h1, h6⟩
  have H := h2.frames memB ((Stays.tb tagB_ne tagA_ne (by decide) ka al7).and (Stays.row tagB_ne (by simp [readTag]) (by decide) _ _ _)) bl2_nice (by decide) 100 (by omega)
  rw [al_i] at H
  refine H.mono ?_
  rintro e w' ⟨A, c, L, rfl, hL, ox, h1, h2, h3, ⟨h4, h4'⟩, h5⟩
  obtain ⟨d1, d2, rfl⟩ := two_of hL
  rcases h5.form with ⟨_, h0⟩ | ⟨g, cap, cur, he, _⟩
  · cases h0
  · injection he with e1 e2 e3
    subst e1; subst e3
    exact ⟨g, c, rfl, ox, h4, h2, h3, h1, h4', c, d1, d2, h5⟩
end

set_option maxHeartbeats 4000000 in
set_option maxRecDepth 100000 in
theorem alive_ok {w : World} (hg : GTab w (fun _ => [])) :
    Calls Tryz.prog 7 #[] w fun e w' => e = .returned (.bool true) ∧ Below w.heap.size w w' := by
  have HG := Lib.hid hg
  clear hg
  go_enter Tryz.func7, Tryz.ntmps7
  have HN : RowKit.Hid (∀ (X : World) (o : Own) (t : Tag) (c : Bool), Calls Tryz.prog 8 #[.bool c, .agg ownP.cells] X (NewPost X o t (Tb.new c ownP))) := fun X o t c => New_yes o t c ownP ownP_wf ownP_may
  go_upto_region 2 with (first
    | (go_at_call 9; ((with_reducible refine (Own_ok w (fun _ => [])).mono ?_); rintro e w1 ⟨rfl, o1, h1⟩; have H1 := Lib.hid h1; clear h1))
    | (go_at_call 8; ((with_reducible refine (HN.out w1 o1 tagA true).mono ?_); rintro e w2 ⟨ka, o2, rfl, h2, hA⟩; have H2 := Lib.hid h2; have HA := Lib.hid hA; clear h2 hA))
    | (go_at_call 9; ((with_reducible refine (Own_ok w2 o2).mono ?_); rintro e w3 ⟨rfl, o3, h3⟩; have H3 := Lib.hid h3; clear h3))
    | (go_at_call 8; ((with_reducible refine (HN.out w3 o3 tagB false).mono ?_); rintro e w4 ⟨kb, o4, rfl, h4, hB⟩; have H4 := Lib.hid h4; have HB := Lib.hid hB; clear h4 hB)))
  have HS := Lib.hid (twoNew HG.out H1.out H2.out HA.out H3.out H4.out HB.out)
  clear H1 H2 HA H3 H4 HB HN
  unfold ptr
  go_upto_region 3 with (go_at_call 11; ((with_reducible refine (av2 HS.out).mono ?_); rintro e w5 ⟨rfl, hS⟩; have HS2 := Lib.hid hS; clear hS))
  go_upto_region 4 with (first
    | (go_at_call 9; ((with_reducible refine (av3o HS2.out).mono ?_); rintro e w6 ⟨rfl, hS⟩; have HS3 := Lib.hid hS; clear hS))
    | (go_at_call 10; ((with_reducible refine (av3 HS3.out).mono ?_); rintro e w7 ⟨rfl, hS⟩; have HS4 := Lib.hid hS; clear hS)))
  go_upto_region 5 with (go_at_call 11; ((with_reducible refine (av4 HS4.out).mono ?_); rintro e w8 ⟨rfl, hS⟩; have HS5 := Lib.hid hS; clear hS))
  go_upto_region 6 with (go_at_call 11; ((with_reducible refine (av5 HS5.out).mono ?_); rintro e w9 ⟨rfl, hS⟩; have HS6 := Lib.hid hS; clear hS))
  go_upto_region 7 with (go_at_call 11; ((with_reducible refine (av6 HS6.out).mono ?_); rintro e w10 ⟨rfl, hS⟩; have HS7 := Lib.hid hS; clear hS))
  clear HS HS2 HS3 HS4 HS5 HS6
  have kc := fun (w : World) (C : Array Value) (n c : Nat) => Lib.run_convert_bytes_const (P := Tryz.prog) w 42 5 C n c Tryz.underlying42 Tryz.underlying5
  go_upto_region 8 with (go_at_call 14; ((with_reducible refine (av7 HS7.out).mono ?_); rintro e w11 ⟨rfl, hS⟩; have HS8 := Lib.hid hS; clear hS))
  go_upto_region 9 with (go_at_call 15; ((with_reducible refine (av8 HS8.out).mono ?_); rintro e w12 ⟨g, c, dv, rfl, hS⟩; have HS9 := Lib.hid hS; clear hS))
  clear kc HS7 HS8
  have hrg := Lib.hid (fr1R HS9.out (fun _ _ h => h.2))
  have Hsz : RowKit.Hid ((Tryz.prog.info? 52).map (·.size) = some (fr1.cells dv nilS).toList.length) := infoFR
  go_upto_if 64 with (first
    | ((with_reducible (show wpList _ _ _ ({ dst := _, op := Op.load 52 (.tmp 60), type := _, pos := _, after := _, guard := _ } :: _) _ _)); refine wpList_load_mid_g (P := Tryz.prog) rfl 52 (.tmp 60) rfl g 0 rfl (fr1.cells dv nilS).toList _ hrg.out Tryz.underlying52 rfl Hsz.out ?_; simp only [Array.toArray_toList])
    | (go_at_call 17; ((with_reducible refine (av9 HS9.out).mono ?_); rintro e w13 ⟨rfl, hS⟩; have HS10 := Lib.hid hS; clear hS)))
  clear hrg
  go_upto_region 11 with fail
  go_upto_region 12 with (go_at_call 20; ((with_reducible refine (av11 HS10.out).mono ?_); rintro e w14 ⟨As, cs, rfl, hS⟩; have HS11 := Lib.hid hS; clear hS))
  clear HS9 HS10
  have hrg := Lib.hid (fr1R HS11.out (fun _ _ h => h.2.1))
  go_upto_region 13 with (first
    | ((with_reducible (show wpList _ _ _ ({ dst := _, op := Op.load 52 (.tmp 73), type := _, pos := _, after := _, guard := _ } :: _) _ _)); refine wpList_load_mid (P := Tryz.prog) rfl 52 (.tmp 73) rfl g 0 rfl (fr1.cells dv nilS).toList _ hrg.out Tryz.underlying52 rfl Hsz.out ?_; simp only [Array.toArray_toList])
    | (go_at_call 24; ((with_reducible refine (av12 HS11.out).mono ?_); rintro e w15 ⟨rfl, hS⟩; have HS12 := Lib.hid hS; clear hS)))
  clear hrg Hsz HS11
  go_upto_region 14 with (go_at_call 15; ((with_reducible refine (av13 HS12.out).mono ?_); rintro e w16 ⟨g2, c2, rfl, hS⟩; have HS13 := Lib.hid hS; clear hS))
  have hcv := avS HS13.out
  have hk17 := avK HS13.out
  clear HS12
  go_wp2_with (first
    | (go_at_call 26; ((with_reducible refine (avAcks HS13.out).mono ?_); rintro e w17 ⟨rfl, rfl⟩))
    | (go_at_call 12; ((with_reducible refine (avIds HS13.out).mono ?_); rintro e w18 ⟨A18, c18, rfl, hS⟩; have HS14 := Lib.hid hS; clear hS))
    | (go_at_call 21; ((with_reducible refine (avHeld HS14.out).mono ?_); rintro e w19 ⟨rfl, hS⟩; have HS15 := Lib.hid hS; clear hS))
    | (go_at_call 18; ((with_reducible refine (avReset HS15.out).mono ?_); rintro e w20 ⟨rfl, hS⟩; have HS16 := Lib.hid hS; clear hS))
    | (go_at_call 8; (refine (avBig HS16.out).mono ?_; rintro e w21 ⟨rfl, hS⟩; have HS17 := Lib.hid hS; clear hS)))
  go_ret
  exact ⟨rfl, HS17.out⟩
end Go.Proofs.YthliihmhkhabeaaGreatDoor
