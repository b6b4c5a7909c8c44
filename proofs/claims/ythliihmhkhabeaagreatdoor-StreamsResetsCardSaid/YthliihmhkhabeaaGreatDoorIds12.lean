/- What package reasm's Read does to a buffer. Conditions: the buffer is as its functions leave it (In.Wf). -/
import Derived.Test.YthliihmhkhabeaaGreatDoorIds11
import Derived.Shelf.Abstract
namespace Go.Proofs.YthliihmhkhabeaaGreatDoor
open Go Go.RowKit Go.Shelf
attribute [local go_sem] Oper.semAt_some

theorem MapAt.far2 {w : World} {o : Own} {t : Tag} {bm : Nat} {kv : List (Value × Value)} (h : MapAt w o t bm kv) {p : Addr} (hp : bm ≠ p.block) (u : Value) : MapAt (w.setCell p u) o t bm kv := by
  obtain ⟨es, clk, h1, h2⟩ := h
  exact ⟨es, clk, h1.far hp u, h2⟩

theorem Row.setOb' {w : World} {o : Own} {t : Tag} {e : TypeId} {v : Value} {xs : List Value} {r : Nat} (h : Row w o t e v xs) (hne : ∀ g, v.ownBlock = some g → g ≠ r) (x : Obj) : Row (setOb w r x) o t e v xs := by
  rcases h.form with ⟨rfl, rfl⟩ | ⟨g, cap, cur, rfl, hg, hn, hm, hs, ht⟩
  · exact Row.nil _ _ _ _
  · exact Row.of_form rfl (hg.setOb (hne g rfl) x) hn hm hs ht

def ReadPost (w : World) (o : Own) (t : Tag) (k : Nat) (s : Tag) (r : List Nat × In) (e : Ending) (w' : World) : Prop :=
  ∃ v o', e = .returned v ∧ Chg [t] w o w' o' ∧ InRep w' o' t k r.2 ∧ Row w' o' (0 :: s) 5 v (r.1.map bv)

/-- append of bytes onto a row whose block lies at or beyond B: so does the new row's. -/
theorem append_bytes_new (B : Nat) (w : World) (ty : TypeId) {o : Own} {t s : Tag} {v v2 : Value} {xs ys : List Nat} (hB : B ≤ w.heap.size) (hr : Row w o t 5 v (xs.map bv)) (hrb : ∀ g, v.ownBlock = some g → B ≤ g) (hy : Sl w o s v2 (ys.map bv)) (hb : xs.length + ys.length ≤ 1000000000000) :
    ∃ v' w' o', (Builtin.append_ #[42, 42] ty #[v, v2]).run Tryz.prog w = .ok v' w' ∧ Row w' o' t 5 v' ((xs ++ ys).map bv) ∧ w.grownBy w' v.ownBlock ∧ (∀ k, k < w.heap.size → o' k = o k) ∧ (∀ g, v'.ownBlock = some g → B ≤ g) := by
  obtain ⟨o2, ho2⟩ : ∃ o2 : Own, o2 = fun k => if k < B then 0 :: t else o k := ⟨_, rfl⟩
  have hr2 : Row w o2 t 5 v (xs.map bv) := ⟨hr.1, fun g hg => by rw [ho2]; have := hrb g hg; simp only; rw [if_neg (by omega)]; exact hr.2 g hg⟩
  have hy2 : ∃ s2, Sl w o2 s2 v2 (ys.map bv) := by
    obtain ⟨A, c, h1, h2, h3, h4, h5⟩ := hy
    by_cases h0 : 0 < (ys.map bv).length
    · obtain ⟨b, f, hA, _, hc⟩ := h5 h0
      exact ⟨o2 b, A, c, h1, h2, h3, h4, fun _ => ⟨b, f, hA, rfl, hc⟩⟩
    · exact ⟨[], A, c, h1, h2, h3, h4, fun h => absurd h h0⟩
  obtain ⟨s2, hy2⟩ := hy2
  obtain ⟨v', w', o', hrun, hrow, hg, _, hold⟩ := append_bytes w ty hr2 hy2 hb
  have hnew : ∀ g, v'.ownBlock = some g → B ≤ g := by
    intro g hv
    by_cases hlt : g < B
    · have h1 := hrow.2 g hv
      rw [hold g (by omega), ho2] at h1
      simp only at h1
      rw [if_pos hlt] at h1
      exact absurd h1 (tag_ne' t 0)
    · omega
  refine ⟨v', w', fun k => if k < B then o k else o' k, hrun, ⟨hrow.1, fun g hv => ?_⟩, hg, fun k hk => ?_, hnew⟩
  · have := hnew g hv
    simp only
    rw [if_neg (by omega)]
    exact hrow.2 g hv
  · simp only
    by_cases hlt : k < B
    · rw [if_pos hlt]
    · rw [if_neg hlt, hold k hk, ho2]
      simp only
      rw [if_neg hlt]

def InAt (w : World) (o : Own) (t : Tag) (k bm : Nat) (I : In) : Prop := I.Wf ∧ At w o k t (.cells #[.int .i64 I.window, .int .u64 I.read, .int .u64 I.top, .int .u64 I.size, .bool I.known, .map (some bm)] 132 (0, 0)) ∧ MapAt w o (0 :: t) bm (inKV I.m)
theorem InAt.chg {L : List Tag} {w w' : World} {o o' : Own} {t : Tag} {k bm : Nat} {I : In} (h : InAt w o t k bm I) (hc : Chg L w o w' o') (hl : off L t) (hl' : off L (0 :: t)) : InAt w' o' t k bm I := ⟨h.1, h.2.1.chg hc hl, h.2.2.chg hc hl'⟩

structure ReadInv (bm : Nat) (w : World) (o : Own) (t : Tag) (k : Nat) (s : Tag) (I : In) (n : Int) (j : Nat) (o' : Own) (v : Value) (l : List Nat) (W : World) : Prop where
  read : ∀ m, I.readN (j + m) = (l ++ ((In.adv j I).readN m).1, ((In.adv j I).readN m).2)
  len : l.length = j
  le : j ≤ n.toNat
  chg : Chg [t] w o W o'
  rep : InAt W o' t k bm (In.adv j I)
  b1 : At W o' w.heap.size (1 :: s) (.cells #[.pointer (some ⟨k, 0, none⟩)] 78 (0, 0))
  b2 : At W o' (w.heap.size + 1) (2 :: s) (.cells #[.int .i64 n] 3 (0, 0))
  b3 : At W o' (w.heap.size + 1 + 1) (3 :: s) (.cells #[v] 42 (0, 0))
  b4 : At W o' (w.heap.size + 1 + 1 + 1) (4 :: s) (.cells #[.pointer (some ⟨k, 0, none⟩)] 78 (0, 0))
  row : Row W o' (0 :: s) 5 v (l.map bv)
  rb : ∀ g, v.ownBlock = some g → w.heap.size ≤ g

theorem InAt.putObj {w : World} {o : Own} {t : Tag} {k l bm : Nat} {I : In} (h : InAt w o t k bm I) {u : Obj} (hl : w.heap[l]? = some u) (hu : u.isCells = false) (hne : ∀ es c, u ≠ .map es c) (y : Obj) : InAt (w.putObj l y) o t k bm I := by
  obtain ⟨hw, hat, es, clk, hm, h2⟩ := h
  refine ⟨hw, hat.putObj rfl hl hu y, es, clk, ⟨(World.putObj_heap_other ?_).trans hm.1, hm.2⟩, h2⟩
  rintro rfl
  exact hne es clk (Option.some.inj (hl.symm.trans hm.1))

theorem ReadInv.lasts {w : World} {o : Own} {t s : Tag} {k : Nat} {I : In} {n : Int} {B bm : Nat} (hB : w.heap.size ≤ B) : Lasts B (fun j W => ∃ o' v l, ReadInv bm w o t k s I n j o' v l W) := by
  rintro j W l x y ⟨o', v, ll, h⟩ hl hx hc hm
  exact ⟨o', v, ll, h.read, h.len, h.le, h.chg.putObj y (by omega), h.rep.putObj hx hc hm y, h.b1.putObj rfl hx hc y, h.b2.putObj rfl hx hc y, h.b3.putObj rfl hx hc y, h.b4.putObj rfl hx hc y, h.row.putObj hx hc y, h.rb⟩

theorem ReadInv.done {bm : Nat} {w : World} {o : Own} {t s : Tag} {k : Nat} {I : In} {n : Int} {j : Nat} {o' : Own} {v : Value} {l : List Nat} {W : World} (h : ReadInv bm w o t k s I n j o' v l W) (hd : I.next j = none ∨ n ≤ j) :
    I.readN n.toNat = (l, In.adv j I) := by
  have h1 := h.read (n.toNat - j)
  have hle := h.le
  rw [show j + (n.toNat - j) = n.toNat from by omega] at h1
  rw [h1]
  rcases hd with hd | hd
  · have : (In.adv j I).readN (n.toNat - j) = ([], In.adv j I) := by
      cases n.toNat - j with
      | zero => rfl
      | succ m => unfold In.readN; unfold In.next at hd; rw [hd]
    rw [this]; simp
  · rw [show n.toNat - j = 0 from by omega]; simp [In.readN]

theorem readStart {w : World} {o : Own} {t s : Tag} {k bm : Nat} {I : In} (h : InAt w o t k bm I) (n : Int) :
    ∃ o', ReadInv bm w o t k s I n 0 o' (.slice none 0 0) [] ((((w.alloc (Obj.cells #[Value.pointer (some ⟨k, 0, none⟩)] 78)).alloc (Obj.cells #[Value.int IntKind.i64 n] 3)).alloc (Obj.cells #[Value.slice none 0 0] 42)).alloc (Obj.cells #[Value.pointer (some ⟨k, 0, none⟩)] 78)) := by
  have a1 := At.new w o (1 :: s) (Obj.cells #[Value.pointer (some ⟨k, 0, none⟩)] 78)
  have c1 := ((Chg.refl [] w o).alloc (Obj.cells #[Value.pointer (some ⟨k, 0, none⟩)] 78)).tag (Nat.le_refl _) (1 :: s)
  generalize hw1 : w.alloc (Obj.cells #[Value.pointer (some ⟨k, 0, none⟩)] 78) = w1 at a1 c1 ⊢
  have s1 : w1.heap.size = w.heap.size + 1 := by rw [← hw1]; simp
  have a2 := At.new w1 (o.upd w.heap.size (1 :: s)) (2 :: s) (Obj.cells #[Value.int IntKind.i64 n] 3)
  have d2 := ((Chg.refl [] w1 (o.upd w.heap.size (1 :: s))).alloc (Obj.cells #[Value.int IntKind.i64 n] 3)).tag (Nat.le_refl _) (2 :: s)
  generalize hw2 : w1.alloc (Obj.cells #[Value.int IntKind.i64 n] 3) = w2 at a2 d2 ⊢
  have s2 : w2.heap.size = w.heap.size + 1 + 1 := by rw [← hw2]; simp [s1]
  generalize ho1 : (o.upd w.heap.size (1 :: s)).upd w1.heap.size (2 :: s) = o2 at a2 d2
  have a3 := At.new w2 o2 (3 :: s) (Obj.cells #[Value.slice none 0 0] 42)
  have d3 := ((Chg.refl [] w2 o2).alloc (Obj.cells #[Value.slice none 0 0] 42)).tag (Nat.le_refl _) (3 :: s)
  generalize hw3 : w2.alloc (Obj.cells #[Value.slice none 0 0] 42) = w3 at a3 d3 ⊢
  have s3 : w3.heap.size = w.heap.size + 1 + 1 + 1 := by rw [← hw3]; simp [s2]
  generalize ho2 : o2.upd w2.heap.size (3 :: s) = o3 at a3 d3
  have a4 := At.new w3 o3 (4 :: s) (Obj.cells #[Value.pointer (some ⟨k, 0, none⟩)] 78)
  have d4 := ((Chg.refl [] w3 o3).alloc (Obj.cells #[Value.pointer (some ⟨k, 0, none⟩)] 78)).tag (Nat.le_refl _) (4 :: s)
  have c2 := c1.trans (d2.mono fun _ _ => off_nil _)
  have c3 := c2.trans (d3.mono fun _ _ => off_nil _)
  have c4 := c3.trans (d4.mono fun _ _ => off_nil _)
  have n1 := ((a1.chg d2 (off_nil _)).chg d3 (off_nil _)).chg d4 (off_nil _)
  have n2 := (a2.chg d3 (off_nil _)).chg d4 (off_nil _)
  have n3 := a3.chg d4 (off_nil _)
  rw [s1] at n2
  rw [s2] at n3
  rw [s3] at a4
  refine ⟨_, fun m => by rw [Nat.zero_add]; simp [In.adv], rfl, Nat.zero_le _, c4.of_nil, h.chg c4 (off_nil _) (off_nil _), n1, n2, n3, ?_, Row.nil _ _ _ _, fun g hg => by simp [Value.ownBlock] at hg⟩
  rw [← s3] at a4 ⊢
  exact a4

set_option maxRecDepth 100000 in
theorem RRead_ok {w : World} {o : Own} {t s : Tag} {k : Nat} {I : In} (h : InRep w o t k I) (hs2 : off [s] t) (hs3 : off [s] (0 :: t)) (n : Int) :
    Calls Tryz.prog 49 #[.pointer (some ⟨k, 0, none⟩), .int .i64 n] w fun e w' => ReadPost w o t k s (I.readN n.toNat) e w' := by
  obtain ⟨hwf0, bm, hat0, hmap0⟩ := h
  have hkl := hat0.lt
  have hbl := hmap0.lt
  obtain ⟨o0, hst⟩ := readStart (bm := bm) (s := s) ⟨hwf0, hat0, hmap0⟩ n
  refine (callsIn_wide (n := 3)).1 ?_
  refine callsIn_of_wp_marks Tryz.func49 rfl trivial ?_ rfl
  simp only [Tryz.ntmps49, List.size_toArray, List.length_cons, List.length_nil, Nat.reduceAdd, Nat.reduceSub, Array.replicate_succ, Array.replicate_zero, List.push_toArray, List.append_toArray, List.nil_append, List.cons_append]
  gi_wp2_with (refine ⟨trivial, ?_⟩; gi_at_call 80; refine (callsIn_wide.2 (Rrow_ok _ _)).mono ?_; rintro e w' ⟨rfl, rfl⟩)
  have hsz : ((((w.alloc (Obj.cells #[Value.pointer (some ⟨k, 0, none⟩)] 78)).alloc (Obj.cells #[Value.int IntKind.i64 n] 3)).alloc (Obj.cells #[Value.slice none 0 0] 42)).alloc (Obj.cells #[Value.pointer (some ⟨k, 0, none⟩)] 78)).heap.size = w.heap.size + 1 + 1 + 1 + 1 := by simp
  generalize hwB : ((((w.alloc (Obj.cells #[Value.pointer (some ⟨k, 0, none⟩)] 78)).alloc (Obj.cells #[Value.int IntKind.i64 n] 3)).alloc (Obj.cells #[Value.slice none 0 0] 42)).alloc (Obj.cells #[Value.pointer (some ⟨k, 0, none⟩)] 78)) = wB at hst hsz ⊢
  refine wpIn_hands 0 rfl (by omega) (gf := 151) (lb := #[.pointer (some ⟨w.heap.size + 1 + 1 + 1, 0, none⟩)]) rfl trivial (enters_of Tryz.func151 (by kernel_rfl) rfl)
    (Rrow1_hands _ t k (w.heap.size + 1 + 1 + 1) I wB) (fun _ => rfl) (fun j W => ∃ o' v l, ReadInv bm w o t k s I n j o' v l W) (fun j W => (∃ o' v l, ReadInv bm w o t k s I n j o' v l W) ∧ n ≤ j)
    (ReadInv.lasts (by omega)) (fun j W l x y hi hl hx hc hm => ⟨ReadInv.lasts (B := wB.heap.size) (by omega) j W l x y hi.1 hl hx hc hm, hi.2⟩) ?fact ?start
    (fun j => { tmps := #[.pointer (some ⟨k, 0, none⟩), .int .i64 n, .pointer (some ⟨w.heap.size, 0, none⟩), .pointer (some ⟨w.heap.size + 1, 0, none⟩), .slice none 0 0, .pointer (some ⟨w.heap.size + 1 + 1, 0, none⟩), .int .u64 ((I.read : Int) + j), .int .u8 ((I.next j).getD 0),
        .pointer (some ⟨k, 0, none⟩), .func (.func 151) #[] #[.pointer (some ⟨w.heap.size + 1 + 1 + 1, 0, none⟩)], .int .u64 ((I.read : Int) + j), .int .u8 ((I.next j).getD 0),
        undef, undef, undef, undef, undef, undef, undef, undef, undef, undef, undef, undef, undef, undef, undef, undef, undef, undef, undef], defers := [] }) ?assign ?body ?done ?stop
  case fact =>
    rintro j W ⟨o', v, l, hi⟩
    exact ⟨by rw [hi.b4.cells]; rfl, o', hi.rep.1, bm, hi.rep.2⟩
  case start =>
    intro d r
    have hch : ∀ L, Chg L wB o0 ((wB.alloc d).alloc r) o0 := fun L => ((Chg.refl L wB o0).alloc d).alloc r
    have e := (hch []).keep
    exact ⟨o0, _, _, hst.read, hst.len, hst.le, hst.chg.trans (hch [t]), hst.rep.chg (hch []) (off_nil _) (off_nil _), hst.b1.chg (hch []) (off_nil _), hst.b2.chg (hch []) (off_nil _), hst.b3.chg (hch []) (off_nil _), hst.b4.chg (hch []) (off_nil _), hst.row.chg (hch []) (off_nil _), hst.rb⟩
  case assign =>
    intro l j W K hK hm
    simp only [rowEnc]
    gi_wp2
    exact hK
  case body =>
    rintro l j W hlt ⟨o', v, ll, hi⟩ hm
    obtain ⟨c, hc⟩ := Option.isSome_iff_exists.1 hm
    have hc1 := hi.b1.cells
    have hc2 := hi.b2.cells
    have hc3 := hi.b3.cells
    have hf3 := hi.b3.free
    have hlen := hi.len
    by_cases hn : n ≤ j
    · have hInv := Lib.hid hi
      obtain ⟨A, nn, cp, rfl⟩ := hi.row.shape3
      have hnn : nn = j := by
        rcases hi.row.form with ⟨h1, h2⟩ | ⟨g, cap, cur, h1, _⟩
        · injection h1 with _ h1 _; have := congrArg List.length h2; simp only [List.length_map, List.length_nil] at this; omega
        · injection h1 with _ h1 _; simp only [List.length_map] at h1; omega
      subst hnn
      clear hi
      gi_wp2
      exact ⟨rfl, KeepsFrom.refl _ _, ⟨o', _, ll, hInv.out⟩, hn⟩
    · obtain ⟨hw, hat, hmp⟩ := hi.rep
      have hc' := hc
      unfold In.next at hc
      obtain ⟨hw2, hcb⟩ := In.step_wf hw hc
      have hre := In.adv_read I j
      have hto := In.adv_top I j
      have hsr := hw2.rt
      have hst2 : (In.adv j I).step.read = I.read + j + 1 := by rw [← hre]; rfl
      have hst3 : (In.adv j I).step.top = I.top := by rw [← hto]; rfl
      have htm := hw.tm
      have hwin := hw.win
      have htw := hw.tw
      have hrej : I.read + j + 1 ≤ I.top := by have := hw.tm; omega
      have hll : ll.length ≤ 4611686018427387903 := by omega
      have hnat : j ≤ 100000000 := by
        have := hwf0.win; have := hwf0.tw; omega
      -- the temporary of the one byte
      have hW1 := At.new W o' (5 :: s) (Obj.cells #[Value.int .u8 c] 5)
      have hch1 := ((Chg.refl [] W o').alloc (Obj.cells #[Value.int .u8 c] 5)).tag (Nat.le_refl _) (5 :: s)
      generalize hWa : W.alloc (Obj.cells #[Value.int .u8 c] 5) = Wa at hW1 hch1
      generalize hoa : o'.upd W.heap.size (5 :: s) = oa at hW1 hch1
      have hsl : Sl Wa oa (5 :: s) (.slice (some ⟨W.heap.size, 0, none⟩) 1 1) ([c].map bv) := ⟨_, 1, rfl, by simp, by simp [maxLen], by simp, fun _ => ⟨_, 0, rfl, hW1.2, fun x hx => by simp at hx; subst hx; rw [hW1.cells]; rfl⟩⟩
      have hsza : Wa.heap.size = W.heap.size + 1 := by rw [← hWa]; simp
      have hWsz := hi.chg.size
      obtain ⟨v', Wb, ob, hrun, hrow, hg, hold, hnew⟩ := append_bytes_new w.heap.size Wa 42 (by omega) (hi.row.chg hch1 (off_nil _)) hi.rb hsl (by simp; omega)
      obtain ⟨A2, n2, c2, rfl⟩ := hrow.shape3
      have hch2 : Chg [0 :: s] Wa oa Wb ob := (Chg.refl _ Wa oa).grown' hg hold fun g hg' => .inr (by
        have := (hi.row.chg hch1 (off_nil _)).2 g hg'
        rw [this]; exact on_self _)
      have hs2' : off [0 :: s] t := off_one.2 fun hh => off_one.1 hs2 ((List.suffix_cons 0 s).trans hh)
      have hs3' : off [0 :: s] (0 :: t) := off_one.2 fun hh => off_one.1 hs3 ((List.suffix_cons 0 s).trans hh)
      have k1 := (hi.b1.chg hch1 (off_nil _)).chg hch2 (off_sib s (by decide))
      have k2 := (hi.b2.chg hch1 (off_nil _)).chg hch2 (off_sib s (by decide))
      have k3 := (hi.b3.chg hch1 (off_nil _)).chg hch2 (off_sib s (by decide))
      have k4 := (hi.b4.chg hch1 (off_nil _)).chg hch2 (off_sib s (by decide))
      have kat := (hat.chg hch1 (off_nil _)).chg hch2 hs2'
      have kmp := (hmp.chg hch1 (off_nil _)).chg hch2 hs3'
      have kch := (hi.chg.trans (hch1.mono fun _ _ => off_nil _)).grown' hg hold fun g hg' => .inl (hi.rb g hg')
      have kf : KeepsFrom wB.heap.size W Wb := by
        refine (((KeepsOthers.alloc W _).trans (?_ : KeepsOthers (W.alloc (Obj.cells #[Value.int .u8 c] 5)) Wb)).from _)
        rw [hWa]
        refine KeepsOthers.of_grownBy hg fun g ob' hg' hob => ?_
        rcases (hi.row.chg hch1 (off_nil _)).form with ⟨rfl, _⟩ | ⟨g2, cap, cur, rfl, hg2, _⟩
        · simp [Value.ownBlock] at hg'
        · simp [Value.ownBlock] at hg'
          subst hg'
          rw [hg2.1] at hob
          cases hob; rfl
      -- the out box, the place that is read next, the map
      have m1 := k1.far (p := ⟨w.heap.size + 1 + 1, 0, none⟩) (by simp <;> omega) (.slice A2 n2 c2)
      have m2 := k2.far (p := ⟨w.heap.size + 1 + 1, 0, none⟩) (by simp <;> omega) (.slice A2 n2 c2)
      have m3 := k3.set 0 (.slice A2 n2 c2)
      have m4 := k4.far (p := ⟨w.heap.size + 1 + 1, 0, none⟩) (by simp <;> omega) (.slice A2 n2 c2)
      have mat := kat.far (p := ⟨w.heap.size + 1 + 1, 0, none⟩) (by simp <;> omega) (.slice A2 n2 c2)
      have mmp := kmp.far2 (p := ⟨w.heap.size + 1 + 1, 0, none⟩) (by simp <;> omega) (.slice A2 n2 c2)
      have mrow := hrow.far (p := ⟨w.heap.size + 1 + 1, 0, none⟩) (by rw [k3.2]; simp) (.slice A2 n2 c2)
      have mch := kch.setCell (p := ⟨w.heap.size + 1 + 1, 0, none⟩) (.slice A2 n2 c2) (.inl (by simp <;> omega))
      have kf2 := kf.trans ((KeepsOthers.setCell Wb ⟨w.heap.size + 1 + 1, 0, none⟩ (.slice A2 n2 c2)).from wB.heap.size)
      generalize hWc : Wb.setCell ⟨w.heap.size + 1 + 1, 0, none⟩ (.slice A2 n2 c2) = Wc at m1 m2 m3 m4 mat mmp mrow mch kf2
      have X1 := m1.far (p := ⟨k, 1, none⟩) (by simp <;> omega) (.int .u64 ((I.read : Int) + j + 1))
      have X2 := m2.far (p := ⟨k, 1, none⟩) (by simp <;> omega) (.int .u64 ((I.read : Int) + j + 1))
      have X3 := m3.far (p := ⟨k, 1, none⟩) (by simp <;> omega) (.int .u64 ((I.read : Int) + j + 1))
      have X4 := m4.far (p := ⟨k, 1, none⟩) (by simp <;> omega) (.int .u64 ((I.read : Int) + j + 1))
      have Xat := mat.set 1 (.int .u64 ((I.read : Int) + j + 1))
      have Xmp := mmp.far (p := ⟨k, 1, none⟩) (by rw [mat.2]; exact tag_ne t 0) (.int .u64 ((I.read : Int) + j + 1))
      have Xrow := mrow.far (p := ⟨k, 1, none⟩) (by rw [mat.2]; intro e; rw [e] at hs2'; exact on_self _ hs2') (.int .u64 ((I.read : Int) + j + 1))
      have Xch := mch.setCell (p := ⟨k, 1, none⟩) (.int .u64 ((I.read : Int) + j + 1)) (.inr (by rw [hat0.2]; exact on_self t))
      have kf3 := kf2.trans ((KeepsOthers.setCell Wc ⟨k, 1, none⟩ (.int .u64 ((I.read : Int) + j + 1))).from wB.heap.size)
      have hcat := kat.cells
      have hfat := kat.free
      have hcm := mat.cells
      have hfm := mat.free
      have hcm1 := m1.cells
      have hcXat := Xat.cells
      have hcX1 := X1.cells
      generalize hWd : Wc.setCell ⟨k, 1, none⟩ (.int .u64 ((I.read : Int) + j + 1)) = Wd at X1 X2 X3 X4 Xat Xmp Xrow Xch kf3 hcXat hcX1
      obtain ⟨obj, hdel, Xmp2⟩ := run_delete (P := Tryz.prog) (V := bv) (PlainKey.int Tryz.underlying26) Tryz.underlying130 Xmp (In.adv j I).read 0 26
      have e1 : natKey .u64 (In.adv j I).read = .int .u64 ((I.read : Int) + j) := by rw [hre]; simp [natKey]
      rw [e1] at hdel
      have hIn : j < n := by omega
      obtain ⟨A, nn, cp, rfl⟩ := hi.row.shape3
      have hnn : nn = j := by
        rcases hi.row.form with ⟨h1, h2⟩ | ⟨g, cap, cur, h1, _⟩
        · injection h1 with _ h1 _; have := congrArg List.length h2; simp only [List.length_map, List.length_nil] at this; omega
        · injection h1 with _ h1 _; simp only [List.length_map] at h1; omega
      subst hnn
      have hle2 : (I.read : Int) + nn + 1 ≤ 4611686018427387903 := by omega
      have hread : ∀ m, I.readN (nn + 1 + m) = (ll ++ [c] ++ ((In.adv (nn + 1) I).readN m).1, ((In.adv (nn + 1) I).readN m).2) := by
        intro m
        have := hi.read (m + 1)
        rw [show nn + (m + 1) = nn + 1 + m from by omega] at this
        rw [this]
        simp only [In.readN, hc, In.adv]
        simp
      have hRead := Lib.hid hread; clear hread
      have hFin : RowKit.Hid (∀ W', W' = setOb Wd bm obj → KeepsFrom wB.heap.size W W' ∧ ∃ o' v l, ReadInv bm w o t k s I n (nn + 1) o' v l W') := by
        intro W' hW'
        subst hW'
        refine ⟨kf3.trans (KeepsFrom.of_grownBy (row := some bm) ⟨rfl, rfl, rfl, by rw [setOb_size]; exact Nat.le_refl _, fun q hq hne => setOb_heap _ _ _ _ (fun e => hne (by rw [e]))⟩ (fun q hq => by cases hq; omega)), ob, (.slice A2 n2 c2), ll ++ [c], ?_⟩
        have hkb : k ≠ bm := by
          rintro rfl
          exact absurd (hat0.2.symm.trans hmap0.tag_) (tag_ne t 0)
        have e2 : (Value.int .u64 ((I.read : Int) + nn + 1)) = .int .u64 ((In.adv nn I).step.read : Nat) := by rw [hst2]; simp
        have Xat2 := Xat.setOb hkb obj
        rw [e2] at Xat2
        exact ⟨hRead.out, by simp [hlen], by omega, Xch.setOb obj (.inr (by rw [hmap0.tag_]; exact on_child 0 t)), ⟨hw2, Xat2, Xmp2⟩, X1.setOb (by omega) obj, X2.setOb (by omega) obj, X3.setOb (by omega) obj, X4.setOb (by omega) obj,
          Xrow.setOb' (fun g hg' => by have := hnew g hg'; omega) obj, hnew⟩
      clear Xmp2 X1 X2 X3 X4 Xat Xmp Xrow Xch kf3 kf2 kf mrow mch mmp hrow kch kmp hch2 hch1 hW1 hsl
      subst hWd
      subst hWc
      subst hWa
      simp only [hc', Option.getD_some]
      have z1 := k1.cells
      have z3 := k3.cells
      have zf3 := k3.free
      clear hn hcm hfm hcm1 hcXat hcX1 k1 k2 k3 k4 m1 m2 m3 m4 mat hold hnew hg hwin htw hto hsr hst2 hst3 hre hw2 hcb hw hat hmp hi hc hc' hsz hlt hm
      iterate 20 (first | go_values | gi_guarded | gi_step | gi_upon)
      rw [show decide (n ≤ (nn : Int)) = false from decide_eq_false (by omega)]
      iterate 15 (first | go_values | gi_guarded | gi_step | gi_upon)
      refine wpListIn_append_step _ rfl _ _ _ _ rfl _ _ rfl rfl _ _ hrun ?_
      clear hrun
      iterate 50 (first | go_values | gi_guarded | gi_step | gi_upon)
      exact hFin.out _ rfl
  case done =>
    rintro j W hm ⟨o', v, ll, hi⟩ hK
    have hc3 := hi.b3.cells
    have hd := hi.done (.inl (by simpa using hm))
    have hi' := Lib.hid hi; clear hi
    gi_wp2
    refine ⟨by simp, .inl ⟨_, _, rfl, run_takeDeferred hK, ?_⟩⟩
    refine ⟨_, results_tmp rfl _ _ _, v, o', rfl, hi'.out.chg.putObj _ (by omega), ?_, ?_⟩
    · rw [hd]; have hq := hi'.out.rep.putObj hK rfl (by intro _ _ h; cases h) (.deferred none); exact ⟨hq.1, bm, hq.2⟩
    · rw [hd]; exact hi'.out.row.putObj hK rfl _
  case stop =>
    rintro j W hm ⟨⟨o', v, ll, hi⟩, hn⟩ hK
    have hc3 := hi.b3.cells
    have hd := hi.done (.inr hn)
    have hi' := Lib.hid hi; clear hi
    gi_wp2
    refine ⟨by simp, .inl ⟨_, _, rfl, run_takeDeferred hK, ?_⟩⟩
    refine ⟨_, results_tmp rfl _ _ _, v, o', rfl, hi'.out.chg.putObj _ (by omega), ?_, ?_⟩
    · rw [hd]; have hq := hi'.out.rep.putObj hK rfl (by intro _ _ h; cases h) (.deferred none); exact ⟨hq.1, bm, hq.2⟩
    · rw [hd]; exact hi'.out.row.putObj hK rfl _
end Go.Proofs.YthliihmhkhabeaaGreatDoor
/- The streams' table: parameters, what may be, whose a stream is. No condition. -/
namespace Go.Proofs.YthliihmhkhabeaaGreatDoor
open Go Go.RowKit

/-- Parameters. -/
structure Par where
  idle : Nat
  data : Nat
  stream : Nat
  streams : Nat
  has : Bool
  tok : Nat → Nat

structure Par.Wf (p : Par) : Prop where
  i64 : p.idle < 18446744073709551616
  d64 : p.data < 18446744073709551616
  s64 : p.stream < 18446744073709551616
  n64 : p.streams < 18446744073709551616
  t8 : ∀ i, p.tok i < 256

def Par.cells (p : Par) : Array Value := #[.int .u64 p.idle, .int .u64 p.data, .int .u64 p.stream, .int .u64 p.streams, .bool p.has, bv (p.tok 0), bv (p.tok 1), bv (p.tok 2), bv (p.tok 3), bv (p.tok 4), bv (p.tok 5), bv (p.tok 6), bv (p.tok 7), bv (p.tok 8), bv (p.tok 9), bv (p.tok 10), bv (p.tok 11), bv (p.tok 12), bv (p.tok 13), bv (p.tok 14), bv (p.tok 15)]
def Par.val (p : Par) : Value := .agg p.cells
def Par.zeroTok (p : Par) : Bool := (List.range 16).all fun i => p.tok i == 0
def Par.may (p : Par) : Bool := decide (p.idle ≤ 4611686018427387903 ∧ p.data ≤ 4611686018427387903 ∧ p.stream ≤ 4611686018427387903) && decide (p.streams ≤ 1152921504606846976) && (p.has || p.zeroTok)

theorem part_byte {P : Program} {e : TypeId} (hagg : ∀ w, (isAgg e).run P w = .ok false w) (xs : List Nat) (j x : Nat) (hx : xs[j]? = some x) (w : World) : (part e (xs.map bv).toArray j).run P w = .ok (bv x) w := by
  unfold part
  simp [Sem.run_bind, hagg, Result.andThen, hx]

theorem run_equalIn_bytes {P : Program} (t e : TypeId) (n d : Nat) (i : TypeInfo) (ht : P.underlying t = some (.array n e)) (he : P.underlying e = some (.int .u8)) (hi : P.info? e = some i) (hs : i.size = 1) (hagg : ∀ w, (isAgg e).run P w = .ok false w) (xs ys : List Nat) (hx : xs.length = n) (hy : ys.length = n) (w : World) :
    (Op.equalIn (d + 2) t (.agg (xs.map bv).toArray) (.agg (ys.map bv).toArray)).run P w = .ok (decide (xs = ys)) w := by
  unfold Op.equalIn
  simp only [Sem.run_bind, run_underlying ht, Result.andThen_ok, sizeOf, typeInfo, hi, Sem.run_pure, run_program, hs, Nat.mul_one]
  rw [Std.Legacy.Range.forIn_eq_forIn_range']
  simp only [Std.Legacy.Range.size, Nat.sub_zero, Nat.add_sub_cancel, Nat.div_one]
  have key : ∀ m a, a + m = n → (∀ j, j < a → xs[j]? = ys[j]?) → 
      (((forIn (List.range' a m) ((none : Option Bool), ()) fun i __s => do
              let __do_lift ← part e (List.map bv xs).toArray i
              let __do_lift_1 ← part e (List.map bv ys).toArray i
              let __do_lift ← Op.equalIn (d + 1) e __do_lift __do_lift_1
              if (!__do_lift) = true then pure (ForInStep.done (some false, ())) else pure (ForInStep.yield (none, ()))) : Sem _).run P w) = .ok (if xs = ys then (none, ()) else (some false, ())) w := by
    intro m
    induction m with
    | zero => 
      intro a ha hj
      have : xs = ys := List.ext_getElem? fun j => by
        by_cases h : j < a
        · exact hj j h
        · rw [List.getElem?_eq_none (by omega), List.getElem?_eq_none (by omega)]
      simp [this]
    | succ m ih =>
      intro a ha hj
      obtain ⟨x, hxa⟩ : ∃ x, xs[a]? = some x := ⟨xs[a]'(by omega), List.getElem?_eq_getElem _⟩
      obtain ⟨y, hya⟩ : ∃ y, ys[a]? = some y := ⟨ys[a]'(by omega), List.getElem?_eq_getElem _⟩
      simp only [List.range'_succ, List.forIn_cons, Sem.run_bind, part_byte hagg xs a x hxa, part_byte hagg ys a y hya, Result.andThen_ok]
      simp only [bv, run_equalIn_int w d e .u8 .u8 (x : Int) (y : Int) he, Result.andThen_ok]
      by_cases hxy : x = y
      · subst hxy
        simp only [beq_self_eq_true, Bool.not_true, Bool.false_eq_true, if_false, Sem.run_pure, Result.andThen_ok]
        exact ih (a + 1) (by omega) fun j hj2 => by
          by_cases h : j < a
          · exact hj j h
          · rw [show j = a from by omega, hxa, hya]
      · have h1 : ((x : Int) == y) = false := by simp; omega
        have h2 : xs ≠ ys := fun h => hxy (by rw [h, hya] at hxa; exact (Option.some.inj hxa).symm)
        simp [h1, h2]
  have := key n 0 (by omega) (fun j hj => by omega)
  rw [this]
  by_cases h : xs = ys <;> simp [h, Result.andThen]

theorem Par.zeroTok_iff (p : Par) : p.zeroTok = decide ([p.tok 0, p.tok 1, p.tok 2, p.tok 3, p.tok 4, p.tok 5, p.tok 6, p.tok 7, p.tok 8, p.tok 9, p.tok 10, p.tok 11, p.tok 12, p.tok 13, p.tok 14, p.tok 15] = List.replicate 16 0) := by
  rw [Bool.eq_iff_iff]
  simp [Par.zeroTok, List.range, List.range.loop, List.replicate]

theorem aggU8 : ∀ w, (isAgg 5).run Tryz.prog w = .ok false w := fun w => by
  have := Tryz.isAgg5
  simp [this]

theorem tokEq (p : Par) (w : World) : (Op.equalIn 10000 27 (.agg #[bv (p.tok 0), bv (p.tok 1), bv (p.tok 2), bv (p.tok 3), bv (p.tok 4), bv (p.tok 5), bv (p.tok 6), bv (p.tok 7), bv (p.tok 8), bv (p.tok 9), bv (p.tok 10), bv (p.tok 11), bv (p.tok 12), bv (p.tok 13), bv (p.tok 14), bv (p.tok 15)])
      (.agg #[.int .u8 0, .int .u8 0, .int .u8 0, .int .u8 0, .int .u8 0, .int .u8 0, .int .u8 0, .int .u8 0, .int .u8 0, .int .u8 0, .int .u8 0, .int .u8 0, .int .u8 0, .int .u8 0, .int .u8 0, .int .u8 0])).run Tryz.prog w = .ok p.zeroTok w := by
  obtain ⟨i, hi, _, hs, _⟩ := infoU8'
  rw [Par.zeroTok_iff]
  exact run_equalIn_bytes 27 5 16 9998 i Tryz.underlying27 Tryz.underlying5 hi hs aggU8 [p.tok 0, p.tok 1, p.tok 2, p.tok 3, p.tok 4, p.tok 5, p.tok 6, p.tok 7, p.tok 8, p.tok 9, p.tok 10, p.tok 11, p.tok 12, p.tok 13, p.tok 14, p.tok 15] (List.replicate 16 0) rfl rfl w

set_option maxRecDepth 100000 in
theorem PMay_ok {w : World} (p : Par) :
    Calls Tryz.prog 27 #[p.val] w fun e w' => e = .returned (.bool p.may) ∧ w' = w.alloc (.cells p.cells 29) := by
  have hm : p.may = (decide (p.idle ≤ 4611686018427387903 ∧ p.data ≤ 4611686018427387903 ∧ p.stream ≤ 4611686018427387903) && decide (p.streams ≤ 1152921504606846976) && (p.has || p.zeroTok)) := rfl
  generalize p.may = r at hm ⊢
  unfold Par.val Par.cells
  by_cases h1 : p.idle ≤ 4611686018427387903 ∧ p.data ≤ 4611686018427387903 ∧ p.stream ≤ 4611686018427387903
  · rw [decide_eq_true h1, Bool.true_and] at hm
    by_cases h2 : p.streams ≤ 1152921504606846976
    · rw [decide_eq_true h2, Bool.true_and] at hm
      cases hh : p.has with
      | true =>
        rw [hh, Bool.true_or] at hm
        subst hm
        go_enter Tryz.func27, Tryz.ntmps27
        go_wp2
        all_goals
          go_ret
          exact ⟨rfl, rfl⟩
      | false =>
        rw [hh, Bool.false_or] at hm
        have ht := tokEq p
        rw [← hm] at ht
        clear hm
        go_enter Tryz.func27, Tryz.ntmps27
        go_wp2
        all_goals
          go_ret
          exact ⟨rfl, rfl⟩
    · rw [decide_eq_false h2, Bool.false_and] at hm
      subst hm
      go_enter Tryz.func27, Tryz.ntmps27
      go_wp2
      all_goals
        go_ret
        exact ⟨rfl, rfl⟩
  · rw [decide_eq_false h1, Bool.false_and, Bool.false_and] at hm
    subst hm
    go_enter Tryz.func27, Tryz.ntmps27
    go_wp2
    all_goals first
      | (go_ret; exact ⟨rfl, rfl⟩)
      | (exfalso; omega)
end Go.Proofs.YthliihmhkhabeaaGreatDoor
