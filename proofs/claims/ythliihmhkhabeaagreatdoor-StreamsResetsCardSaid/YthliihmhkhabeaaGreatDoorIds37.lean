/- The streams' table, XXIII: Ids: all streams, sorted. Condition: there are at most 100,000,000. -/
import Derived.Test.YthliihmhkhabeaaGreatDoorIds33
import Derived.Test.YthliihmhkhabeaaGreatDoorIds36
import Derived.Test.YthliihmhkhabeaaGreatDoorIds18
namespace Go.Proofs.YthliihmhkhabeaaGreatDoor
open Go Go.RowKit

set_option maxRecDepth 100000 in
theorem Keys_ok {w : World} (bm : Nat) :
    Calls Tryz.prog 31 #[.map (some bm)] w fun e w' => e = .returned (.func (.func 61) #[] #[.pointer (some ⟨w.heap.size, 0, none⟩)]) ∧ w' = w.alloc (.cells #[.map (some bm)] 72) := by
  go_enter Tryz.func31, Tryz.ntmps31
  go_wp2
  go_ret
  exact ⟨rfl, rfl⟩

section
variable {w : World} (o : Own) (s : Tag) (bx bm clk : Nat) (blk : Nat → Nat) (m : List (Nat × St)) (es : List MapEntry) (hkv : es.map ekv = stKV blk m) (hlt : ∀ e ∈ es, e.born < clk) (hnd : (es.map (·.born)).Nodup) (hf : KeysFact bx bm clk es w) (hlen : m.length ≤ 100000000)
include hkv hlt hnd hf hlen
set_option maxRecDepth 100000 in
theorem Collect_ok :
    Calls Tryz.prog 59 #[.func (.func 61) #[] #[.pointer (some ⟨bx, 0, none⟩)]] w fun e w' => KeysPost w o s (m.map (·.1)) e w' := by
  have HA := Lib.hid (AppendSeq_ok o s bx bm clk blk m es hkv hlt hnd hf hlen)
  clear hkv hlt hnd hf
  go_enter Tryz.func59, Tryz.ntmps59
  go_wp2_with (go_at_call 86; refine HA.out.mono ?_; rintro e w' ⟨v, pre, o', rfl, h1, h2, h3, h4⟩; have H1 := Lib.hid h1; have H2 := Lib.hid h2; have H3 := Lib.hid h3; have H4 := Lib.hid h4; clear h1 h2 h3 h4)
  go_ret
  exact ⟨v, pre, o', rfl, H1.out, H2.out, H3.out, H4.out⟩

def SortedPost (w : World) (o : Own) (s : Tag) (keys : List Nat) (e : Ending) (w' : World) : Prop :=
  ∃ (v : Value) (o' : Own), e = .returned v ∧ Row w' o' (0 :: s) 26 v ((sortN keys).map uv) ∧ Chg [] w o w' o'

set_option maxRecDepth 100000 in
theorem Sorted_ok :
    Calls Tryz.prog 30 #[.func (.func 61) #[] #[.pointer (some ⟨bx, 0, none⟩)]] w fun e w' => SortedPost w o s (m.map (·.1)) e w' := by
  have HA := Lib.hid (Collect_ok o s bx bm clk blk m es hkv hlt hnd hf hlen)
  have HL := Lib.hid hlen
  clear hkv hlt hnd hf hlen
  go_enter Tryz.func30, Tryz.ntmps30
  go_wp2_with (first
    | (go_at_call 59; refine HA.out.mono ?_; rintro e w1 ⟨v, pre, o1, rfl, h1, h2, h3, h4⟩
       have HS := Lib.hid (SortRow_ok h2 (by have := h1.length_eq; have := HL.out; simp at *; omega))
       have H1 := Lib.hid h1; have H3 := Lib.hid h3; have H4 := Lib.hid h4; clear h1 h2 h3 h4)
    | (go_at_call 60; refine HS.out.mono ?_; rintro e w2 ⟨rfl, h5, h6⟩; have H5 := Lib.hid h5; have H6 := Lib.hid h6; clear h5 h6))
  go_ret
  refine ⟨v, o1, rfl, ?_, H3.out.grown H6.out fun g hg => .inl (H4.out g hg)⟩
  rw [← sortN_perm H1.out]
  exact H5.out
end

def Tb.ids (T : Tb) : List Nat := sortN (T.m.map (·.1))
set_option maxRecDepth 100000 in
theorem Ids_ok {w : World} {o : Own} {t : Tag} (s : Tag) {k : Nat} {T : Tb} (h : TbRep w o t k T) (hl : T.m.length ≤ 100000000) :
    Calls Tryz.prog 12 #[ptr k] w fun e w' => SortedPost w o s (T.m.map (·.1)) e w' := by
  obtain ⟨bm, blk, hT⟩ := h
  obtain ⟨hw, hat, ⟨es, clk, hm, hkv, hlt, hnd⟩, hss⟩ := hT
  have hc := hat.cells
  unfold Tb.cells at hc
  have hch := ((Chg.refl [] w o).alloc (.cells #[.map (some bm)] 72)).tag (Nat.le_refl _) []
  have hf : KeysFact w.heap.size bm clk es.toList (w.alloc (.cells #[.map (some bm)] 72)) := by
    refine ⟨cell_newC w _ _ 0, ?_⟩
    rw [Array.toArray_toList]
    exact (hm.chg hch (off_nil _)).1
  have HS := Lib.hid (Sorted_ok (o.upd w.heap.size []) s w.heap.size bm clk blk T.m es.toList hkv hlt hnd hf hl)
  have HK := Lib.hid (Keys_ok (w := w) bm)
  have Hch := Lib.hid hch
  clear hkv hlt hnd hf hl hss hm hch hw hat
  unfold ptr
  go_enter Tryz.func12, Tryz.ntmps12
  go_wp2_with (first
    | (go_at_call 31; refine HK.out.mono ?_; rintro e w1 ⟨rfl, rfl⟩)
    | (go_at_call 30; refine HS.out.mono ?_; rintro e w2 ⟨v, o2, rfl, h1, h2⟩; have H1 := Lib.hid h1; have H2 := Lib.hid h2; clear h1 h2))
  go_ret
  exact ⟨v, o2, rfl, H1.out, Hch.out.trans H2.out⟩
set_option maxRecDepth 100000 in
theorem Ids_nil {w : World} : Calls Tryz.prog 12 #[.pointer none] w fun e w' => e = .returned (.slice none 0 0) ∧ w = w' := by
  go_enter Tryz.func12, Tryz.ntmps12
  go_wp2
  go_ret
  exact ⟨rfl, rfl⟩
end Go.Proofs.YthliihmhkhabeaaGreatDoor
/- The streams' table, XXIV: Peer, plain part. No condition. -/
namespace Go.Proofs.YthliihmhkhabeaaGreatDoor
open Go Go.RowKit

/-- The streams of these numbers turned. -/
def Tb.vis (T : Tb) (f : St → St) (l : List Nat) : Tb := { T with m := T.m.map fun q => if q.1 ∈ l then (q.1, f q.2) else q }
theorem visFst (m : List (Nat × St)) (f : St → St) (l : List Nat) : (m.map fun q => if q.1 ∈ l then (q.1, f q.2) else q).map (·.1) = m.map (·.1) := by
  rw [List.map_map]
  apply List.map_congr_left
  intro q _
  simp only [Function.comp]
  split <;> rfl
theorem vis_mget (f : St → St) (l : List Nat) : ∀ (m : List (Nat × St)) (id : Nat) (s : St), mget m id = some s → id ∉ l → mget (m.map fun q => if q.1 ∈ l then (q.1, f q.2) else q) id = some s
  | [], id, s, h, _ => by cases h
  | p :: m, id, s, h, hl => by
    unfold mget at h
    simp only [List.map_cons]
    by_cases hp : p.1 = id
    · rw [if_pos hp] at h
      rw [if_neg (by rw [hp]; exact hl)]
      unfold mget
      rw [if_pos hp]; exact h
    · rw [if_neg hp] at h
      have ih := vis_mget f l m id s h hl
      unfold mget
      rw [if_neg (by split <;> exact hp)]
      exact ih
theorem vis_mset (f : St → St) (l : List Nat) : ∀ (m : List (Nat × St)) (id : Nat) (s : St), (m.map (·.1)).Nodup → mget m id = some s →
    mset (m.map fun q => if q.1 ∈ l then (q.1, f q.2) else q) id (f s) = m.map fun q => if q.1 ∈ l ++ [id] then (q.1, f q.2) else q
  | [], id, s, _, h => by cases h
  | p :: m, id, s, hn, h => by
    simp only [List.map_cons, List.nodup_cons] at hn
    unfold mget at h
    simp only [List.map_cons]
    unfold mset
    by_cases hp : p.1 = id
    · rw [if_pos hp] at h
      cases h
      rw [if_pos (by split <;> exact hp), if_pos (by simp [hp])]
      congr 1
      · rw [hp]
      · apply List.map_congr_left
        intro q hq
        have : q.1 ≠ id := fun e => hn.1 (by rw [hp, ← e]; exact List.mem_map.2 ⟨q, hq, rfl⟩)
        simp [this]
    · rw [if_neg hp] at h
      rw [if_neg (by split <;> exact hp), vis_mset f l m id s hn.2 h]
      congr 1
      simp [hp]

def Tb.lims (T : Tb) (p : Par) : Tb := { T with lim0 := max T.lim0 (min p.streams 40), lim1 := max T.lim1 (min p.streams 40) }
def St.upto (x : Nat) (s : St) : St := { s with max := Max.max s.max x }
def Tb.peer (T : Tb) (p : Par) : Tb := if p.may then
    { T with data := max T.data p.data, stream := max T.stream p.stream, lim0 := max T.lim0 (min p.streams 40), lim1 := max T.lim1 (min p.streams 40), m := T.m.map fun q => (q.1, q.2.upto (max T.stream p.stream)) } else T

def NoPost (w : World) (o : Own) (t : Tag) (k : Nat) (T : Tb) (e : Ending) (w' : World) : Prop :=
  ∃ o', e = .returned (.tuple #[]) ∧ TbRep w' o' t k T ∧ Chg [t] w o w' o'

structure PeerInv (w : World) (o : Own) (t : Tag) (k bm : Nat) (blk : Nat → Nat) (T : Tb) (f : St → St) (it clk : Nat) (es : List MapEntry) (vis : List Nat) (o' : Own) (left : List MapEntry) (last : Option Nat) (wr : World) : Prop where
  tb : TbAt wr o' t k bm blk (T.vis f vis)
  chg : Chg [t] w o wr o'
  iter : Iter wr o' (side t) it bm es clk left last
  nd : (left.map (·.born)).Nodup
  sub : ∀ e ∈ left, e ∈ es
  perm : (vis ++ left.map keyN).Perm (T.m.map (·.1))
  mp : wr.heap[bm]? = some (.map es.toArray clk)

theorem vis_nil (T : Tb) (f : St → St) : T.vis f [] = T := by unfold Tb.vis; simp
theorem vis_all (T : Tb) (f : St → St) {l : List Nat} (h : l.Perm (T.m.map (·.1))) : T.vis f l = { T with m := T.m.map fun q => (q.1, f q.2) } := by
  unfold Tb.vis
  congr 1
  apply List.map_congr_left
  intro q hq
  rw [if_pos (h.mem_iff.2 (List.mem_map.2 ⟨q, hq, rfl⟩))]

/-- One more entry has come. -/
theorem PeerInv.next {w wr : World} {o o' : Own} {t : Tag} {k bm it clk : Nat} {blk : Nat → Nat} {T : Tb} {f : St → St} {es : List MapEntry} {vis : List Nat} {left : List MapEntry} {last : Option Nat} (h : PeerInv w o t k bm blk T f it clk es vis o' left last wr) (hnd : (T.m.map (·.1)).Nodup)
    (hkv : es.map ekv = stKV blk T.m) {e : MapEntry} (he : e ∈ left) {n : Nat} {x : Obj} (hi : Iter (setOb (wr.drewN n) it x) o' (side t) it bm es clk (left.filter fun y => decide (y.born ≠ e.born)) (some e.born)) :
    ∃ id s ko ki bt, e.key = natKey .u64 id ∧ e.val = ptr (blk id) ∧ mget (T.vis f vis).m id = some s ∧ mget T.m id = some s ∧ TbAt (setOb (wr.drewN n) it x) o' t k bm blk (T.vis f vis) ∧ StAt (setOb (wr.drewN n) it x) o' ((id + 1) :: t) (blk id) (s.cells ko ki bt) ko ki bt s.out s.inn s.tell ∧ (setOb (wr.drewN n) it x).heap[bm]? = some (.map es.toArray clk) ∧
      (∀ W', Chg [(id + 1) :: t] (setOb (wr.drewN n) it x) o' W' o' → StRep W' o' ((id + 1) :: t) (blk id) (f s) → PeerInv w o t k bm blk T f it clk es (vis ++ [id]) o' (left.filter fun y => decide (y.born ≠ e.born)) (some e.born) W') := by
  obtain ⟨p, hp, hk, hv⟩ := entry_of hkv (h.sub e he)
  have hkN : keyN e = p.1 := by unfold keyN; rw [hk]; simp [natKey]
  have hpm := left_perm h.nd he
  have hp2 : (vis ++ p.1 :: (left.filter fun y => decide (y.born ≠ e.born)).map keyN).Perm (T.m.map (·.1)) := by
    refine List.Perm.trans ?_ h.perm
    refine List.Perm.append_left vis ?_
    have := (hpm.map keyN).symm
    simp only [List.map_cons, hkN] at this
    exact this
  have hnv : p.1 ∉ vis := by
    have := hp2.nodup_iff.2 hnd
    rw [List.nodup_append] at this
    intro hm
    exact this.2.2 _ hm _ List.mem_cons_self rfl
  have hg : mget T.m p.1 = some p.2 := mget_mem hnd hp
  have hgv := vis_mget f vis T.m p.1 p.2 hg hnv
  have hit : Chg [side t] wr o' (setOb (wr.drewN n) it x) o' := ((Chg.refl _ wr o').drewN n).setOb x (.inr (by
    obtain ⟨seen, h1, _⟩ := h.iter
    rw [h1.2]; exact on_self _))
  have htb := h.tb.side hit
  obtain ⟨ko, ki, bt, hst⟩ := (htb.st hgv).at'
  have hbm : bm ≠ it := by
    rintro rfl
    obtain ⟨seen, h1, _⟩ := h.iter
    have := h1.1
    rw [h.mp] at this; cases this
  have hmp : (setOb (wr.drewN n) it x).heap[bm]? = some (.map es.toArray clk) := by rw [setOb_heap _ _ _ _ hbm]; exact h.mp
  have hmt : o' bm = 0 :: t := htb.2.2.1.tag_
  refine ⟨p.1, p.2, ko, ki, bt, hk, hv, hgv, hg, htb, hst, hmp, fun W' hc hs => ?_⟩
  obtain ⟨x1, x2⟩ := htb.turn hgv hc hs
  have hid := h.tb.1.id64 (p.1, p.2) (mem_of_mget hgv)
  refine ⟨?_, (h.chg.trans (hit.up (List.suffix_cons _ _))).trans x2, hi.chg hc (off_sib _ (by simp only at hid; omega)), h.nd.sublist ((List.filter_sublist).map _), fun y hy => h.sub y (List.mem_filter.1 hy).1, ?_, ?_⟩
  · have e1 : ({ T.vis f vis with m := mset (T.vis f vis).m p.1 (f p.2) } : Tb) = T.vis f (vis ++ [p.1]) := by
      unfold Tb.vis
      simp only
      rw [vis_mset f vis T.m p.1 p.2 hnd hg]
    rw [← e1]; exact x1
  · rw [List.append_assoc]; exact hp2
  · rw [← hmp]
    exact (hc.keep bm (Array.getElem?_eq_some_iff.1 hmp).1 (by rw [hmt]; exact off_sib _ (by omega))).1
end Go.Proofs.YthliihmhkhabeaaGreatDoor
/- The streams' table, XXV: Peer, walked. No condition. -/
namespace Go.Proofs.YthliihmhkhabeaaGreatDoor
open Go Go.RowKit

theorem wpList_load_mid_g {P : Program} {ops : Array Oper} {rest : List Oper} {op : Oper} {a : Act} {w : World} {Q : Exit → Act → World → Prop} (hgd : Region.wanted op (yielded ops a.tmps) = true) (ty : TypeId) (x : Operand) (ho : op.op = .load ty x)
    (b o : Nat) (hx : a.eval x = .pointer (some ⟨b, o, none⟩)) (cs : List Value) (d : TypeDesc) (hc : w.rangeAt b o cs)
    (hu : P.underlying ty = some d) (hd : d.isRow = true) (hi : (P.info? ty).map (·.size) = some cs.length)
    (h : wpList P ops Q rest (a.put op.dst (.agg cs.toArray)) w) : wpList P ops Q (op :: rest) a w :=
  wpList_step fun _ hK => by rw [if_pos hgd]; exact wp_load_mid ty x ho b o hx cs d hc hu hd hi (hK _ _ h)

set_option maxRecDepth 100000 in
theorem peerNo' {w : World} (o : Own) (k : Nat) (C : Array Value) (hsz : (Tryz.prog.info? 29).map (·.size) = some C.toList.length) (H : RowKit.Hid (∀ w, Calls Tryz.prog 27 #[.agg C] w fun e w' => e = .returned (.bool false) ∧ w' = w.alloc (.cells C 29))) :
    Calls Tryz.prog 10 #[ptr k, .agg C] w fun e w' => e = .returned (.tuple #[]) ∧ Chg [] w o w' o := by
  have hr := Lib.hid (parRange w C 29)
  have Hsz := Lib.hid hsz; clear hsz
  unfold ptr
  go_enter Tryz.func10, Tryz.ntmps10
  go_wp2_with (first
    | (refine wpList_load_mid_g (P := Tryz.prog) rfl 29 _ rfl w.heap.size 0 rfl C.toList _ hr.out Tryz.underlying29 rfl Hsz.out ?_; simp only [Array.toArray_toList])
    | (go_at_call 27; refine (H.out _).mono ?_; rintro e w' ⟨rfl, rfl⟩))
  refine bodyPost_ret (results_none rfl _ _ _) rfl ?_
  exact ⟨rfl, ((Chg.refl [] w o).alloc _).alloc _⟩

/-- Between the two limits. -/
def Tb.limsUpto (T : Tb) (p : Par) (i : Nat) : Tb := { T with lim0 := if 1 ≤ i then max T.lim0 (min p.streams 40) else T.lim0, lim1 := if 2 ≤ i then max T.lim1 (min p.streams 40) else T.lim1 }
def Tb.ds (T : Tb) (p : Par) : Tb := { T with data := max T.data p.data, stream := max T.stream p.stream }

theorem ds_wf {T : Tb} (h : T.Wf) {p : Par} (hp : p.Wf) (i : Nat) : ((T.ds p).limsUpto p i).Wf := by
  have a0 := h.o0; have a1 := h.o1; have a2 := h.o2; have a3 := h.o3; have l0 := h.l0; have l1 := h.l1
  have d1 := h.data64; have d2 := hp.d64; have s1 := h.stream64; have s2 := hp.s64
  refine ⟨h.own, h.d100, h.s100, h.n60, ?_, ?_, ?_, ?_, ?_, ?_, ?_, ?_, h.read64, h.nd, h.id64⟩ <;> simp only [Tb.limsUpto, Tb.ds] <;> (try split) <;> omega
theorem limStep {w wr : World} {o o' : Own} {t : Tag} {k bm B : Nat} {blk : Nat → Nat} {T : Tb} {p : Par} {C : Array Value} (i x : Nat) (ht : t ≠ []) (hw : ((T.ds p).limsUpto p (i + 1)).Wf) (hT : TbAt wr o' t k bm blk ((T.ds p).limsUpto p i)) (hB : At wr o' B [] (.cells C 29 (0, 0))) (hC : Chg [t] w o wr o') (hok : ¬ off [t] (o k) ∨ w.heap.size ≤ k)
    (hc : (((T.ds p).limsUpto p i).cells bm).setIfInBounds (27 + i) (.int .u64 x) = ((T.ds p).limsUpto p (i + 1)).cells bm) :
    TbAt ((wr.setCell ⟨k, 27 + i, none⟩ (.int .u64 x)).drew) o' t k bm blk ((T.ds p).limsUpto p (i + 1)) ∧ At ((wr.setCell ⟨k, 27 + i, none⟩ (.int .u64 x)).drew) o' B [] (.cells C 29 (0, 0)) ∧ Chg [t] w o ((wr.setCell ⟨k, 27 + i, none⟩ (.int .u64 x)).drew) o' := by
  have hkt := hT.2.1.2
  have hkb : B ≠ k := by rintro rfl; rw [hB.2] at hkt; exact ht hkt.symm
  exact ⟨(hT.store hw rfl (27 + i) _ hc).drewN 1, (hB.far (p := ⟨k, 27 + i, none⟩) hkb _).drew, (hC.setCell (p := ⟨k, 27 + i, none⟩) _ (by rcases hok with h | h; exact .inr h; exact .inl h)).drew⟩

set_option maxHeartbeats 1000000 in
set_option maxRecDepth 100000 in
theorem Peer_yes {w : World} {o : Own} {t : Tag} (ht : t ≠ []) {k : Nat} {T : Tb} (h : TbRep w o t k T) (p : Par) (hp : p.Wf) (hm : p.may = true) :
    Calls Tryz.prog 10 #[ptr k, p.val] w fun e w' => NoPost w o t k (T.peer p) e w' := by
  obtain ⟨bm, blk, hT⟩ := h
  have hWf := hT.1
  have HP : RowKit.Hid (∀ w, Calls Tryz.prog 27 #[.agg p.cells] w fun e w' => e = .returned (.bool true) ∧ w' = w.alloc (.cells p.cells 29)) := Lib.hid fun w => by have := PMay_ok (w := w) p; rw [hm] at this; exact this
  have Hsz : RowKit.Hid ((Tryz.prog.info? 29).map (·.size) = some p.cells.toList.length) := infoPP
  have hr := Lib.hid (parRange w p.cells 29)
  have ha := (At.new w o [] (.cells p.cells 29)).alloc (.cells p.cells 29)
  have hch := ((((Chg.refl [] w o).alloc (.cells p.cells 29)).tag (Nat.le_refl _) []).alloc (.cells p.cells 29))
  have e1 : p.cells[1]? = some (.int .u64 p.data) := rfl
  have e2 : p.cells[2]? = some (.int .u64 p.stream) := rfl
  have e3 : p.cells[3]? = some (.int .u64 p.streams) := rfl
  have hp1 := hp.d64; have hp2 := hp.s64; have hp3 := hp.n64
  have Hhr := hr
  unfold Par.val ptr
  generalize hC : p.cells = C at *
  clear hC
  obtain ⟨W, hW⟩ : ∃ W, W = (w.alloc (.cells C 29)).alloc (.cells C 29) := ⟨_, rfl⟩
  rw [← hW] at ha hch
  have hTW := hT.chg hch (fun _ _ => off_nil _)
  have b1 : W.cell? ⟨w.heap.size, 1, none⟩ = some (.int .u64 p.data) := by rw [ha.cells]; exact e1
  have b2 : W.cell? ⟨w.heap.size, 2, none⟩ = some (.int .u64 p.stream) := by rw [ha.cells]; exact e2
  have hc := hTW.2.1.cells
  have hff := hTW.2.1.free
  unfold Tb.cells at hc
  have BAT := Lib.hid ha; have HCH := Lib.hid hch; have HTW := Lib.hid hTW; have E3 := Lib.hid e3
  have hdI : max (T.data : Int) (p.data : Int) = ((max T.data p.data : Nat) : Int) := by omega
  have hsI : max (T.stream : Int) (p.stream : Int) = ((max T.stream p.stream : Nat) : Int) := by omega
  have hA : RowKit.Hid (TbAt (((W.setCell ⟨k, 30, none⟩ (.int .u64 (max (T.data : Int) (p.data : Int)))).setCell ⟨k, 29, none⟩ (.int .u64 (max (T.stream : Int) (p.stream : Int)))).drew) (o.upd w.heap.size []) t k bm blk (T.ds p) ∧ Chg [t] w o (((W.setCell ⟨k, 30, none⟩ (.int .u64 (max (T.data : Int) (p.data : Int)))).setCell ⟨k, 29, none⟩ (.int .u64 (max (T.stream : Int) (p.stream : Int)))).drew) (o.upd w.heap.size [])) := by
    have hkt := hTW.2.1.2
    have h1 := hTW.store (T' := { T with data := max T.data p.data }) ⟨hWf.own, hWf.d100, hWf.s100, hWf.n60, hWf.o0, hWf.o1, hWf.o2, hWf.o3, hWf.l0, hWf.l1, hWf.stream64, by have := hWf.data64; simp only; omega, hWf.read64, hWf.nd, hWf.id64⟩ rfl 30 (.int .u64 (max (T.data : Int) (p.data : Int))) (by rw [hdI]; rfl)
    have h2 := h1.store (T' := T.ds p) ⟨hWf.own, hWf.d100, hWf.s100, hWf.n60, hWf.o0, hWf.o1, hWf.o2, hWf.o3, hWf.l0, hWf.l1, by have := hWf.stream64; simp only [Tb.ds]; omega, by have := hWf.data64; simp only [Tb.ds]; omega, hWf.read64, hWf.nd, hWf.id64⟩ rfl 29 (.int .u64 (max (T.stream : Int) (p.stream : Int))) (by rw [hsI]; rfl)
    have hka : ¬ off [t] (o k) := by rw [hT.2.1.2]; exact on_self t
    exact ⟨h2.drewN 1, ((hch.of_nil.setCell _ (.inr hka)).setCell _ (.inr hka)).drewN 1⟩
  have HWF := Lib.hid (fun i => ds_wf (T := T) hWf hp i)
  have hok : ¬ off [t] (o k) ∨ w.heap.size ≤ k := .inl (by rw [hT.2.1.2]; exact on_self t)
  have HOK := Lib.hid hok
  have HPM := Lib.hid hm
  clear hT hWf hm hp ha hch hTW e1 e2 e3 hdI hsI hok
  go_enter Tryz.func10, Tryz.ntmps10
  go_upto_region 2 with (first
    | (refine wpList_load_mid_g (P := Tryz.prog) rfl 29 _ rfl w.heap.size 0 rfl C.toList _ hr.out Tryz.underlying29 rfl Hsz.out ?_; simp only [Array.toArray_toList])
    | (go_at_call 27; refine (HP.out _).mono ?_; rintro e w' ⟨rfl, rfl⟩))
  rw [← hW]
  clear hW
  go_region
  go_upto_region 3 with fail
  have hA2 := hA.out.1
  have hA3 := hA.out.2
  have hbx : At (((W.setCell ⟨k, 30, none⟩ (.int .u64 (max (T.data : Int) (p.data : Int)))).setCell ⟨k, 29, none⟩ (.int .u64 (max (T.stream : Int) (p.stream : Int)))).drew) (o.upd w.heap.size []) w.heap.size [] (.cells C 29 (0, 0)) := by
    have hkt := HTW.out.2.1.2
    have hkb : w.heap.size ≠ k := by rintro rfl; rw [BAT.out.2] at hkt; exact ht hkt.symm
    exact ((BAT.out.far (p := ⟨k, 30, none⟩) hkb _).far (p := ⟨k, 29, none⟩) hkb _).drew
  generalize ((W.setCell ⟨k, 30, none⟩ (.int .u64 (max (T.data : Int) (p.data : Int)))).setCell ⟨k, 29, none⟩ (.int .u64 (max (T.stream : Int) (p.stream : Int)))).drew = W2 at hA2 hA3 hbx ⊢
  have HA2 := Lib.hid hA2; have HA3 := Lib.hid hA3; have HBX := Lib.hid hbx
  clear hA hA2 hA3 hbx hc hff b1 b2 BAT HTW HCH hr Hhr Hsz HP
  have HT := Lib.hid ht
  clear ht
  go_wp2
  go_loopw [34] (fun v wr => ∃ i : Nat, v = .int .i64 i ∧ i ≤ 2 ∧ RowKit.Hid (TbAt wr (o.upd w.heap.size []) t k bm blk ((T.ds p).limsUpto p i)) ∧ RowKit.Hid (At wr (o.upd w.heap.size []) w.heap.size [] (.cells C 29 (0, 0))) ∧ RowKit.Hid (Chg [t] w o wr (o.upd w.heap.size []))) (fun v _ => 2 - (intOf v).toNat)
  case atStart => exact ⟨0, by simp, by omega, HA2.out, HBX.out, HA3.out⟩
  case round =>
    obtain ⟨i, rfl, hi, hT, hB, hC⟩ := hrel
    clear HA2 HA3 HBX
    have hcx := hT.out.2.1.cells
    have hfx := hT.out.2.1.free
    have b3 : wr.cell? ⟨w.heap.size, 3, none⟩ = some (.int .u64 p.streams) := by rw [hB.out.cells]; exact E3.out
    unfold Tb.cells Tb.limsUpto Tb.ds at hcx
    have hi3 : i = 0 ∨ i = 1 ∨ i = 2 := by omega
    clear hi
    rcases hi3 with rfl | rfl | rfl
    · simp only at hcx
      go_wp2
      go_region
      all_goals go_wp2
      go_roundw
      case rel =>
        have := limStep (i := 0) (x := max T.lim0 (min p.streams 40)) HT.out (HWF.out 1) hT.out hB.out hC.out HOK.out rfl
        have e : (((max T.lim0 (min p.streams 40) : Nat) : Int)) = max (↑T.lim0) (min (↑p.streams) 40) := by omega
        rw [e] at this
        exact ⟨1, rfl, by omega, this.1, this.2.1, this.2.2⟩
      case measure => simp [intOf]
    · simp only at hcx
      go_wp2
      go_region
      all_goals go_wp2
      go_roundw
      case rel =>
        have := limStep (i := 1) (x := max T.lim1 (min p.streams 40)) HT.out (HWF.out 2) hT.out hB.out hC.out HOK.out rfl
        have e : (((max T.lim1 (min p.streams 40) : Nat) : Int)) = max (↑T.lim1) (min (↑p.streams) 40) := by omega
        rw [e] at this
        exact ⟨2, rfl, by omega, this.1, this.2.1, this.2.2⟩
      case measure => simp [intOf]
    · clear b3 hB hfx
      obtain ⟨hw2, hat2, ⟨es, clk, hm2, hkv, hlt, hnd⟩, hss2⟩ := id hT.out
      have hrg := run_range_map (P := Tryz.prog) Tryz.underlying72 hm2.1
      have hit0 := Iter.start wr (o.upd w.heap.size []) (side t) bm clk es.toList
      have hcit := (((Chg.refl [] wr (o.upd w.heap.size [])).alloc (.mapIter (some bm) clk #[] clk)).tag (Nat.le_refl _) (side t))
      have hst0 : RowKit.Hid (PeerInv w o t k bm blk ((T.ds p).limsUpto p 2) (St.upto (max T.stream p.stream)) wr.heap.size clk es.toList [] ((o.upd w.heap.size []).upd wr.heap.size (side t)) es.toList none (wr.alloc (.mapIter (some bm) clk #[] clk))) :=
        ⟨by rw [vis_nil]; exact hT.out.chg hcit (fun _ _ => off_nil _), hC.out.trans hcit.of_nil, hit0, hnd, fun e he => he, by rw [List.nil_append, keyN_of hkv], by
          rw [Array.toArray_toList]
          exact (hcit.keep bm hm2.lt (off_nil _)).1.trans hm2.1⟩
      have Hlt := Lib.hid hlt; have Hkv := Lib.hid hkv; have Hnd := Lib.hid hnd; have Hm2 := Lib.hid hm2.1; have Hw2 := Lib.hid hw2.nd
      clear hlt hkv hnd hm2 hw2 hat2 hss2 hit0 hcit hT hC
      generalize (o.upd w.heap.size []).upd wr.heap.size (side t) = o2 at *
      go_wp2
      clear hcx hrg
      generalize hT2 : (T.ds p).limsUpto p 2 = T2 at *
      have hT2s : T2.stream = max T.stream p.stream := by rw [← hT2]; rfl
      have HT2 : RowKit.Hid ((T.ds p).limsUpto p 2 = T2) := hT2
      have HPE : RowKit.Hid ({ T2 with m := T2.m.map fun q => (q.1, q.2.upto (max T.stream p.stream)) } = T.peer p) := by
        show _ = _
        unfold Tb.peer
        rw [HPM.out, if_pos rfl, ← hT2]
        rfl
      clear hT2
      obtain ⟨xs, hxs⟩ : ∃ xs, xs = max T.stream p.stream := ⟨_, rfl⟩
      rw [← hxs] at hT2s hst0 HPE
      have hxs64 : xs < 18446744073709551616 := by rw [hxs]; exact (HWF.out 2).stream64
      clear hxs
      obtain ⟨it, hit⟩ : ∃ it, it = wr.heap.size := ⟨_, rfl⟩
      rw [← hit] at hst0 ⊢
      clear hit
      go_loopw [6] (fun _ wr2 => ∃ vis left last, PeerInv w o t k bm blk T2 (St.upto xs) it clk es.toList vis o2 left last wr2) (fun _ wr2 => leftLen it es.toList wr2)
      case atStart => exact ⟨_, _, _, hst0.out⟩
      case round =>
        obtain ⟨vis, left, last, hinv⟩ := hrel
        have hb := hinv.mp
        by_cases hl : left = []
        · have hnx := fun ty => run_next_end (P := Tryz.prog) ty hinv.iter hl hb Hlt.out
          have hp := hinv.perm
          rw [hl] at hp
          simp only [List.map_nil, List.append_nil] at hp
          have htb := hinv.tb
          rw [vis_all _ _ hp, HPE.out] at htb
          have HTB := Lib.hid htb; have HCH := Lib.hid hinv.chg
          clear hinv hp htb hb hl
          go_wp2
          go_end0
          exact ⟨o2, rfl, ⟨bm, blk, HTB.out⟩, HCH.out⟩
        · obtain ⟨e, he, n, x, hrun, hi⟩ := run_next_more (P := Tryz.prog) 0 hinv.iter hl hb Hlt.out
          obtain ⟨id, s, ko, ki, bt, hk, hv, hgv, hg, htb, hst, hmp, hnext⟩ := hinv.next (Hw2.out) Hkv.out he hi
          have hen := run_entry (P := Tryz.prog) hi (hinv.sub e he) rfl hmp Hnd.out
          have hlen : RowKit.Hid (∀ W' last', PeerInv w o t k bm blk T2 (St.upto xs) it clk es.toList (vis ++ [id]) o2 (left.filter fun y => decide (y.born ≠ e.born)) last' W' → leftLen it es.toList W' < leftLen it es.toList wr) := by
            show ∀ _ _, _ → _
            intro W' last' h'
            rw [h'.iter.len, hinv.iter.len]
            have := (left_perm hinv.nd he).length_eq
            simp only [List.length_cons] at this
            omega
          have c1 := htb.2.1.cells
          have c2 := hst.at_.cells
          have c3 := hst.at_.free
          unfold Tb.cells Tb.vis at c1
          simp only [hT2s] at c1
          unfold St.cells at c2
          rw [hk, hv] at hrun hen
          simp only [natKey, ptr] at hrun hen
          have HS := Lib.hid hst; have HN := Lib.hid hnext
          have HSW := Lib.hid (htb.st hgv).1
          clear hinv hi hb he hl hk hv hgv hg htb hst hmp hnext
          go_wp2
          go_region
          all_goals go_wp2
          have HF : RowKit.Hid (PeerInv w o t k bm blk T2 (St.upto xs) it clk es.toList (vis ++ [id]) o2 (left.filter fun y => decide (y.born ≠ e.born)) (some e.born) ((setOb (wr.drewN n) it x).setCell { block := blk id, off := 2 } (Value.int IntKind.u64 (max (s.max : Int) (xs : Int)))).drew) := by
            have hsw := HSW.out
            have h1 := (HS.out.set 2 (.int .u64 (max (s.max : Int) (xs : Int)))).drewN 1
            refine HN.out _ (((Chg.refl _ _ o2).setCell _ (.inr HS.out.at_.on)).drewN 1) (StAt.rep (ko := ko) (ki := ki) (bt := bt) ⟨?_, hsw.given64, hsw.code64, hsw.in264, hsw.stop64, hsw.taken64, hsw.tk⟩ ?_)
            · have := hsw.max64; simp only [St.upto]; omega
            · have e : (max (s.max : Int) (xs : Int)) = ((Max.max s.max xs : Nat) : Int) := by omega
              rw [e] at h1 ⊢
              exact h1
          go_roundw
          case rel => exact ⟨_, _, _, HF.out⟩
          case measure => exact hlen.out _ _ HF.out
end Go.Proofs.YthliihmhkhabeaaGreatDoor
/- The streams' table, XXVI: Peer, Acks, Held. Conditions: as told at each. -/
namespace Go.Proofs.YthliihmhkhabeaaGreatDoor
open Go Go.RowKit

theorem Peer_ok {w : World} {o : Own} {t : Tag} (ht : t ≠ []) {k : Nat} {T : Tb} (h : TbRep w o t k T) (p : Par) (hp : p.Wf) :
    Calls Tryz.prog 10 #[ptr k, p.val] w fun e w' => NoPost w o t k (T.peer p) e w' := by
  cases hm : p.may with
  | true => exact Peer_yes ht h p hp hm
  | false =>
    have := peerNo' (w := w) o k p.cells infoPP (Lib.hid fun w => by have := PMay_ok (w := w) p; rw [hm] at this; exact this)
    refine Calls.mono this ?_
    rintro e w' ⟨rfl, hc⟩
    refine ⟨o, rfl, ?_, hc.of_nil⟩
    rw [show T.peer p = T by unfold Tb.peer; rw [hm]; rfl]
    exact h.chg hc fun _ _ => off_nil _

set_option maxRecDepth 100000 in
theorem OHad_nil {w : World} (off n : Nat) (_hn : n ≤ 1000000000000) :
    Calls Tryz.prog 55 #[.pointer none, .int .u64 off, .int .i64 n] w fun e w' => e = .returned (.bool false) ∧ w = w' := by
  go_enter Tryz.func55, Tryz.ntmps55
  go_wp2
  go_ret
  exact ⟨rfl, rfl⟩
def hadO (O : Option Out) (off n : Nat) : Bool := match O with
  | none => false
  | some O => O.had off n
theorem OHad_opt {w : World} {o : Own} {t : Tag} {ko : Option Nat} {O : Option Out} (h : OutOpt w o t ko O) (off n : Nat) (hoff : off < 18446744073709551616) (hn : n ≤ 1000000000000) :
    Calls Tryz.prog 55 #[optPtr ko, .int .u64 off, .int .i64 n] w fun e w' => e = .returned (.bool (hadO O off n)) ∧ w = w' := by
  cases ko with
  | none =>
    cases O with
    | none => exact OHad_nil off n hn
    | some O => exact h.elim
  | some ko =>
    cases O with
    | none => exact h.elim
    | some O => exact OHad_ok h off n hoff hn
def heldO : Option In → Nat
  | none => 0
  | some I => I.m.length
theorem RHeld_opt {w : World} {o : Own} {t : Tag} {ki : Option Nat} {I : Option In} (h : InOpt w o t ki I) :
    Calls Tryz.prog 51 #[optPtr ki] w fun e w' => e = .returned (.int .i64 (heldO I : Nat)) ∧ w = w' := by
  cases ki with
  | none =>
    cases I with
    | none => exact RHeld_nil
    | some I => exact h.elim
  | some ki =>
    cases I with
    | none => exact h.elim
    | some I => exact RHeld_ok h
theorem held_le {w : World} {o : Own} {t : Tag} {ki : Option Nat} {I : Option In} (h : InOpt w o t ki I) : heldO I ≤ 100000 := by
  cases I with
  | none => exact Nat.zero_le _
  | some I =>
    obtain ⟨_, _, hI⟩ := h.some'
    have hw := hI.1
    have hsub : ∀ p ∈ I.m.map (·.1), p ∈ List.range' I.read (I.top - I.read) := by
      intro p hp
      obtain ⟨q, hq, rfl⟩ := List.mem_map.1 hp
      have := hw.keys q hq
      rw [List.mem_range'_1]
      omega
    have := List.Nodup.length_le_of_subset hw.nd hsub
    rw [List.length_map, List.length_range'] at this
    have h1 := hw.tw; have h2 := hw.win
    show I.m.length ≤ 100000
    omega

def Tb.acks (T : Tb) (id off n : Nat) : Bool := match mget T.m id with
  | none => false
  | some s => hadO s.out off n
set_option maxRecDepth 100000 in
theorem TAcks_ok {w : World} {o : Own} {t : Tag} {k : Nat} {T : Tb} (h : TbRep w o t k T) (id off n : Nat) (hoff : off < 18446744073709551616) (hn : n ≤ 1000000000000) :
    Calls Tryz.prog 26 #[ptr k, .int .u64 id, .int .u64 off, .int .i64 n] w fun e w' => e = .returned (.bool (T.acks id off n)) ∧ w = w' := by
  obtain ⟨bm, blk, h⟩ := h
  have hl := h.look id
  have hc := h.2.1.cells
  unfold Tb.cells at hc
  unfold Tb.blkOf optPtr at hl
  unfold Tb.acks ptr
  cases hs : mget T.m id with
  | none =>
    rw [hs] at hl
    simp only [Option.map_none] at hl
    clear hs h
    go_enter Tryz.func26, Tryz.ntmps26
    go_wp2
    go_ret
    exact ⟨rfl, rfl⟩
  | some s =>
    obtain ⟨ko, ki, bt, hst⟩ := (h.st hs).at'
    have hcs := hst.at_.cells
    unfold St.cells at hcs
    rw [hs] at hl
    simp only [Option.map_some, ptr] at hl
    have HH := Lib.hid (OHad_opt hst.out off n hoff hn)
    clear hs hst h
    go_enter Tryz.func26, Tryz.ntmps26
    go_wp2_with (go_at_call 55; refine HH.out.mono ?_; rintro e w' ⟨rfl, rfl⟩)
    go_ret
    exact ⟨rfl, rfl⟩

def Tb.heldAt (T : Tb) (id : Nat) : Nat := match mget T.m id with
  | none => 0
  | some s => if s.over then 0 else heldO s.inn
def Tb.held (T : Tb) : Nat := (T.ids.map T.heldAt).sum

theorem ids_mem {T : Tb} {j id : Nat} (h : T.ids[j]? = some id) : ∃ s, mget T.m id = some s := by
  have hm := List.mem_of_getElem? h
  have hp := (sortN_p (T.m.map (·.1))).mem_iff.1 hm
  obtain ⟨p, hq, rfl⟩ := List.mem_map.1 hp
  cases hg : mget T.m p.1 with
  | some s => exact ⟨s, rfl⟩
  | none => exact absurd (List.mem_map.2 ⟨p, hq, rfl⟩) ((mget_none T.m p.1).1 hg)
theorem ids_len (T : Tb) : T.ids.length = T.m.length := by
  unfold Tb.ids; rw [(sortN_p _).length_eq, List.length_map]
theorem held_bound {w : World} {o : Own} {t : Tag} {k bm : Nat} {blk : Nat → Nat} {T : Tb} (h : TbAt w o t k bm blk T) (id : Nat) : T.heldAt id ≤ 100000 := by
  unfold Tb.heldAt
  cases hs : mget T.m id with
  | none => exact Nat.zero_le _
  | some s =>
    obtain ⟨ko, ki, bt, hst⟩ := (h.st hs).at'
    have := held_le hst.inn
    simp only
    split <;> omega
theorem sum_bound (f : Nat → Nat) (B : Nat) (h : ∀ x, f x ≤ B) : ∀ l : List Nat, (l.map f).sum ≤ l.length * B
  | [] => by simp
  | x :: l => by
    have := sum_bound f B h l
    have := h x
    simp only [List.map_cons, List.sum_cons, List.length_cons, Nat.succ_mul]
    omega
theorem sum_take (l : List Nat) (f : Nat → Nat) (j id : Nat) (h : l[j]? = some id) : ((l.take (j + 1)).map f).sum = ((l.take j).map f).sum + f id := by
  rw [List.take_add_one, h]
  simp

set_option maxHeartbeats 400000 in
set_option maxRecDepth 100000 in
theorem THeld_ok {w : World} {o : Own} {t : Tag} {k : Nat} {T : Tb} (h : TbRep w o t k T) (hl : T.m.length ≤ 100000000) :
    Calls Tryz.prog 21 #[ptr k] w fun e w' => e = .returned (.int .i64 (T.held : Nat)) ∧ ∃ o', Chg [] w o w' o' := by
  have HI := Lib.hid (Ids_ok [] h hl)
  obtain ⟨bm, blk, hT⟩ := h
  have HT := Lib.hid hT
  have hlen := ids_len T
  unfold ptr at HI ⊢
  clear hT
  go_enter Tryz.func21, Tryz.ntmps21
  go_wp2_with (go_at_call 12; refine HI.out.mono ?_; rintro e w1 ⟨v, o1, rfl, hr, hch⟩; have HR := Lib.hid hr.sl; have HC := Lib.hid hch; obtain ⟨A, c, rfl, -⟩ := id hr.sl; clear hr hch)
  simp only [List.length_map] at HR ⊢
  have hids : sortN (T.m.map (·.1)) = T.ids := rfl
  rw [hids] at HR ⊢
  have HT1 := Lib.hid (HT.out.chg HC.out fun _ _ => off_nil _)
  clear hids
  have hn : T.ids.length ≤ 100000000 := by omega
  clear hlen hl HI
  go_loopw [10, 3] (fun x y wr => ∃ j : Nat, x = .int .i64 j ∧ y = .int .i64 (((T.ids.take j).map T.heldAt).sum : Nat) ∧ j ≤ T.ids.length ∧ w1 = wr) (fun x _ _ => T.ids.length - (intOf x).toNat)
  case atStart => exact ⟨0, by simp, by simp, by omega, rfl⟩
  case round =>
    obtain ⟨j, rfl, rfl, hj, rfl⟩ := hrel
    have hsb := sum_bound T.heldAt 100000 (held_bound HT1.out) (T.ids.take j)
    have hsb2 : ((T.ids.take j).map T.heldAt).sum ≤ 100000000 * 100000 := Nat.le_trans hsb (Nat.mul_le_mul_right _ (by rw [List.length_take]; omega))
    clear hsb
    by_cases hlt : j < T.ids.length
    · obtain ⟨A2, c2, he, hcap, -, -, hcell⟩ := HR.out
      obtain ⟨b, f, hA, -, hx⟩ := hcell (by rw [List.length_map]; omega)
      injection he with he1 he0 he2
      clear he0
      subst he1; subst he2; subst hA
      have hxj := hx j (by rw [List.length_map]; exact hlt)
      obtain ⟨id, hid⟩ : ∃ id, T.ids[j]? = some id := ⟨_, List.getElem?_eq_getElem hlt⟩
      rw [List.getElem?_map, hid] at hxj
      simp only [Option.map_some, uv] at hxj
      obtain ⟨s, hs⟩ := ids_mem hid
      have hst0 := HT1.out.st hs
      obtain ⟨ko, ki, bt, hst⟩ := hst0.at'
      have hcs := hst.at_.cells
      unfold St.cells at hcs
      have hlk := HT1.out.look id
      unfold Tb.blkOf optPtr at hlk
      rw [hs] at hlk
      simp only [Option.map_some, ptr] at hlk
      have hc1 := HT1.out.2.1.cells
      unfold Tb.cells at hc1
      have hst1 := sum_take T.ids T.heldAt j id hid
      have hha : T.heldAt id = if s.over then 0 else heldO s.inn := by unfold Tb.heldAt; rw [hs]
      have HH := Lib.hid (RHeld_opt hst.inn)
      have hhb := held_le hst.inn
      rw [List.length_map] at hcap
      have HS1 := Lib.hid hst1; have HID := Lib.hid hid
      generalize hsum : ((T.ids.take j).map T.heldAt).sum = sm at *
      have HSUM := Lib.hid hsum
      clear hst0 hst hs hx hcell hst1 hid hsum
      cases hov : s.over with
      | true =>
        rw [hov] at hcs hha
        simp only [if_true] at hha
        have HHA := Lib.hid hha; clear hha
        go_wp2
        go_roundw
        case rel => exact ⟨j + 1, by go_num, by rw [HS1.out, HHA.out]; rfl, by omega, trivial⟩
        case measure => simp [intOf]; omega
      | false =>
        rw [hov] at hcs hha
        simp only [Bool.false_eq_true, if_false] at hha
        have HHA := Lib.hid hha; clear hha
        go_wp2_with (go_at_call 51; refine HH.out.mono ?_; rintro e w' ⟨rfl, rfl⟩)
        go_roundw
        case rel => exact ⟨j + 1, by go_num, by rw [HS1.out, HHA.out]; go_num, by omega, trivial⟩
        case measure => simp [intOf]; omega
    · obtain rfl : j = T.ids.length := by omega
      have hfin : ((T.ids.take T.ids.length).map T.heldAt).sum = T.held := by rw [List.take_length]; rfl
      rw [hfin] at hsb2 ⊢
      have hge : ¬ ((T.ids.length : Int) < T.ids.length) := by omega
      go_wp2
      go_ret
      exact ⟨rfl, o1, HC.out⟩
end Go.Proofs.YthliihmhkhabeaaGreatDoor
/- The streams' table, XXVII: Acked. No condition. -/
namespace Go.Proofs.YthliihmhkhabeaaGreatDoor
open Go Go.RowKit

def told (s : St) (k : Nat) : Bool := (mget s.tell k).getD false
def St.ackedReset (s : St) : St := { s with done := s.reset, tell := mset s.tell 4 (told s 4 && !s.reset) }
def Tb.acked (T : Tb) (f : Fr) : Tb := match mget T.m f.id with
  | none => T
  | some s => match s.out with
    | none => T
    | some O => if f.kind = 8 then T.set f.id { s with out := some (O.ack f.a f.data.length f.flag) } else if f.kind = 4 then T.set f.id s.ackedReset else T

/-- A stream's out part was turned. -/
theorem outTurn {w2 w3 : World} {o2 o3 : Own} {t : Tag} {k bm bt kO id : Nat} {ki : Option Nat} {blk : Nat → Nat} {T : Tb} {s : St} {O' : Out} (hT : TbAt w2 o2 t k bm blk T) (hs : mget T.m id = some s)
    (hst : StAt w2 o2 ((id + 1) :: t) (blk id) (s.cells (some kO) ki bt) (some kO) ki bt s.out s.inn s.tell) (hc : Chg [0 :: (id + 1) :: t] w2 o2 w3 o3) (hO : OutRep w3 o3 (0 :: (id + 1) :: t) kO O') :
    TbAt w3 o3 t k bm blk (T.set id { s with out := some O' }) ∧ Chg [t] w2 o2 w3 o3 := by
  have hsw := (hT.st hs).1
  have h1 := hst.outs hc (out' := some O') hO
  exact hT.turn hs (hc.up (List.suffix_cons _ _)) (s' := { s with out := some O' }) (StAt.rep ⟨hsw.max64, hsw.given64, hsw.code64, hsw.in264, hsw.stop64, hsw.taken64, hsw.tk⟩ h1)

/-- A reset was acked. -/
theorem resetAcked {U : World} {o2 : Own} {t : Tag} {k bm bt id : Nat} {ko ki : Option Nat} {blk : Nat → Nat} {T : Tb} {s : St} (b : Bool) (hT : TbAt U o2 t k bm blk T) (hs : mget T.m id = some s)
    (hst : StAt U o2 ((id + 1) :: t) (blk id) (s.cells ko ki bt) ko ki bt s.out s.inn s.tell) :
    StAt ((U.setCell ⟨blk id, 10, none⟩ (.bool s.reset)).drewN 1) o2 ((id + 1) :: t) (blk id) (({ s with done := s.reset } : St).cells ko ki bt) ko ki bt s.out s.inn s.tell ∧
    ∃ ob, (Instr.mapUpdate 79 (.map (some bt)) (.int .i64 4) (.bool b)).run Tryz.prog ((U.setCell ⟨blk id, 10, none⟩ (.bool s.reset)).drewN 1) = .ok () (setOb ((U.setCell ⟨blk id, 10, none⟩ (.bool s.reset)).drewN 1) bt ob) ∧
      TbAt (setOb ((U.setCell ⟨blk id, 10, none⟩ (.bool s.reset)).drewN 1) bt ob) o2 t k bm blk (T.set id { s with done := s.reset, tell := mset s.tell 4 b }) ∧ Chg [t] U o2 (setOb ((U.setCell ⟨blk id, 10, none⟩ (.bool s.reset)).drewN 1) bt ob) o2 := by
  have hsw := (hT.st hs).1
  have h1 : StAt ((U.setCell ⟨blk id, 10, none⟩ (.bool s.reset)).drewN 1) o2 ((id + 1) :: t) (blk id) (({ s with done := s.reset } : St).cells ko ki bt) ko ki bt s.out s.inn s.tell := (hst.set 10 (.bool s.reset)).drewN 1
  obtain ⟨ob, h2, h3, h4⟩ := h1.update 4 4 rfl b
  have hc : Chg [(id + 1) :: t] U o2 ((U.setCell ⟨blk id, 10, none⟩ (.bool s.reset)).drewN 1) o2 := ((Chg.refl _ U o2).setCell _ (.inr hst.at_.on)).drewN 1
  have hx := hT.turn hs (hc.trans (h4.up (List.suffix_cons _ _))) (s' := { s with done := s.reset, tell := mset s.tell 4 b }) (StAt.rep (ko := ko) (ki := ki) (bt := bt) ⟨hsw.max64, hsw.given64, hsw.code64, hsw.in264, hsw.stop64, hsw.taken64, mset_nodup _ _ _ hsw.tk⟩ h3)
  exact ⟨h1, ob, h2, hx.1, hx.2⟩

set_option maxHeartbeats 4000000 in
set_option maxRecDepth 100000 in
theorem TAcked_ok {w : World} {o : Own} {t s' : Tag} (_ht : t ≠ []) {k : Nat} {T : Tb} (h : TbRep w o t k T) (f : Fr) (hf : f.Wf) (dv rv : Value) (hd : Sl w o s' dv (f.data.map bv)) (hl : f.data.length ≤ 1000000000000) :
    Calls Tryz.prog 24 #[ptr k, .agg (f.cells dv rv)] w fun e w' => NoPost w o t k (T.acked f) e w' := by
  obtain ⟨bm, blk, h⟩ := h
  obtain ⟨C, W, hB⟩ := boxed w f dv rv
  have hW := hB.eq
  have BAT := Lib.hid (hB.at_ o)
  have hch0 := Lib.hid (hB.chg' o)
  have hT := hB.tb' h
  have hlk := fun n => (hT.drewN n).look f.id
  have hc := hT.2.1.cells
  have b1 : W.cell? ⟨w.heap.size, 1, none⟩ = some (.int .u64 f.id) := hB.cell 1
  have HT := Lib.hid hT
  unfold Tb.cells at hc
  unfold Tb.blkOf optPtr at hlk
  rw [← hB.C]
  unfold ptr
  cases hs : mget T.m f.id with
  | none =>
    rw [hs] at hlk
    simp only [Option.map_none] at hlk
    have HR : RowKit.Hid (T.acked f = T) := by show _ = _; unfold Tb.acked; rw [hs]
    clear hs h hT hB hd
    go_enter Tryz.func24, Tryz.ntmps24
    go_upto_region 1 with fail
    rw [← hW]
    clear hW
    go_quiet (fail)
    go_wp2
    refine bodyPost_ret (results_none rfl _ _ _) rfl ?_
    rw [HR.out]
    exact ⟨_, rfl, ⟨bm, blk, HT.out.drewN _⟩, (hch0.out.of_nil).drewN _⟩
  | some s =>
    obtain ⟨ko, ki, bt, hst⟩ := (hT.st hs).at'
    have hcs := hst.at_.cells
    unfold St.cells at hcs
    rw [hs] at hlk
    simp only [Option.map_some, ptr] at hlk
    cases hso : s.out with
    | none =>
      have hko : ko = none := by
        have := hst.out
        rw [hso] at this
        cases ko with
        | none => rfl
        | some _ => exact this.elim
      subst hko
      simp only [optPtr] at hcs
      have HR : RowKit.Hid (T.acked f = T) := by show _ = _; unfold Tb.acked; rw [hs]; simp only [hso]
      clear hs h hT hB hd hst hso
      go_enter Tryz.func24, Tryz.ntmps24
      go_upto_region 1 with fail
      rw [← hW]
      clear hW
      go_quiet (fail)
      go_wp2
      refine bodyPost_ret (results_none rfl _ _ _) rfl ?_
      rw [HR.out]
      exact ⟨_, rfl, ⟨bm, blk, HT.out.drewN _⟩, (hch0.out.of_nil).drewN _⟩
    | some O =>
      have ho := hst.out
      rw [hso] at ho
      obtain ⟨kO, rfl, ho⟩ := ho.some'
      simp only [optPtr, ptr] at hcs
      have HST := Lib.hid hst
      have HS := Lib.hid hs
      have HSO := Lib.hid hso
      have HD := Lib.hid (hd.chg (hB.chg' o) (off_nil _))
      obtain ⟨A, c, hdv, -, -, -, -⟩ := id hd
      subst hdv
      rw [List.length_map] at *
      have HR : RowKit.Hid (T.acked f = if f.kind = 8 then T.set f.id { s with out := some (O.ack f.a f.data.length f.flag) } else if f.kind = 4 then T.set f.id s.ackedReset else T) := by show _ = _; unfold Tb.acked; rw [hs]; simp only [hso]
      clear hs h hT hB hd hst hso ho
      go_enter Tryz.func24, Tryz.ntmps24
      go_upto_region 1 with fail
      rw [← hW]
      clear hW
      go_quiet (fail)
      go_upto_region 2 with fail
      have hT2 := HT.out.drewN nq
      have hB2 := BAT.out.drewN nq
      have hS2 := HST.out.drewN nq
      have hC2 := hch0.out.drewN nq
      clear hlk hc b1 hcs HT BAT HST hch0
      generalize W.drewN nq = V at *
      have hlk := fun n => (hT2.drewN n).look f.id
      have hc := hT2.2.1.cells
      have b1 : V.cell? ⟨w.heap.size, 1, none⟩ = some (.int .u64 f.id) := hB2.cells 1
      have HT2 := Lib.hid hT2; have HB2 := Lib.hid hB2; have HS2 := Lib.hid hS2; have HC2 := Lib.hid hC2
      unfold Tb.cells at hc
      unfold Tb.blkOf optPtr at hlk
      rw [HS.out] at hlk
      simp only [Option.map_some, ptr] at hlk
      clear hT2 hB2 hS2 hC2
      go_quiet (fail)
      go_upto_region 3 with fail
      have hT2 := HT2.out.drewN nq
      have hB2 := HB2.out.drewN nq
      have hS2 := HS2.out.drewN nq
      have hC2 := HC2.out.drewN nq
      clear hlk hc b1 HT2 HB2 HS2 HC2
      generalize V.drewN nq = U at *
      have b0 : U.cell? ⟨w.heap.size, 0, none⟩ = some (.int .i64 f.kind) := hB2.cells 0
      have b2 : U.cell? ⟨w.heap.size, 2, none⟩ = some (.int .u64 f.a) := hB2.cells 2
      have b5 : U.cell? ⟨w.heap.size, 5, none⟩ = some (.bool f.flag) := hB2.cells 5
      have b6 : U.cell? ⟨w.heap.size, 6, none⟩ = some (.slice A f.data.length c) := hB2.cells 6
      have c1 := hS2.at_.cells
      have c2 := hS2.at_.free
      unfold St.cells at c1
      simp only [optPtr, ptr] at c1
      have HT2 := Lib.hid hT2; have HB2 := Lib.hid hB2; have HS2 := Lib.hid hS2; have HC2 := Lib.hid (hC2.of_nil (L := [t]))
      clear hT2 hB2 hS2 hC2
      have hlI : (f.data.length : Int) ≤ 1000000000000 := by omega
      by_cases h8 : f.kind = 8
      · have HR2 : RowKit.Hid (T.acked f = T.set f.id { s with out := some (O.ack f.a f.data.length f.flag) }) := by show _ = _; rw [HR.out, if_pos h8]
        rw [h8] at b0
        have HA := Lib.hid (OAcked_ok (by have := (HS2.out.drewN 1).out; rw [HSO.out] at this; exact this) f.a f.data.length hf.a64 hl f.flag)
        clear h8
        go_upto_region 5 with fail
        refine wp_region_still_tail 11 (by kernel_rfl) (by kernel_rfl) ?_
        simp only [List.take_succ_cons, List.take_zero, List.drop_succ_cons, List.drop_zero]
        repeat still_step
        refine wpStill_nil ?_
        go_wp2_with (go_at_call 54; refine HA.out.mono ?_; rintro e w3 ⟨rfl, h3, h4⟩; have H3 := Lib.hid h3; have H4 := Lib.hid h4; clear h3 h4)
        go_end0
        obtain ⟨x1, x2⟩ := outTurn (HT2.out.drewN 1) HS.out (HS2.out.drewN 1) H3.out H4.out
        rw [HR2.out]
        exact ⟨_, rfl, ⟨bm, blk, x1⟩, (HC2.out.drewN 1).trans x2⟩
      · by_cases h4 : f.kind = 4
        · have HR2 : RowKit.Hid (T.acked f = T.set f.id s.ackedReset) := by show _ = _; rw [HR.out, if_neg h8, if_pos h4]
          rw [h4] at b0
          clear h8 h4
          cases htl : told s 4 with
          | true =>
            obtain ⟨y1, ob, y2, y3, y4⟩ := resetAcked (!s.reset) HT2.out HS.out HS2.out
            have hlk2 := y1.told 4 4 rfl
            rw [show (mget s.tell 4).getD false = true from htl] at hlk2
            have c3 := y1.at_.cells
            unfold St.cells at c3
            change ∀ i, (U.setCell ⟨blk f.id, 10, none⟩ (.bool s.reset)).drew.cell? _ = _ at c3
            change (Instr.lookup 79 (.map (some bt)) (.int .i64 4) false).run Tryz.prog (U.setCell ⟨blk f.id, 10, none⟩ (.bool s.reset)).drew = .ok (.bool true) (U.setCell ⟨blk f.id, 10, none⟩ (.bool s.reset)).drew at hlk2
            change (Instr.mapUpdate 79 (.map (some bt)) (.int .i64 4) (.bool (!s.reset))).run Tryz.prog (U.setCell ⟨blk f.id, 10, none⟩ (.bool s.reset)).drew = .ok () (setOb (U.setCell ⟨blk f.id, 10, none⟩ (.bool s.reset)).drew bt ob) at y2
            have HR3 : RowKit.Hid (T.acked f = T.set f.id { s with done := s.reset, tell := mset s.tell 4 (!s.reset) }) := by show _ = _; rw [HR2.out]; unfold St.ackedReset; rw [htl, Bool.true_and]
            change TbAt (setOb (U.setCell ⟨blk f.id, 10, none⟩ (.bool s.reset)).drew bt ob) _ _ _ _ _ _ at y3
            change Chg [t] U _ (setOb (U.setCell ⟨blk f.id, 10, none⟩ (.bool s.reset)).drew bt ob) _ at y4
            have Y3 := Lib.hid y3; have Y4 := Lib.hid y4
            clear y1 y3 y4 htl
            go_upto_region 8 with fail
            generalize U.setCell ⟨blk f.id, 10, none⟩ (.bool s.reset) = X at *
            refine wp_region_still_tail 16 (by kernel_rfl) (by kernel_rfl) ?_
            simp only [List.take_succ_cons, List.take_zero, List.drop_succ_cons, List.drop_zero]
            repeat still_step
            refine wpStill_nil ?_
            change wpList _ _ _ _ _ X.drew
            go_wp2_with (refine wpList_mupd rfl 79 _ _ _ rfl _ _ _ rfl rfl rfl _ y2 ?_)
            go_end0
            rw [HR3.out]
            exact ⟨_, rfl, ⟨bm, blk, Y3.out⟩, HC2.out.trans Y4.out⟩
          | false =>
            obtain ⟨y1, ob, y2, y3, y4⟩ := resetAcked false HT2.out HS.out HS2.out
            have hlk2 := y1.told 4 4 rfl
            rw [show (mget s.tell 4).getD false = false from htl] at hlk2
            have c3 := y1.at_.cells
            unfold St.cells at c3
            change ∀ i, (U.setCell ⟨blk f.id, 10, none⟩ (.bool s.reset)).drew.cell? _ = _ at c3
            change (Instr.lookup 79 (.map (some bt)) (.int .i64 4) false).run Tryz.prog (U.setCell ⟨blk f.id, 10, none⟩ (.bool s.reset)).drew = .ok (.bool false) (U.setCell ⟨blk f.id, 10, none⟩ (.bool s.reset)).drew at hlk2
            change (Instr.mapUpdate 79 (.map (some bt)) (.int .i64 4) (.bool false)).run Tryz.prog (U.setCell ⟨blk f.id, 10, none⟩ (.bool s.reset)).drew = .ok () (setOb (U.setCell ⟨blk f.id, 10, none⟩ (.bool s.reset)).drew bt ob) at y2
            have HR3 : RowKit.Hid (T.acked f = T.set f.id { s with done := s.reset, tell := mset s.tell 4 false }) := by show _ = _; rw [HR2.out]; unfold St.ackedReset; rw [htl, Bool.false_and]
            change TbAt (setOb (U.setCell ⟨blk f.id, 10, none⟩ (.bool s.reset)).drew bt ob) _ _ _ _ _ _ at y3
            change Chg [t] U _ (setOb (U.setCell ⟨blk f.id, 10, none⟩ (.bool s.reset)).drew bt ob) _ at y4
            have Y3 := Lib.hid y3; have Y4 := Lib.hid y4
            clear y1 y3 y4 htl
            go_upto_region 8 with fail
            generalize U.setCell ⟨blk f.id, 10, none⟩ (.bool s.reset) = X at *
            refine wp_region_still_tail 16 (by kernel_rfl) (by kernel_rfl) ?_
            simp only [List.take_succ_cons, List.take_zero, List.drop_succ_cons, List.drop_zero]
            repeat still_step
            refine wpStill_nil ?_
            change wpList _ _ _ _ _ X.drew
            go_wp2_with (refine wpList_mupd rfl 79 _ _ _ rfl _ _ _ rfl rfl rfl _ y2 ?_)
            go_end0
            rw [HR3.out]
            exact ⟨_, rfl, ⟨bm, blk, Y3.out⟩, HC2.out.trans Y4.out⟩
        · have HR2 : RowKit.Hid (T.acked f = T) := by show _ = _; rw [HR.out, if_neg h8, if_neg h4]
          go_wp2
          go_end0
          rw [HR2.out]
          exact ⟨_, rfl, ⟨bm, blk, HT2.out⟩, HC2.out⟩
end Go.Proofs.YthliihmhkhabeaaGreatDoor
/- The streams' table, XXVIII: what of a stream is due. No condition. -/
namespace Go.Proofs.YthliihmhkhabeaaGreatDoor
open Go Go.RowKit

def frZ : Fr := ⟨0, 0, 0, 0, 0, false, [], fun _ => 0⟩
def sentO : Option Out → Nat
  | none => 0
  | some O => O.sent
set_option maxRecDepth 100000 in
theorem OSent_nil {w : World} :
    Calls Tryz.prog 67 #[.pointer none] w fun e w' => e = .returned (.int .u64 0) ∧ w = w' := by
  go_enter Tryz.func67, Tryz.ntmps67
  go_wp2
  go_ret
  exact ⟨rfl, rfl⟩
theorem OSent_opt {w : World} {o : Own} {t : Tag} {ko : Option Nat} {O : Option Out} (h : OutOpt w o t ko O) :
    Calls Tryz.prog 67 #[optPtr ko] w fun e w' => e = .returned (.int .u64 (sentO O : Nat)) ∧ w = w' := by
  cases ko with
  | none =>
    cases O with
    | none => exact OSent_nil
    | some O => exact h.elim
  | some ko =>
    cases O with
    | none => exact h.elim
    | some O => exact OSent_ok h
def limitO : Option In → Nat
  | none => 0
  | some I => I.read + I.window
set_option maxRecDepth 100000 in
theorem RLimit_nil {w : World} :
    Calls Tryz.prog 68 #[.pointer none] w fun e w' => e = .returned (.int .u64 0) ∧ w = w' := by
  go_enter Tryz.func68, Tryz.ntmps68
  go_wp2
  go_ret
  exact ⟨rfl, rfl⟩
theorem RLimit_opt {w : World} {o : Own} {t : Tag} {ki : Option Nat} {I : Option In} (h : InOpt w o t ki I) :
    Calls Tryz.prog 68 #[optPtr ki] w fun e w' => e = .returned (.int .u64 (limitO I : Nat)) ∧ ∃ n, w' = w.drewN n := by
  cases ki with
  | none =>
    cases I with
    | none => exact RLimit_nil.mono fun _ _ ⟨h1, h2⟩ => ⟨h1, 0, h2.symm⟩
    | some I => exact h.elim
  | some ki =>
    cases I with
    | none => exact h.elim
    | some I => exact RLimit_ok h

def frReset (id code a : Nat) : Fr := { frZ with kind := 4, id := id, code := code, a := a }
def frStop (id code : Nat) : Fr := { frZ with kind := 5, id := id, code := code }
def frMsd (id a : Nat) : Fr := { frZ with kind := 17, id := id, a := a }
def St.due (s : St) (id : Nat) : List Fr :=
  ((if told s 4 then [frReset id s.code (sentO s.out)] else []) ++ (if told s 5 && !s.over then [frStop id s.stop] else [])) ++ (if told s 17 && !s.over then [frMsd id (limitO s.inn)] else [])

/-- Frames without bytes, gathered in new blocks. -/
def DueSt (w : World) (o : Own) (t td : Tag) (L : List Fr) (v : Value) (wx : World) : Prop :=
  ∃ o', FRow wx o' t td v (L.map fun f => (f, nilS)) ∧ Chg [] w o wx o' ∧ (∀ g, v.ownBlock = some g → w.heap.size ≤ g)
theorem dueStep {w wx : World} {o : Own} {t td : Tag} {L : List Fr} {v : Value} (h : DueSt w o t td L v wx) (f : Fr) (hf : f.data = []) (hl : L.length ≤ 10) (htd : off [t] td) (ty : TypeId) :
    ∃ A m c w', (Builtin.append_ #[47, 47] ty #[v, .slice (some ⟨wx.heap.size, 0, none⟩) 1 1]).run Tryz.prog (wx.alloc (.cells (f.cells nilS nilS) 52)) = .ok (.slice A m c) w' ∧ RowKit.Hid (DueSt w o t td (L ++ [f]) (.slice A m c) w') := by
  obtain ⟨o1, h1, h2, h3⟩ := h
  have hc1 := ((Chg.refl [] wx o1).alloc (.cells (f.cells nilS nilS) 52)).tag (Nat.le_refl _) (side t)
  have hat := At.new wx o1 (side t) (.cells (f.cells nilS nilS) 52)
  have hr := h1.chg hc1 (off_nil _) (off_nil _)
  obtain ⟨v', w', o', e1, e2, e3, e4, e5, e6⟩ := append_frame _ ty hr f nilS wx.heap.size (by rw [hf]; exact Sl.nil _ _ _) htd hat.cells (by rw [List.length_map]; omega)
  obtain ⟨A, m, c, rfl⟩ := e2.shape3
  have hsz := h2.size
  refine ⟨A, m, c, w', e1, o', ?_, ?_, fun g hg => ?_⟩
  · rw [List.map_append]; exact e2
  · exact (h2.trans hc1).grown' e3 e5 fun g hg => .inl (h3 g hg)
  · rcases e6 g hg with h | h
    · exact h3 g h
    · simp at h; omega
theorem DueSt.drewN {w wx : World} {o : Own} {t td : Tag} {L : List Fr} {v : Value} (h : DueSt w o t td L v wx) (n : Nat) : DueSt w o t td L v (wx.drewN n) := by
  obtain ⟨o1, h1, h2, h3⟩ := h
  exact ⟨o1, h1.chg ((Chg.refl [] wx o1).drewN n) (off_nil _) (off_nil _), h2.drewN n, h3⟩

def DuePost (w : World) (o : Own) (t td : Tag) (L : List Fr) (e : Ending) (w' : World) : Prop := ∃ v, e = .returned v ∧ DueSt w o t td L v w'

set_option maxHeartbeats 1000000 in
set_option maxRecDepth 100000 in
theorem due_ok {w : World} {o : Own} {u : Tag} {k bt : Nat} {ko ki : Option Nat} {s : St} (h : StAt w o u k (s.cells ko ki bt) ko ki bt s.out s.inn s.tell) (id : Nat) (t td : Tag) (htd : off [t] td) :
    Calls Tryz.prog 36 #[ptr k, .int .u64 id] w (DuePost w o t td (s.due id)) := by
  have hd0 : RowKit.Hid (DueSt w o t td [] (.slice none 0 0) w) := ⟨o, FRow.nil _ _ _ _, Chg.refl _ _ _, fun g hg => by simp [Value.ownBlock] at hg⟩
  have Hst := Lib.hid h
  have hl4 := h.told 4 4 rfl
  have hc := h.at_.cells
  unfold St.cells at hc
  have hl4' : (Instr.lookup 79 (.map (some bt)) (.int .i64 4) false).run Tryz.prog w = .ok (.bool (told s 4)) w := hl4
  have HS := Lib.hid (fun n => OSent_opt (h.drewN n).out)
  clear hl4 h
  unfold ptr
  go_enter Tryz.func36, Tryz.ntmps36
  go_upto_if 10 with fail
  go_cut [5] from 6 (fun v wx => RowKit.Hid (DueSt w o t td (if told s 4 then [frReset id s.code (sentO s.out)] else []) v wx))
  case first =>
    cases ht4 : told s 4 with
    | false =>
      go_wp2
      go_meet
      rw [ht4]
      exact hd0
    | true =>
      obtain ⟨A, m, c, w', e1, e2⟩ := dueStep (hd0.out.drewN 1) (frReset id s.code (sentO s.out)) rfl (by simp) htd 47
      have S0 : w.drew.cell? ⟨k, 6, none⟩ = some (.int .u64 s.code) ∧ w.drew.cell? ⟨k, 0, none⟩ = some (optPtr ko) := ⟨hc 6, hc 0⟩
      have S1 : (w.drew.alloc (.cells ((frReset id s.code (sentO s.out)).cells nilS nilS) 52)).cell? ⟨k, 6, none⟩ = some (.int .u64 s.code) ∧ (w.drew.alloc (.cells ((frReset id s.code (sentO s.out)).cells nilS nilS) 52)).cell? ⟨k, 0, none⟩ = some (optPtr ko) := ⟨(World.cell?_alloc_some _ _ _ (by rw [S0.1]; rfl)).trans S0.1, (World.cell?_alloc_some _ _ _ (by rw [S0.2]; rfl)).trans S0.2⟩
      have S2 : w'.cell? ⟨k, 6, none⟩ = some (.int .u64 s.code) ∧ w'.cell? ⟨k, 0, none⟩ = some (optPtr ko) := by
        obtain ⟨o', _, hch, _⟩ := e2
        have := (Hst.out.at_.chg hch (off_nil _)).cells
        exact ⟨this 6, this 0⟩
      have Z1 := Lib.hid S1; have Z2 := Lib.hid S2
      clear S1 S2
      go_upto_region 3 with fail
      go_region_held3 (fun W => W.cell? ⟨k, 6, none⟩ = some (.int .u64 s.code) ∧ W.cell? ⟨k, 0, none⟩ = some (optPtr ko)) (first | exact S0 | exact Z1.out | exact Z2.out)
        (first
          | (go_at_call 67; refine (HS.out 1).mono ?_; rintro e w'' ⟨rfl, rfl⟩; have tok2 := True.intro)
          | (have _t := tok2; refine step_append_run rfl (.tmp 11) (.tmp 23) 47 47 rfl (.slice none 0 0) (.slice (some ⟨w.heap.size, 0, none⟩) 1 1) rfl rfl (.slice A m c) w' e1 ?_))
      go_wp2
      go_meet
      rw [ht4]
      exact e2
  generalize hL1 : (if told s 4 then [frReset id s.code (sentO s.out)] else []) = L1 at hcut
  have hL1l : L1.length ≤ 1 := by rw [← hL1]; split <;> simp
  have HL1 := Lib.hid hL1
  clear hL1 hd0 hc hl4' HS
  obtain ⟨o1, hF1, hC1, hN1⟩ := hcut.out
  obtain ⟨A1, m1, c1, rfl⟩ := hF1.shape3
  have hst1 := Hst.out.chg hC1 (fun _ _ => off_nil _)
  have hc := hst1.at_.cells
  unfold St.cells at hc
  have hl5 : (Instr.lookup 79 (.map (some bt)) (.int .i64 5) false).run Tryz.prog wc = .ok (.bool (told s 5)) wc := hst1.told 5 5 rfl
  clear hF1 hC1 hN1 hst1
  go_upto_region 4 with fail
  have HCUT := hcut
  clear hcut
  go_cut [36] from 25 (fun b wx => b = .bool (told s 5 && !s.over) ∧ wc = wx)
  case first =>
    cases ht5 : told s 5 with
    | false =>
      rw [ht5] at hl5
      go_wp2
      go_meet
      exact ⟨by rw [ht5]; rfl, rfl⟩
    | true =>
      rw [ht5] at hl5
      cases hov : s.over with
      | true =>
        rw [hov] at hc
        go_wp2
        go_meet
        exact ⟨by rw [ht5, hov]; rfl, rfl⟩
      | false =>
        rw [hov] at hc
        go_wp2
        go_meet
        exact ⟨by rw [ht5, hov]; rfl, rfl⟩
  obtain ⟨rfl, rfl⟩ := hcut
  go_upto_if 36 with fail
  go_cut [5] from 6 (fun v wx => RowKit.Hid (DueSt w o t td (L1 ++ if told s 5 && !s.over then [frStop id s.stop] else []) v wx))
  case first =>
    cases hb : (told s 5 && !s.over) with
    | false =>
      go_wp2
      go_meet
      rw [hb]
      simp only [Bool.false_eq_true, if_false, List.append_nil]
      exact HCUT
    | true =>
      obtain ⟨A, m, c, w', e1, e2⟩ := dueStep HCUT.out (frStop id s.stop) rfl (by omega) htd 47
      go_wp2_with (at_builtin; refine Lib.wpList_append_run _ rfl _ _ _ _ rfl _ _ rfl rfl _ _ e1 ?_)
      go_meet
      rw [hb]
      exact e2
  clear HCUT hc hl5
  generalize hL2 : (L1 ++ if told s 5 && !s.over then [frStop id s.stop] else []) = L2 at hcut
  have hL2l : L2.length ≤ 2 := by rw [← hL2, List.length_append]; split <;> simp <;> omega
  have HL2 := Lib.hid hL2
  clear hL2
  obtain ⟨o2, hF2, hC2, hN2⟩ := hcut.out
  obtain ⟨A2, m2, c2, rfl⟩ := hF2.shape3
  have hst2 := Hst.out.chg hC2 (fun _ _ => off_nil _)
  have hc := hst2.at_.cells
  unfold St.cells at hc
  have hl7 : (Instr.lookup 79 (.map (some bt)) (.int .i64 17) false).run Tryz.prog wc = .ok (.bool (told s 17)) wc := hst2.told 17 17 rfl
  have HRL := Lib.hid (RLimit_opt hst2.inn)
  clear hF2 hC2 hN2 hst2
  have HCUT := hcut
  clear hcut
  go_upto_region 6 with fail
  go_cut [57] from 46 (fun b wx => b = .bool (told s 17 && !s.over) ∧ wc = wx)
  case first =>
    cases ht5 : told s 17 with
    | false =>
      rw [ht5] at hl7
      go_wp2
      go_meet
      exact ⟨by rw [ht5]; rfl, rfl⟩
    | true =>
      rw [ht5] at hl7
      cases hov : s.over with
      | true =>
        rw [hov] at hc
        go_wp2
        go_meet
        exact ⟨by rw [ht5, hov]; rfl, rfl⟩
      | false =>
        rw [hov] at hc
        go_wp2
        go_meet
        exact ⟨by rw [ht5, hov]; rfl, rfl⟩
  obtain ⟨rfl, rfl⟩ := hcut
  have HR : RowKit.Hid (s.due id = L2 ++ if told s 17 && !s.over then [frMsd id (limitO s.inn)] else []) := by
    show _ = _
    unfold St.due
    rw [HL1.out, HL2.out]
  cases hb : (told s 17 && !s.over) with
  | false =>
    rw [hb] at HR
    simp only [Bool.false_eq_true, if_false, List.append_nil] at HR
    go_wp2
    go_ret
    rw [HR.out]
    exact ⟨_, rfl, HCUT.out⟩
  | true =>
    rw [hb] at HR
    simp only [if_true] at HR
    go_wp2_with (first
      | (go_at_call 68; refine HRL.out.mono ?_; rintro e w3 ⟨rfl, nd, rfl⟩; obtain ⟨A, m, c, w', e1, e2⟩ := dueStep (HCUT.out.drewN nd) (frMsd id (limitO s.inn)) rfl (by omega) htd 47)
      | (at_builtin; refine Lib.wpList_append_run _ rfl _ _ _ _ rfl _ _ rfl rfl _ _ e1 ?_))
    go_ret
    rw [HR.out]
    exact ⟨_, rfl, e2.out⟩
end Go.Proofs.YthliihmhkhabeaaGreatDoor
