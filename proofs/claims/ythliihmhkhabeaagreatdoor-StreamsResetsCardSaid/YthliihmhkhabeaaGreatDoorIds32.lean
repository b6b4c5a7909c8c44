/- A map's keys, sorted: maps.Keys, slices.AppendSeq, Collect, Sorted. No condition. -/
import Derived.Test.YthliihmhkhabeaaGreatDoorIds31
import Derived.Test.YthliihmhkhabeaaGreatDoorIds15
import Derived.Test.YthliihmhkhabeaaGreatDoorIds12
namespace Go.Proofs.YthliihmhkhabeaaGreatDoor
open Go Go.RowKit

def keyN (e : MapEntry) : Nat := match e.key with
  | .int _ i => i.toNat
  | _ => 0
theorem keyN_of {blk : Nat → Nat} : ∀ {m : List (Nat × St)} {es : List MapEntry}, es.map ekv = stKV blk m → es.map keyN = m.map (·.1)
  | [], [], _ => rfl
  | [], e :: es, h => by simp [stKV] at h
  | p :: m, [], h => by simp [stKV] at h
  | p :: m, e :: es, h => by
    simp only [stKV, List.map_cons, List.cons.injEq] at h
    have ih := keyN_of (m := m) (es := es) h.2
    have hk : e.key = natKey .u64 p.1 := by have := h.1; simp [ekv] at this; exact this.1
    simp only [List.map_cons, ih, List.cons.injEq, and_true]
    unfold keyN
    rw [hk]
    simp [natKey]

def KeysFact (bx bm clk : Nat) (es : List MapEntry) (W : World) : Prop := W.cell? ⟨bx, 0, none⟩ = some (.map (some bm)) ∧ W.heap[bm]? = some (.map es.toArray clk)

theorem Iter.keep {w w' : World} {o : Own} {t : Tag} {it bm clk : Nat} {es left : List MapEntry} {last : Option Nat} {B : Nat} (h : Iter w o t it bm es clk left last) (hk : KeepsFrom B w w') (hb : B ≤ it) : Iter w' o t it bm es clk left last := by
  obtain ⟨seen, h1, h2⟩ := h
  exact ⟨seen, ⟨hk.same _ _ hb h1.1 rfl, h1.2⟩, h2⟩

structure KeysInv (J : List Nat → World → Prop) (it bm clk : Nat) (es : List MapEntry) (keys : List Nat) (pre : List Nat) (left : List MapEntry) (last : Option Nat) (wr : World) : Prop where
  j : J pre wr
  iter : Iter wr (fun _ => []) [] it bm es clk left last
  nd : (left.map (·.born)).Nodup
  sub : ∀ e ∈ left, e ∈ es
  perm : (pre ++ left.map keyN).Perm keys

theorem Iter.obj {w : World} {o : Own} {t : Tag} {it bm clk : Nat} {es left : List MapEntry} {last : Option Nat} (h : Iter w o t it bm es clk left last) : ∃ seen, w.heap[it]? = some (.mapIter (some bm) clk seen clk) := by
  obtain ⟨seen, h1, _⟩ := h
  exact ⟨seen, h1.1⟩

theorem KeysInv.next {J : List Nat → World → Prop} {B it bm clk : Nat} {es : List MapEntry} {keys pre : List Nat} {left : List MapEntry} {last : Option Nat} {wr : World} (hA : Abide B J) (hB : B ≤ it) (h : KeysInv J it bm clk es keys pre left last wr)
    {e : MapEntry} (he : e ∈ left) {n : Nat} {x : Obj} (hi : Iter (setOb (wr.drewN n) it x) (fun _ => []) [] it bm es clk (left.filter fun y => decide (y.born ≠ e.born)) (some e.born)) :
    J pre (setOb (wr.drewN n) it x) ∧ (∃ post, (pre ++ keyN e :: post).Perm keys) ∧
    (∀ W', J (pre ++ [keyN e]) W' → KeepsFrom B (setOb (wr.drewN n) it x) W' → KeysInv J it bm clk es keys (pre ++ [keyN e]) (left.filter fun y => decide (y.born ≠ e.born)) (some e.born) W') := by
  obtain ⟨seen, hs⟩ := h.iter.obj
  have hp := left_perm h.nd he
  have hp2 : (pre ++ keyN e :: (left.filter fun y => decide (y.born ≠ e.born)).map keyN).Perm keys := by
    refine List.Perm.trans ?_ h.perm
    refine List.Perm.append_left pre ?_
    have := (hp.map keyN).symm
    simpa using this
  refine ⟨hA.step pre (wr.drewN n) it _ _ _ _ x (hA.drew _ _ _ h.j) hB hs, ⟨_, hp2⟩, fun W' hj hk => ⟨hj, hi.keep hk hB, h.nd.sublist ((List.filter_sublist).map _), fun y hy => h.sub y (List.mem_filter.1 hy).1, ?_⟩⟩
  rw [List.append_assoc]
  exact hp2

theorem Iter.start0 (w : World) (bm clk : Nat) (es : List MapEntry) : Iter (w.alloc (.mapIter (some bm) clk #[] clk)) (fun _ => []) [] w.heap.size bm es clk es none := by
  have := Iter.start w (fun _ => []) [] bm clk es
  have e : Own.upd (fun _ => []) w.heap.size [] = (fun _ => ([] : Tag)) := by funext k; simp [Own.upd]
  rw [e] at this
  exact this

set_option maxHeartbeats 400000 in
set_option maxRecDepth 100000 in
theorem Keys1_hands (n : Nat) (bx bm clk : Nat) (blk : Nat → Nat) (m : List (Nat × St)) (es : List MapEntry) (hkv : es.map ekv = stKV blk m) (hlt : ∀ e ∈ es, e.born < clk) (hnd : (es.map (·.born)).Nodup) (w : World) :
    HandsL Fence.wide n Tryz.prog 61 #[.pointer (some ⟨bx, 0, none⟩)] (fun x => #[.int .u64 x]) (m.map (·.1)) (KeysFact bx bm clk es) w := by
  intro l B J hA hfact hY W h0 hB
  obtain ⟨f1, f2⟩ := hfact _ _ h0
  have hrg := run_range_map (P := Tryz.prog) Tryz.underlying72 f2
  have hst0 : RowKit.Hid (KeysInv J W.heap.size bm clk es (m.map (·.1)) [] es none (W.alloc (.mapIter (some bm) clk #[] clk))) :=
    ⟨hA.alloc _ _ _ _ _ _ h0, Iter.start0 W bm clk es, hnd, fun e he => he, by rw [List.nil_append, keyN_of hkv]⟩
  have HA := Lib.hid hA; have HF := Lib.hid hfact; have HY := Lib.hid hY; have Hlt := Lib.hid hlt; have Hnd := Lib.hid hnd; have Hkv := Lib.hid hkv
  have hBs := hB
  generalize hit : W.heap.size = it at *
  clear hA hfact hY hlt hnd hkv f2 h0
  refine callsIn_of_wp Tryz.func61 rfl trivial ?_ rfl
  simp only [Tryz.ntmps61, List.size_toArray, List.length_cons, List.length_nil, Nat.reduceAdd, Nat.reduceSub, Array.replicate_succ, Array.replicate_zero, List.push_toArray, List.append_toArray, List.nil_append, List.cons_append]
  gi_wp2
  clear hrg f1
  gi_loopw [3] (fun _ wr => ∃ pre left last, KeysInv J it bm clk es (m.map (·.1)) pre left last wr) (fun _ wr => leftLen it es wr)
  case atStart => exact ⟨_, _, _, hst0.out⟩
  case round =>
    obtain ⟨pre, left, last, hinv⟩ := hrel
    have hb : wr.heap[bm]? = some (.map es.toArray clk) := (HF.out _ _ hinv.j).2
    by_cases hl : left = []
    · have hnx := fun ty => run_next_end (P := Tryz.prog) ty hinv.iter hl hb Hlt.out
      have hp := hinv.perm
      rw [hl] at hp
      simp only [List.map_nil, List.append_nil] at hp
      have HJ := Lib.hid hinv.j; have HP := Lib.hid hp
      clear hinv hp hb hl
      gi_wp2
      go_end0
      exact ⟨⟨_, rfl⟩, pre, HP.out, HJ.out⟩
    · obtain ⟨e, he, nn, x, hrun, hi⟩ := run_next_more (P := Tryz.prog) 0 hinv.iter hl hb Hlt.out
      obtain ⟨g1, g2, g3⟩ := hinv.next HA.out hBs he hi
      have hbm : bm ≠ it := by
        rintro rfl
        obtain ⟨seen, hs⟩ := hinv.iter.obj
        rw [hb] at hs; cases hs
      have hb2 : (setOb (wr.drewN nn) it x).heap[bm]? = some (.map es.toArray clk) := by rw [setOb_heap _ _ _ _ hbm]; exact hb
      have hen := run_entry (P := Tryz.prog) hi (hinv.sub e he) rfl hb2 Hnd.out
      obtain ⟨p, hp, hk, hv⟩ := entry_of Hkv.out (hinv.sub e he)
      have hkN : keyN e = p.1 := by unfold keyN; rw [hk]; simp [natKey]
      rw [hkN] at g2 g3
      obtain ⟨fn, tmps, assign, body, hy, hR⟩ := HY.out pre p.1 _ g1 g2
      have HG := Lib.hid g3
      have HR := Lib.hid hR
      have hlen : RowKit.Hid (∀ W' last', KeysInv J it bm clk es (m.map (·.1)) (pre ++ [p.1]) (left.filter fun y => decide (y.born ≠ e.born)) last' W' → leftLen it es W' < leftLen it es wr) := by
        show ∀ _ _, _ → _
        intro W' last' h'
        rw [h'.iter.len, hinv.iter.len]
        have := (left_perm hinv.nd he).length_eq
        simp only [List.length_cons] at this
        omega
      rw [hk, hv] at hrun hen
      simp only [natKey, ptr] at hrun hen
      clear hinv hi hb hb2 he hl hk hv g1 g2 g3 hR hkN hbm hp
      gi_wp2
      refine ⟨fun h => (by simp [Fence.wide] at h), HR.out.mono ?_⟩
      rintro e2 W4 ⟨rfl, hj, hkp⟩
      have HI := Lib.hid (HG.out _ hj hkp)
      clear hj hkp
      gi_wp2
      go_roundw
      case rel => exact ⟨_, _, _, HI.out⟩
      case measure => exact hlen.out _ _ HI.out
end Go.Proofs.YthliihmhkhabeaaGreatDoor
/- A map's keys, II: slices.AppendSeq over maps.Keys. No condition. -/
namespace Go.Proofs.YthliihmhkhabeaaGreatDoor
open Go Go.RowKit Go.Shelf
attribute [local go_sem] Oper.semAt_some

def uv (n : Nat) : Value := .int .u64 n
theorem uv_one (xs : List Nat) : ∀ u ∈ xs.map uv, u.oneCell' = true := by
  intro u hu
  obtain ⟨x, _, rfl⟩ := List.mem_map.1 hu
  rfl
theorem Tryz.infoU64 : (Tryz.prog.info? 26).map (fun i => (i.zero, i.size, i.bytes)) = some (some (.int .u64 0), 1, 8) := by kernel_rfl
theorem infoU64' : ∃ i : TypeInfo, Tryz.prog.info? 26 = some i ∧ i.zero = some (.int .u64 0) ∧ i.size = 1 ∧ i.bytes = 8 := by
  have h := Tryz.infoU64
  cases hi : Tryz.prog.info? 26 with
  | none => rw [hi] at h; cases h
  | some i => rw [hi] at h; simp at h; exact ⟨i, rfl, h.1, h.2.1, h.2.2⟩
theorem append_u64s (w : World) (ty : TypeId) {o : Own} {t s : Tag} {v v2 : Value} {xs ys : List Nat} (hr : Row w o t 26 v (xs.map uv)) (hy : Sl w o s v2 (ys.map uv)) (hb : xs.length + ys.length ≤ 1000000000000) :
    ∃ v' w' o', (Builtin.append_ #[36, 36] ty #[v, v2]).run Tryz.prog w = .ok v' w' ∧ Row w' o' t 26 v' ((xs ++ ys).map uv) ∧ w.grownBy w' v.ownBlock ∧ Chg [t] w o w' o' ∧ (∀ k, k < w.heap.size → o' k = o k) := by
  obtain ⟨i, hi, hz, hs, hby⟩ := infoU64'
  rw [List.map_append]
  exact run_append_row w ty 36 26 i _ Tryz.underlying36 hi hz hs (by omega) rfl hr hy (uv_one ys) (by simpa using hb)
theorem append_u64s_new (B : Nat) (w : World) (ty : TypeId) {o : Own} {t s : Tag} {v v2 : Value} {xs ys : List Nat} (hB : B ≤ w.heap.size) (hr : Row w o t 26 v (xs.map uv)) (hrb : ∀ g, v.ownBlock = some g → B ≤ g) (hy : Sl w o s v2 (ys.map uv)) (hb : xs.length + ys.length ≤ 1000000000000) :
    ∃ v' w' o', (Builtin.append_ #[36, 36] ty #[v, v2]).run Tryz.prog w = .ok v' w' ∧ Row w' o' t 26 v' ((xs ++ ys).map uv) ∧ w.grownBy w' v.ownBlock ∧ (∀ k, k < w.heap.size → o' k = o k) ∧ (∀ g, v'.ownBlock = some g → B ≤ g) := by
  obtain ⟨o2, ho2⟩ : ∃ o2 : Own, o2 = fun k => if k < B then 0 :: t else o k := ⟨_, rfl⟩
  have hr2 : Row w o2 t 26 v (xs.map uv) := ⟨hr.1, fun g hg => by rw [ho2]; have := hrb g hg; simp only; rw [if_neg (by omega)]; exact hr.2 g hg⟩
  have hy2 : ∃ s2, Sl w o2 s2 v2 (ys.map uv) := by
    obtain ⟨A, c, h1, h2, h3, h4, h5⟩ := hy
    by_cases h0 : 0 < (ys.map uv).length
    · obtain ⟨b, f, hA, _, hc⟩ := h5 h0
      exact ⟨o2 b, A, c, h1, h2, h3, h4, fun _ => ⟨b, f, hA, rfl, hc⟩⟩
    · exact ⟨[], A, c, h1, h2, h3, h4, fun h => absurd h h0⟩
  obtain ⟨s2, hy2⟩ := hy2
  obtain ⟨v', w', o', hrun, hrow, hg, _, hold⟩ := append_u64s w ty hr2 hy2 hb
  have hnew : ∀ g, v'.ownBlock = some g → B ≤ g := by
    intro g hv
    by_cases hlt : g < B
    · have h1 := hrow.2 g hv
      rw [hold g (by omega), ho2] at h1
      simp only at h1
      rw [if_pos hlt] at h1
      exact absurd h1 (tag_ne' t 0)
    · omega
  refine ⟨v', w', fun k => if k < B then o k else o' k, hrun, ⟨hrow.1, fun g hv => ?_⟩, hg, fun k hk => ?_, hnew⟩
  · have := hnew g hv
    simp only
    rw [if_neg (by omega)]
    exact hrow.2 g hv
  · simp only
    by_cases hlt : k < B
    · rw [if_pos hlt]
    · rw [if_neg hlt, hold k hk, ho2]
      simp only
      rw [if_neg hlt]

/-- Between two keys: w: the world ahead of the call. -/
structure SeqInv (w : World) (o : Own) (s : Tag) (o' : Own) (v : Value) (pre : List Nat) (W : World) : Prop where
  chg : Chg [] w o W o'
  box : At W o' w.heap.size (1 :: s) (.cells #[v] 36 (0, 0))
  row : Row W o' (0 :: s) 26 v (pre.map uv)
  rb : ∀ g, v.ownBlock = some g → w.heap.size ≤ g

theorem At.putIter {w : World} {o : Own} {k it : Nat} {t : Tag} {x u : Obj} (h : At w o k t x) (hx : x.isCells = true) (hl : w.heap[it]? = some u) (hu : u.isCells = false) (y : Obj) : At (w.putObj it y) o k t x := h.putObj hx hl hu y

theorem SeqInv.abide {w : World} {o : Own} {s : Tag} {B : Nat} (hB : w.heap.size ≤ B) : Abide B (fun pre W => ∃ o' v, SeqInv w o s o' v pre W) := by
  refine ⟨?_, ?_, ?_⟩
  · rintro pre W n ⟨o', v, h⟩
    exact ⟨o', v, h.chg.drewN n, h.box.drewN n, h.row.drewN n, h.rb⟩
  · rintro pre W m c ss d ⟨o', v, h⟩
    exact ⟨o', v, h.chg.alloc _, h.box.alloc _, h.row.alloc _, h.rb⟩
  · rintro pre W it m c ss d y ⟨o', v, h⟩ hit hl
    exact ⟨o', v, h.chg.putObj y (by omega), h.box.putObj rfl hl rfl y, h.row.putObj hl rfl y, h.rb⟩

def KeysPost (w : World) (o : Own) (s : Tag) (keys : List Nat) (e : Ending) (w' : World) : Prop :=
  ∃ (v : Value) (pre : List Nat) (o' : Own), e = .returned v ∧ pre.Perm keys ∧ Row w' o' (0 :: s) 26 v (pre.map uv) ∧ Chg [] w o w' o' ∧ (∀ g, v.ownBlock = some g → w.heap.size ≤ g)

set_option maxHeartbeats 800000 in
set_option maxRecDepth 100000 in
theorem AppendSeq_ok {w : World} (o : Own) (s : Tag) (bx bm clk : Nat) (blk : Nat → Nat) (m : List (Nat × St)) (es : List MapEntry) (hkv : es.map ekv = stKV blk m) (hlt : ∀ e ∈ es, e.born < clk) (hnd : (es.map (·.born)).Nodup) (hf : KeysFact bx bm clk es w) (hlen : m.length ≤ 100000000) :
    Calls Tryz.prog 86 #[.slice none 0 0, .func (.func 61) #[] #[.pointer (some ⟨bx, 0, none⟩)]] w fun e w' => KeysPost w o s (m.map (·.1)) e w' := by
  have hbm : bm < w.heap.size := (Array.getElem?_eq_some_iff.1 hf.2).1
  have hbx : bx < w.heap.size := cell_lt hf.1
  have hst : RowKit.Hid (SeqInv w o s (o.upd w.heap.size (1 :: s)) (.slice none 0 0) [] (w.alloc (.cells #[.slice none 0 0] 36))) :=
    ⟨((Chg.refl [] w o).alloc _).tag (Nat.le_refl _) _, At.new _ _ _ _, Row.nil _ _ _ _, fun g hg => by simp [Value.ownBlock] at hg⟩
  have HF := Lib.hid hf
  clear hf
  refine (callsIn_wide (n := 3)).1 ?_
  refine callsIn_of_wp_marks Tryz.func86 rfl trivial ?_ rfl
  simp only [Tryz.ntmps86, List.size_toArray, List.length_cons, List.length_nil, Nat.reduceAdd, Nat.reduceSub, Array.replicate_succ, Array.replicate_zero, List.push_toArray, List.append_toArray, List.nil_append, List.cons_append]
  gi_wp2
  have hsz : (w.alloc (.cells #[.slice none 0 0] 36)).heap.size = w.heap.size + 1 := by simp
  generalize hwB : w.alloc (.cells #[.slice none 0 0] 36) = wB at hst hsz ⊢
  have hfactI : ∀ pre W, (∃ o' v, SeqInv w o s o' v pre W) → KeysFact bx bm clk es W := by
    rintro pre W ⟨o', v, h⟩
    have k1 := (h.chg.keep bm hbm (off_nil _)).1
    have k2 := (h.chg.keep bx hbx (off_nil _)).1
    refine ⟨?_, k1.trans HF.out.2⟩
    rw [← HF.out.1]
    simp only [World.cell?, k2]
  refine wpIn_handsL rfl (by omega) (gf := 61) (lb := #[.pointer (some ⟨bx, 0, none⟩)]) rfl trivial (enters_of Tryz.func61 (by kernel_rfl) rfl)
    (Keys1_hands _ bx bm clk blk m es hkv hlt hnd wB) (fun _ => rfl) (fun pre W => ∃ o' v, SeqInv w o s o' v pre W)
    (SeqInv.abide (by omega)) ?put hfactI ?start
    (fun x => { tmps := #[.slice none 0 0, .func (.func 61) #[] #[.pointer (some ⟨bx, 0, none⟩)], .pointer (some ⟨w.heap.size, 0, none⟩), undef, .slice none 0 0, .int .u64 x, .func (.func 61) #[] #[.pointer (some ⟨bx, 0, none⟩)], .int .u64 x, undef, undef, undef, undef, undef], defers := [] }) ?assign ?body ?done
  case put =>
    rintro pre W k x y ⟨o', v, h⟩ hk hl hx hm
    exact ⟨o', v, h.chg.putObj y (by omega), h.box.putObj rfl hl hx y, h.row.putObj hl hx y, h.rb⟩
  case start =>
    intro d r
    have hch : Chg [] wB (o.upd w.heap.size (1 :: s)) ((wB.alloc d).alloc r) (o.upd w.heap.size (1 :: s)) := ((Chg.refl [] wB _).alloc d).alloc r
    exact ⟨_, _, hst.out.chg.trans hch, hst.out.box.chg hch (off_nil _), hst.out.row.chg hch (off_nil _), hst.out.rb⟩
  case assign =>
    intro l x W K hK
    gi_wp2
    exact hK
  case body =>
    rintro l pre x W hlt2 ⟨o', v, hi⟩ ⟨post, hperm⟩
    have hpl : pre.length ≤ 100000000 := by
      have := hperm.length_eq
      simp at this
      omega
    have hW1 := At.new W o' (5 :: s) (Obj.cells #[Value.int .u64 x] 26)
    have hch1 := ((Chg.refl [] W o').alloc (Obj.cells #[Value.int .u64 x] 26)).tag (Nat.le_refl _) (5 :: s)
    generalize hWa : W.alloc (Obj.cells #[Value.int .u64 x] 26) = Wa at hW1 hch1
    generalize hoa : o'.upd W.heap.size (5 :: s) = oa at hW1 hch1
    have hsl : Sl Wa oa (5 :: s) (.slice (some ⟨W.heap.size, 0, none⟩) 1 1) ([x].map uv) := ⟨_, 1, rfl, by simp, by simp [maxLen], by simp, fun _ => ⟨_, 0, rfl, hW1.2, fun j hj => by simp at hj; subst hj; rw [hW1.cells]; rfl⟩⟩
    have hsza : Wa.heap.size = W.heap.size + 1 := by rw [← hWa]; simp
    have hWsz := hi.chg.size
    obtain ⟨v', Wb, ob, hrun, hrow, hg, hold, hnew⟩ := append_u64s_new w.heap.size Wa 36 (by omega) (hi.row.chg hch1 (off_nil _)) hi.rb hsl (by simp; omega)
    obtain ⟨A2, n2, c2, rfl⟩ := hrow.shape3
    have hch2 : Chg [0 :: s] Wa oa Wb ob := (Chg.refl _ Wa oa).grown' hg hold fun g hg' => .inr (by
      have := (hi.row.chg hch1 (off_nil _)).2 g hg'
      rw [this]; exact on_self _)
    have k1 := (hi.box.chg hch1 (off_nil _)).chg hch2 (off_sib s (by decide))
    have kch := (hi.chg.trans (hch1.mono fun _ _ => off_nil _)).grown' hg hold fun g hg' => .inl (hi.rb g hg')
    have kf : KeepsFrom wB.heap.size W Wb := by
      refine (((KeepsOthers.alloc W _).trans (?_ : KeepsOthers (W.alloc (Obj.cells #[Value.int .u64 x] 26)) Wb)).from _)
      rw [hWa]
      refine KeepsOthers.of_grownBy hg fun g ob' hg' hob => ?_
      rcases (hi.row.chg hch1 (off_nil _)).form with ⟨rfl, _⟩ | ⟨g2, cap, cur, rfl, hg2, _⟩
      · simp [Value.ownBlock] at hg'
      · simp [Value.ownBlock] at hg'
        subst hg'
        rw [hg2.1] at hob
        cases hob; rfl
    have m1 := k1.set 0 (.slice A2 n2 c2)
    have mrow := hrow.far (p := ⟨w.heap.size, 0, none⟩) (by rw [k1.2]; simp) (.slice A2 n2 c2)
    have mch := kch.setCell (p := ⟨w.heap.size, 0, none⟩) (.slice A2 n2 c2) (.inl (Nat.le_refl _))
    have kf2 := kf.trans ((KeepsOthers.setCell Wb ⟨w.heap.size, 0, none⟩ (.slice A2 n2 c2)).from wB.heap.size)
    have hFin : RowKit.Hid (KeepsFrom wB.heap.size W (Wb.setCell ⟨w.heap.size, 0, none⟩ (.slice A2 n2 c2)) ∧ ∃ o' v, SeqInv w o s o' v (pre ++ [x]) (Wb.setCell ⟨w.heap.size, 0, none⟩ (.slice A2 n2 c2))) :=
      ⟨kf2, ob, _, mch, m1, mrow, hnew⟩
    have hc1 := hi.box.cells
    have z1 := k1.cells
    have zf1 := k1.free
    obtain ⟨A, nn, cp, rfl⟩ := hi.row.shape3
    clear hi kf kf2 mch mrow m1 k1 kch hch2 hch1 hW1 hsl hold hnew hg hrow hperm hfactI
    subst hWa
    repeat (first | (refine wpListIn_append_step _ rfl _ _ _ _ rfl _ _ rfl rfl _ _ hrun ?_; clear hrun) | go_values | gi_guarded | gi_step | gi_upon)
    exact hFin.out
  case done =>
    rintro pre W hp ⟨o', v, hi⟩ hK
    have hc3 := hi.box.cells
    have hi' := Lib.hid hi; clear hi
    gi_wp2
    refine ⟨by simp, .inl ⟨_, _, rfl, run_takeDeferred hK, ?_⟩⟩
    exact ⟨_, results_tmp rfl _ _ _, v, pre, o', rfl, hp, hi'.out.row.putObj hK rfl _, hi'.out.chg.putObj _ (by omega), hi'.out.rb⟩
end Go.Proofs.YthliihmhkhabeaaGreatDoor
