/- Which frames are right: the first kinds. No condition. -/
import Derived.Test.YthliihmhkhabeaaGreatDoorIds41
import Derived.Test.YthliihmhkhabeaaGreatDoorIds42
import Derived.Laws.EntriesVeiled
import Derived.Test.YthliihmhkhabeaaGreatDoorIds37
namespace Go.Proofs.YthliihmhkhabeaaGreatDoor
open Go Go.RowKit

def Fr.small (f : Fr) : Bool := decide (f.id ≤ 4611686018427387903) && decide (f.a ≤ 4611686018427387903) && decide (f.b ≤ 4611686018427387903) && decide (f.code ≤ 4611686018427387903)
def kv0 : Array Value := #[.nilFunc, .nilFunc, .nilFunc, .nilFunc]
theorem infoKD : (Tryz.prog.info? 114).map (·.zero) = some (some (.agg kv0)) := by kernel_rfl
theorem zeroKD (w : World) : (zeroValue 114).run Tryz.prog w = .ok (.agg kv0) w := by
  have h := infoKD
  cases hi : Tryz.prog.info? 114 with
  | none => rw [hi] at h; cases h
  | some i =>
    rw [hi] at h
    have hz : i.zero = some (.agg kv0) := by simpa using h
    simp [zeroValue, typeInfo, hi, hz]
theorem LitK.look {w wx wy : World} {o : Own} {o1 : Own} (h : LitK w o kindsM wx) (hc : Chg [] wx (o.upd w.heap.size []) wy o1) (kd : Int) (v : Array Value) (hm : mget kindsM kd = some v) (ok : Bool) :
    (Instr.lookup 115 (.map (some w.heap.size)) (.int .i64 kd) ok).run Tryz.prog wy = .ok (if ok then .tuple #[.agg v, .bool true] else .agg v) wy := by
  have h1 := h.1.chg hc (off_nil _)
  have := run_lookup (P := Tryz.prog) (V := Value.agg) (z := .agg kv0) (PlainKey.int' Tryz.underlying3) Tryz.underlying115 zeroKD h1 kd ok
  rw [hm] at this
  refine Eq.trans this ?_
  cases ok <;> rfl


theorem run_max_int4 {P : Program} (w : World) (ts : Array TypeId) (t : TypeId) (k k' k'' k3 : IntKind) (x y z u : Int) : ∃ m : Int, (Builtin.max_ ts t #[.int k x, .int k' y, .int k'' z, .int k3 u]).run P w = .ok (.int k m) w ∧ (m = x ∨ m = y ∨ m = z ∨ m = u) ∧ x ≤ m ∧ y ≤ m ∧ z ≤ m ∧ u ≤ m := by
  refine ⟨(if u > (if z > (if y > x then y else x) then z else (if y > x then y else x)) then u else (if z > (if y > x then y else x) then z else (if y > x then y else x))), by simp [Builtin.max_, Builtin.max2], ?_⟩
  split <;> split <;> split <;> omega
/-- A block's cells, all stored anew. -/
theorem At.setCells {o : Own} {t : Tag} {b : Nat} {e : TypeId} : ∀ (vs : List Value) (i : Nat) (cur : Array Value) (w : World), At w o b t (.cells cur e (0, 0)) → i + vs.length ≤ cur.size → At (w.setCells b i vs) o b t (.cells (cur.toList.take i ++ vs ++ cur.toList.drop (i + vs.length)).toArray e (0, 0))
  | [], i, cur, w, h, _ => by
    simp only [List.append_nil, List.length_nil, Nat.add_zero, List.take_append_drop, Array.toArray_toList]
    exact h
  | v :: vs, i, cur, w, h, hl => by
    simp only [List.length_cons] at hl
    have h1 := At.setCells vs (i + 1) _ _ (h.set i v) (by rw [Array.size_setIfInBounds]; omega)
    have e1 : ((cur.setIfInBounds i v).toList.take (i + 1) ++ vs ++ (cur.setIfInBounds i v).toList.drop (i + 1 + vs.length)) = cur.toList.take i ++ (v :: vs) ++ cur.toList.drop (i + (v :: vs).length) := by
      have hi : i < cur.toList.length := by rw [Array.length_toList]; omega
      rw [Array.toList_setIfInBounds, List.take_add_one, List.take_set_of_le (Nat.le_refl _), List.getElem?_set_self hi, List.drop_set_of_lt (by omega)]
      simp [Nat.add_comm, Nat.add_left_comm]
    rw [e1] at h1
    exact h1
theorem At.setAll {w : World} {o : Own} {t : Tag} {b : Nat} {e : TypeId} {cur cs : Array Value} (h : At w o b t (.cells cur e (0, 0))) (hl : cs.size = cur.size) : At (w.setCells b 0 cs.toList) o b t (.cells cs e (0, 0)) := by
  have h1 := At.setCells cs.toList 0 cur w h (by rw [Array.length_toList]; omega)
  rw [List.take_zero, List.nil_append, List.drop_eq_nil_of_le (by rw [Array.length_toList, Array.length_toList]; omega), List.append_nil, Array.toArray_toList] at h1
  exact h1

theorem frOne' (f : Fr) {dv : Value} (hd : dv.oneCell' = true) : (f.cells dv nilS).all (·.oneCell') = true := Array.all_eq_true_iff_forall_mem.2 fun u hu => by
  have hu : u ∈ (f.cells dv nilS).toList := by simpa using hu
  simp only [Fr.cells, List.mem_cons, List.not_mem_nil, or_false] at hu
  rcases hu with rfl | rfl | rfl | rfl | rfl | rfl | rfl | rfl | rfl | rfl | rfl | rfl | rfl | rfl | rfl | rfl | rfl | rfl | rfl | rfl | rfl | rfl | rfl | rfl <;> first | rfl | exact hd
theorem newFr (w : World) (o : Own) : At (w.alloc (.cells (frZ.cells nilS nilS) 52)) (o.upd w.heap.size []) w.heap.size [] (.cells (frZ.cells nilS nilS) 52 (0, 0)) ∧ Chg [] w o (w.alloc (.cells (frZ.cells nilS nilS) 52)) (o.upd w.heap.size []) :=
  ⟨At.new w o [] _, ((Chg.refl [] w o).alloc _).tag (Nat.le_refl _) []⟩
def KCut (W : World) (o : Own) (KV : Array Value) (v3 : Value) (wx : World) : Prop := ∃ b o', v3 = .pointer (some ⟨b, 0, none⟩) ∧ Chg [] W o wx o' ∧ At wx o' b (o' b) (.cells KV 114 (0, 0)) ∧ W.heap.size ≤ b

set_option maxHeartbeats 4000000 in
set_option maxRecDepth 100000 in
theorem FRight_gen {w : World} {o : Own} (f : Fr) (dv : Value) (hf okf : Nat) (p2 p3 : Value) (h2 : p2.oneCell' = true) (h3 : p3.oneCell' = true) (hk : mget kindsM f.kind = some #[.func (.func hf) #[] #[], .func (.func okf) #[] #[], p2, p3])
    (sm : Bool) (hsm : sm = f.small) (g : Fr) (hH : ({ g with kind := f.kind } : Fr).headC = f.headC) {ts : Tag} (hd : Sl w o ts dv (f.data.map bv))
    (hch : ∀ (args : Array Value) (w : World), (callFunc hf args).run Tryz.prog w = .ok (.enter hf args) w) (hco : ∀ (args : Array Value) (w : World), (callFunc okf args).run Tryz.prog w = .ok (.enter okf args) w)
    (hhas : ∀ X oX, Chg [] w o X oX → Calls Tryz.prog hf #[.agg (f.cells dv nilS)] X (ValNew X oX (.agg (g.cells dv nilS))))
    (hok : ∀ X oX, Chg [] w o X oX → Calls Tryz.prog okf #[.agg (f.cells dv nilS)] X (ValNew X oX (.bool true))) :
    Calls Tryz.prog 62 #[.agg (f.cells dv nilS)] w (ValNew w o (.bool sm)) := by
  obtain ⟨C, W, hB⟩ := boxed w f dv nilS
  have hW := hB.eq
  have BAT : RowKit.Hid (At W o w.heap.size (o w.heap.size) (.cells (f.cells dv nilS) 52 (0, 0))) := ⟨(hB.at_ o).1, rfl⟩
  have hch0 := Lib.hid (hB.chg o)
  have b0 : W.cell? ⟨w.heap.size, 0, none⟩ = some (.int .i64 f.kind) := hB.cell 0
  obtain ⟨KV, hKV⟩ : ∃ KV : Array Value, KV = #[.func (.func hf) #[] #[], .func (.func okf) #[] #[], p2, p3] := ⟨_, rfl⟩
  have HKV := Lib.hid hKV
  have hKL : RowKit.Hid (∀ (w1 : World) (o1 : Own) (wx : World), LitK w1 o1 kindsM wx → ∀ wy o2, Chg [] wx (o1.upd w1.heap.size []) wy o2 → (Instr.lookup 115 (.map (some w1.heap.size)) (.int .i64 f.kind) true).run Tryz.prog wy = .ok (.tuple #[.agg #[.func (.func hf) #[] #[], .func (.func okf) #[] #[], p2, p3], .bool true]) wy) :=
    fun w1 o1 wx h wy o2 hc => h.look hc f.kind _ hk true
  rw [← hB.C]
  have S0 : W.drew.cell? ⟨w.heap.size, 0, none⟩ = some (.int .i64 f.kind) ∧ RowKit.Hid (∃ o', Chg [] W o W.drew o') := ⟨b0, o, (Chg.refl [] W o).drew⟩
  have HK : RowKit.Hid (∀ X, (X.cell? ⟨w.heap.size, 0, none⟩ = some (.int .i64 f.kind) ∧ RowKit.Hid (∃ o', Chg [] W o X o')) → Calls Tryz.prog 64 #[] X fun e w' => e = .returned (.map (some X.heap.size)) ∧ (w'.cell? ⟨w.heap.size, 0, none⟩ = some (.int .i64 f.kind) ∧ RowKit.Hid (∃ o', Chg [] W o w' o')) ∧
      (Instr.lookup 115 (.map (some X.heap.size)) (.int .i64 f.kind) true).run Tryz.prog w' = .ok (.tuple #[.agg #[.func (.func hf) #[] #[], .func (.func okf) #[] #[], p2, p3], .bool true]) w' ∧
      (Instr.lookup 115 (.map (some X.heap.size)) (.int .i64 f.kind) true).run Tryz.prog (w'.alloc (.cells #[.nilFunc, .nilFunc, .nilFunc, .nilFunc] 114)) = .ok (.tuple #[.agg #[.func (.func hf) #[] #[], .func (.func okf) #[] #[], p2, p3], .bool true]) (w'.alloc (.cells #[.nilFunc, .nilFunc, .nilFunc, .nilFunc] 114)) ∧
      RowKit.Hid (∀ b cs, X.heap[b]? = some (.cells cs 114 (0, 0)) → ∃ o', Chg [] W o w' o' ∧ At w' o' b (o' b) (.cells cs 114 (0, 0)))) := by
    show ∀ X, _ → _
    rintro X ⟨hb, o1, hc⟩
    refine (Fkinds_ok X o1).mono ?_
    rintro e w' ⟨rfl, hL⟩
    have hc2 : Chg [] W o w' _ := Chg.trans hc hL.2
    have h1 := hKL.out X o1 w' hL w' _ (Chg.refl _ _ _)
    have h2 := hKL.out X o1 w' hL (w'.alloc (.cells #[.nilFunc, .nilFunc, .nilFunc, .nilFunc] 114)) _ ((Chg.refl [] w' _).alloc _)
    refine ⟨rfl, ⟨(BAT.out.chg hc2 (off_nil _)).cells 0, _, hc2⟩, h1, h2, ?_⟩
    show ∀ b cs, _ → _
    intro b cs hbc
    have ha : At X o1 b (o1 b) (.cells cs 114 (0, 0)) := ⟨hbc, rfl⟩
    have ha2 := ha.chg hL.2 (off_nil _)
    exact ⟨_, hc2, ha2.1, rfl⟩
  have HA : RowKit.Hid (∀ X Z, (X.cell? ⟨w.heap.size, 0, none⟩ = some (.int .i64 f.kind) ∧ RowKit.Hid (∃ o', Chg [] W o X o')) → ((X.alloc Z).cell? ⟨w.heap.size, 0, none⟩ = some (.int .i64 f.kind) ∧ RowKit.Hid (∃ o', Chg [] W o (X.alloc Z) o'))) := by
    show ∀ X Z, _ → _
    rintro X Z ⟨_, o1, hc⟩
    have hc2 : Chg [] W o (X.alloc Z) o1 := Chg.alloc hc Z
    exact ⟨(BAT.out.chg hc2 (off_nil _)).cells 0, o1, hc2⟩
  have HA0 : RowKit.Hid (∀ Z, ((W.alloc Z).drew.cell? ⟨w.heap.size, 0, none⟩ = some (.int .i64 f.kind) ∧ RowKit.Hid (∃ o', Chg [] W o (W.alloc Z).drew o'))) := fun Z => HA.out W.drew Z S0
  have HSet : RowKit.Hid (∀ X, (X.cell? ⟨w.heap.size, 0, none⟩ = some (.int .i64 f.kind) ∧ RowKit.Hid (∃ o', Chg [] W o X o')) → (((((X.setCell ⟨W.heap.size, 0, none⟩ (.func (.func hf) #[] #[])).setCell ⟨W.heap.size, 1, none⟩ (.func (.func okf) #[] #[])).setCell ⟨W.heap.size, 2, none⟩ p2).setCell ⟨W.heap.size, 3, none⟩ p3).cell? ⟨w.heap.size, 0, none⟩ = some (.int .i64 f.kind) ∧
      RowKit.Hid (∃ o', Chg [] W o ((((X.setCell ⟨W.heap.size, 0, none⟩ (.func (.func hf) #[] #[])).setCell ⟨W.heap.size, 1, none⟩ (.func (.func okf) #[] #[])).setCell ⟨W.heap.size, 2, none⟩ p2).setCell ⟨W.heap.size, 3, none⟩ p3) o'))) := by
    show ∀ X, _ → _
    rintro X ⟨_, o1, hc⟩
    have hc2 := (((Chg.setCell (p := ⟨W.heap.size, 0, none⟩) hc (.func (.func hf) #[] #[]) (.inl (Nat.le_refl _))).setCell (p := ⟨W.heap.size, 1, none⟩) (.func (.func okf) #[] #[]) (.inl (Nat.le_refl _))).setCell (p := ⟨W.heap.size, 2, none⟩) p2 (.inl (Nat.le_refl _))).setCell (p := ⟨W.heap.size, 3, none⟩) p3 (.inl (Nat.le_refl _))
    exact ⟨(BAT.out.chg hc2 (off_nil _)).cells 0, o1, hc2⟩
  have hs2 : ∀ (X : World) (a : Addr) (m : Mode), (store a p2 m).run Tryz.prog X = stored Tryz.prog X a p2 m := fun X a m => run_store Tryz.prog X a p2 m h2
  have hs3 : ∀ (X : World) (a : Addr) (m : Mode), (store a p3 m).run Tryz.prog X = stored Tryz.prog X a p3 m := fun X a m => run_store Tryz.prog X a p3 m h3
  have Hsm := Lib.hid hsm
  have Hhas := Lib.hid hhas; have Hok := Lib.hid hok; have Hd := Lib.hid hd; have HH := Lib.hid hH
  clear hKL hB hKV hk hsm hhas hok hd hH
  go_enter Tryz.func62, Tryz.ntmps62
  go_upto_region 1 with fail
  rw [← hW]
  clear hW
  go_cut [3, 4] from 7 (fun v3 v4 wx => v4 = .bool true ∧ RowKit.Hid (KCut W o KV v3 wx))
  case first =>
    go_region_held3 (fun X => X.cell? ⟨w.heap.size, 0, none⟩ = some (.int .i64 f.kind) ∧ RowKit.Hid (∃ o', Chg [] W o X o')) (first | with_reducible exact S0 | with_reducible assumption | with_reducible exact HA0.out _ | with_reducible exact HA.out _ _ hS | with_reducible exact HSet.out _ hS)
      (first
        | (go_at_call 64; refine (HK.out (W.alloc (.cells #[.nilFunc, .nilFunc, .nilFunc, .nilFunc] 114)).drew (by assumption)).mono ?_; rintro e w' ⟨rfl, hS, hl1, hl2, hl3⟩; simp only [heap_drew, World.size_alloc] at hl1 hl2;
            obtain ⟨ox, hcx, hx⟩ := hl3.out W.heap.size #[.nilFunc, .nilFunc, .nilFunc, .nilFunc] (heap_alloc_new W _); have hx0 := Lib.hid hx; have HCX := Lib.hid hcx; have hx10 : w'.cell? ⟨W.heap.size, 0, none⟩ = some .nilFunc := hx.cells 0; have hx11 : w'.cell? ⟨W.heap.size, 1, none⟩ = some .nilFunc := hx.cells 1; have hx12 : w'.cell? ⟨W.heap.size, 2, none⟩ = some .nilFunc := hx.cells 2; have hx13 : w'.cell? ⟨W.heap.size, 3, none⟩ = some .nilFunc := hx.cells 3; have hxf := hx.free; clear hx hcx)
        | (go_at_call 64; refine (HK.out _ (by assumption)).mono ?_; rintro e w' ⟨rfl, hS, hl1, hl2, hl3⟩; simp only [heap_drew] at hl1 hl2))
    all_goals clear hl1 hl2 hs2 hs3 S0
    all_goals go_wp2
    all_goals go_meet
    all_goals refine ⟨rfl, ?_⟩
    all_goals rw [HKV.out]
    all_goals first
      | (obtain ⟨oy, hcy⟩ := hS.2.out; exact ⟨_, _, rfl, (hcy.alloc _).tag hcy.size [], ⟨heap_alloc_new w' _, rfl⟩, hcy.size⟩)
      | (exact ⟨_, ox, rfl, (((Chg.setCell (p := ⟨W.heap.size, 0, none⟩) HCX.out (.func (.func hf) #[] #[]) (.inl (Nat.le_refl _))).setCell (p := ⟨W.heap.size, 1, none⟩) (.func (.func okf) #[] #[]) (.inl (Nat.le_refl _))).setCell (p := ⟨W.heap.size, 2, none⟩) p2 (.inl (Nat.le_refl _))).setCell (p := ⟨W.heap.size, 3, none⟩) p3 (.inl (Nat.le_refl _)), (((hx0.out.set 0 (.func (.func hf) #[] #[])).set 1 (.func (.func okf) #[] #[])).set 2 p2).set 3 p3, Nat.le_refl _⟩)
  clear hs2 hs3 HK HA HA0 HSet S0
  obtain ⟨rfl, hcut⟩ := hcut
  obtain ⟨bk, o1, rfl, hC1, hAK, hbk⟩ := hcut.out
  clear hcut
  go_upto_region 2 with fail
  have hF1 := BAT.out.chg hC1 (off_nil _)
  have c1 : wc.cell? ⟨w.heap.size, 1, none⟩ = some (.int .u64 f.id) := hF1.cells 1
  have c2 : wc.cell? ⟨w.heap.size, 2, none⟩ = some (.int .u64 f.a) := hF1.cells 2
  have c3 : wc.cell? ⟨w.heap.size, 3, none⟩ = some (.int .u64 f.b) := hF1.cells 3
  have c4 : wc.cell? ⟨w.heap.size, 4, none⟩ = some (.int .u64 f.code) := hF1.cells 4
  have HF1 := Lib.hid hF1; have HC1 := Lib.hid hC1; have HAK := Lib.hid hAK
  clear hF1 hC1 hAK
  obtain ⟨mx, hmx, hm1, hm2, hm3, hm4, hm5⟩ := run_max_int4 (P := Tryz.prog) wc #[26, 26, 26, 26] 26 .u64 .u64 .u64 .u64 f.id f.a f.b f.code
  have hbig : RowKit.Hid (f.small = decide (mx ≤ 4611686018427387903)) := by
    show _ = _
    unfold Fr.small
    rw [Bool.eq_iff_iff]
    simp only [Bool.and_eq_true, decide_eq_true_eq]
    omega
  clear hm1 hm2 hm3 hm4 hm5
  by_cases hx : (4611686018427387903 : Int) < mx
  · have hsf : RowKit.Hid (sm = false) := by show _ = _; rw [Hsm.out, hbig.out]; exact decide_eq_false (by omega)
    go_wp2
    go_ret
    exact ⟨by rw [hsf.out]; rfl, o1, hch0.out.trans HC1.out⟩
  have hst : RowKit.Hid (sm = true) := by show _ = _; rw [Hsm.out, hbig.out]; exact decide_eq_true (by omega)
  have hhas : RowKit.Hid (Calls Tryz.prog hf #[.agg (f.cells dv nilS)] wc (ValNew wc o1 (.agg (g.cells dv nilS)))) := Hhas.out wc o1 (hch0.out.trans HC1.out)
  have hall : RowKit.Hid ((g.cells dv nilS).all (·.oneCell') = true) := frOne' g (by obtain ⟨A, c, rfl⟩ := Hd.out.shapeB; rfl)
  have k0 : wc.cell? ⟨bk, 0, none⟩ = some (.func (.func hf) #[] #[]) := by rw [HAK.out.cells 0, HKV.out]; rfl
  have hrg : RowKit.Hid (wc.rangeAt w.heap.size 0 (f.cells dv nilS).toList) := parRange' HF1.out.cells
  have Hsz : RowKit.Hid ((Tryz.prog.info? 52).map (·.size) = some (f.cells dv nilS).toList.length) := infoFR
  go_upto_region 4 with fail
  clear hmx c1 c2 c3 c4 hx hbig
  go_upto_region 5 with (first
    | (refine wpList_load_mid (P := Tryz.prog) rfl 52 _ rfl w.heap.size 0 rfl (f.cells dv nilS).toList _ hrg.out Tryz.underlying52 rfl Hsz.out ?_; simp only [Array.toArray_toList])
    | (refine hhas.out.mono ?_; rintro e w5 ⟨rfl, o5, hc5⟩; have HC5 := Lib.hid hc5; clear hc5; have hth : (w5.alloc (.cells #[.int .i64 0, .int .u64 0, .int .u64 0, .int .u64 0, .int .u64 0, .bool false, .slice none 0 0, .slice none 0 0, .int .u8 0, .int .u8 0, .int .u8 0, .int .u8 0, .int .u8 0, .int .u8 0, .int .u8 0, .int .u8 0, .int .u8 0, .int .u8 0, .int .u8 0, .int .u8 0, .int .u8 0, .int .u8 0, .int .u8 0, .int .u8 0] 52)).there w5.heap.size 0 24 := there_of (newFr w5 o5).1)
    | (refine wpList_store_mid (P := Tryz.prog) rfl 52 _ _ rfl w5.heap.size 0 (g.cells dv nilS) rfl rfl hth infoFR hall.out ?_))
  obtain ⟨hn1, hn2⟩ := newFr w5 o5
  have hst5 := hn1.setAll (cs := g.cells dv nilS) (by simp [Fr.cells])
  have hc6 : Chg [] w5 o5 _ _ := Chg.setCells (b := w5.heap.size) (g.cells dv nilS).toList 0 _ hn2 (.inl (Nat.le_refl _))
  obtain ⟨W6, hW6⟩ : ∃ W6, W6 = (w5.alloc (.cells (frZ.cells nilS nilS) 52)).setCells w5.heap.size 0 (g.cells dv nilS).toList := ⟨_, rfl⟩
  change Code.wp _ _ _ _ ((w5.alloc (.cells (frZ.cells nilS nilS) 52)).setCells w5.heap.size 0 (g.cells dv nilS).toList)
  rw [← hW6] at hst5 hc6 ⊢
  clear hW6 hn1 hn2 hth
  have hF6 := (HF1.out.chg HC5.out (off_nil _)).chg hc6 (off_nil _)
  have hK6 := (HAK.out.chg HC5.out (off_nil _)).chg hc6 (off_nil _)
  have e0 : W6.cell? ⟨w.heap.size, 0, none⟩ = some (.int .i64 f.kind) := hF6.cells 0
  have e1 : W6.cell? ⟨w5.heap.size, 0, none⟩ = some (.int .i64 g.kind) := hst5.cells 0
  have e2 := hst5.free 0
  have hne : w5.heap.size ≠ w.heap.size := by
    have h1 := HF1.out.lt; have h2 := HC5.out.size; omega
  have hne2 : w5.heap.size ≠ bk := by
    have h1 := HAK.out.lt; have h2 := HC5.out.size; omega
  have hg7 := hst5.set 0 (.int .i64 f.kind)
  have hF7 := hF6.far (p := ⟨w5.heap.size, 0, none⟩) (Ne.symm hne) (.int .i64 f.kind)
  have hK7 := hK6.far (p := ⟨w5.heap.size, 0, none⟩) (Ne.symm hne2) (.int .i64 f.kind)
  have hc7 : Chg [] w o (W6.setCell ⟨w5.heap.size, 0, none⟩ (.int .i64 f.kind)) _ := ((hch0.out.trans HC1.out).trans HC5.out).trans (hc6) |>.setCell (p := ⟨w5.heap.size, 0, none⟩) (.int .i64 f.kind) (.inl (by have h1 := (hch0.out.trans HC1.out).size; have h2 := HC5.out.size; simp only; omega))
  have HG7 := Lib.hid hg7; have HF7 := Lib.hid hF7; have HK7 := Lib.hid hK7; have HC7 := Lib.hid hc7
  clear hg7 hF7 hK7 hc7 hF6 hK6 hst5 hc6
  go_upto_region 6 with fail
  generalize W6.setCell ⟨w5.heap.size, 0, none⟩ (.int .i64 f.kind) = W7 at *
  clear e0 e1 e2 hne hne2 k0
  obtain ⟨g', hg'⟩ : ∃ g' : Fr, g' = { g with kind := f.kind } := ⟨_, rfl⟩
  have HAg : RowKit.Hid (At W7 (o5.upd w5.heap.size []) w5.heap.size [] (.cells (g'.cells dv nilS) 52 (0, 0))) := by rw [hg']; exact HG7.out
  have HHg : RowKit.Hid (g'.headC = f.headC) := by rw [hg']; exact HH.out
  clear hg'
  have hrg1 : RowKit.Hid (W7.rangeAt w.heap.size 0 (f.cells dv nilS).toList) := parRange' HF7.out.cells
  have hrg2 : RowKit.Hid (W7.rangeAt w5.heap.size 0 (g'.cells dv nilS).toList) := parRange' HAg.out.cells
  have Hsz2 : RowKit.Hid ((Tryz.prog.info? 52).map (·.size) = some (g'.cells dv nilS).toList.length) := infoFR
  have hS : RowKit.Hid (Calls Tryz.prog 89 #[.agg (f.cells dv nilS), .agg (g'.cells dv nilS)] W7 (ValNew W7 (o5.upd w5.heap.size []) (.bool true))) := FSame_ok f g' HHg.out dv (Hd.out.chg HC7.out (off_nil _))
  have hkk : RowKit.Hid (∀ W8 o8, Chg [] W7 (o5.upd w5.heap.size []) W8 o8 → W8.cell? ⟨bk, 1, none⟩ = some (.func (.func okf) #[] #[]) ∧ W8.rangeAt w.heap.size 0 (f.cells dv nilS).toList ∧ RowKit.Hid (Calls Tryz.prog okf #[.agg (f.cells dv nilS)] W8 (ValNew W8 o8 (.bool true)))) := by
    intro W8 o8 hc8
    refine ⟨?_, parRange' (HF7.out.chg hc8 (off_nil _)).cells, Hok.out W8 o8 (HC7.out.trans hc8)⟩
    rw [(HK7.out.chg hc8 (off_nil _)).cells 1, HKV.out]
    rfl
  go_wp2_with (first
    | (refine wpList_load_mid (P := Tryz.prog) rfl 52 _ rfl w.heap.size 0 rfl (f.cells dv nilS).toList _ hrg1.out Tryz.underlying52 rfl Hsz.out ?_; simp only [Array.toArray_toList])
    | (refine wpList_load_mid (P := Tryz.prog) rfl 52 _ rfl w5.heap.size 0 rfl (g'.cells dv nilS).toList _ hrg2.out Tryz.underlying52 rfl Hsz2.out ?_; simp only [Array.toArray_toList])
    | (go_at_call 89; refine hS.out.mono ?_; rintro e w8 ⟨rfl, o8, hc8⟩; obtain ⟨k8, hrg8, hok8⟩ := hkk.out w8 o8 hc8; have Hrg8 := Lib.hid hrg8; have HC8 := Lib.hid hc8; clear hc8 hrg8)
    | (refine wpList_load_mid_g (P := Tryz.prog) rfl 52 _ rfl w.heap.size 0 rfl (f.cells dv nilS).toList _ Hrg8.out Tryz.underlying52 rfl Hsz.out ?_; simp only [Array.toArray_toList])
    | (refine hok8.out.mono ?_; rintro e w9 ⟨rfl, o9, hc9⟩; have HC9 := Lib.hid hc9; clear hc9))
  go_ret
  exact ⟨by rw [hst.out]; rfl, o9, (HC7.out.trans HC8.out).trans HC9.out⟩
end Go.Proofs.YthliihmhkhabeaaGreatDoor
/- A frame's bytes: how many they are. No condition. -/
namespace Go.Proofs.YthliihmhkhabeaaGreatDoor
open Go Go.RowKit

theorem NewB.to {w _W : World} {o _oW : Own} {td : Tag} {n : Nat} {v : Value} {w' : World} (h : GatherB w o td n v w') : NewB w o td n (.returned v) w' := h.done
/-- One byte in a new block. -/
theorem oneByte {w X : World} {o oX : Own} (hc : Chg [] w o X oX) (z : Int) (td : Tag) : GatherAt w o td 1 (.slice (some ⟨X.heap.size, 0, none⟩) 1 1) (X.alloc (.cells #[.int .u8 z] 5)) (oX.upd X.heap.size td) :=
  ⟨[z], Row.of_form rfl (At.new X oX td _) (by simp) (by simp [maxLen]) rfl rfl, rfl, (hc.alloc _).tag hc.size td, fun g hg => by simp [Value.ownBlock] at hg; have := hc.size; omega⟩
theorem GatherAt.keep {w X Y : World} {o oX oY : Own} {td : Tag} {n : Nat} {v : Value} (h : GatherAt w o td n v X oX) (hc : Chg [] X oX Y oY) : GatherAt w o td n v Y oY := by
  obtain ⟨xs, h1, h2, h3, h4⟩ := h
  exact ⟨xs, h1.chg hc (off_nil _), h2, h3.trans hc, h4⟩

theorem fieldPut (p0 p1 p3 : Value) (pf : Nat) (X : World) : (Instr.field 114 (.agg #[p0, p1, .func (.func pf) #[] #[], p3]) 2).run Tryz.prog X = .ok (.func (.func pf) #[] #[]) X := by
  have hu := Tryz.underlying114
  have ha := Tryz.isAgg49
  simp [Instr.field, run_underlying hu, asAgg, part, ha]

theorem yieldsIf_load_arr {P : Program} {ops : Array Oper} {S : World → Prop} {op : Oper} {a : Act} (hw : Region.wanted op (yielded ops a.tmps) = true) (ty : TypeId) (x : Operand) (ho : op.op = .load ty x)
    (b o : Nat) (hx : a.eval x = .pointer (some ⟨b, o, none⟩)) (C : Array Value) (d : TypeDesc) (hS : ∀ w, S w → w.rangeAt b o C.toList)
    (hu : P.underlying ty = some d) (hd : d.isRow = true) (hi : (P.info? ty).map (·.size) = some C.toList.length) : YieldsIf P ops S op (.agg C) a := by
  have := yieldsIf_load_mid (P := P) (ops := ops) (S := S) hw ty x ho b o hx C.toList d hS hu hd hi
  rwa [Array.toArray_toList] at this
/-- A condition on the world, shut. -/
def KeepS (S : World → Prop) (X : World) : Prop := S X

set_option maxHeartbeats 4000000 in
set_option maxRecDepth 100000 in
theorem FPut_gen {w : World} {o : Own} (f : Fr) (dv : Value) (pf : Nat) (p0 p1 p3 : Value) (hk : mget kindsM f.kind = some #[p0, p1, .func (.func pf) #[] #[], p3]) (hk8 : (f.kind != 8) = true) (hk18 : (f.kind == 18) = false) (hk22 : (f.kind == 22) = false) (hk28 : (f.kind == 28) = false)
    (n : Nat) (hn : n ≤ 100000000) (td : Tag) (hpf : ∀ (args : Array Value) (w : World), (callFunc pf args).run Tryz.prog w = .ok (.enter pf args) w)
    (hR : ∀ X oX, Chg [] w o X oX → Calls Tryz.prog 62 #[.agg (f.cells dv nilS)] X (ValNew X oX (.bool true)))
    (hput : ∀ X oX, Chg [] w o X oX → Calls Tryz.prog pf #[.agg (f.cells dv nilS)] X (NewB X oX [] n)) :
    Calls Tryz.prog 35 #[.agg (f.cells dv nilS)] w (NewB w o td (1 + n)) := by
  obtain ⟨C, W, hB⟩ := boxed w f dv nilS
  have hW := hB.eq
  have BAT : RowKit.Hid (At W o w.heap.size (o w.heap.size) (.cells (f.cells dv nilS) 52 (0, 0))) := ⟨(hB.at_ o).1, rfl⟩
  have hch0 := Lib.hid (hB.chg o)
  have Hsz : RowKit.Hid ((Tryz.prog.info? 52).map (·.size) = some (f.cells dv nilS).toList.length) := infoFR
  have HR := Lib.hid (hR W o (hB.chg o))
  have hrg : RowKit.Hid (W.rangeAt w.heap.size 0 (f.cells dv nilS).toList) := parRange' BAT.out.cells
  have Hput := Lib.hid hput; have Hpf := Lib.hid hpf; have Hk := Lib.hid hk
  rw [← hB.C]
  clear hR hB hk hput
  go_enter Tryz.func35, Tryz.ntmps35
  go_upto_region 1 with fail
  rw [← hW]
  clear hW
  have hkk : RowKit.Hid (∀ W1 o1, Chg [] W o W1 o1 → W1.cell? ⟨w.heap.size, 0, none⟩ = some (.int .i64 f.kind)) := fun W1 o1 hc => (BAT.out.chg hc (off_nil _)).cells 0
  go_upto_region 4 with (first
    | (refine wpList_load_mid (P := Tryz.prog) rfl 52 _ rfl w.heap.size 0 rfl (f.cells dv nilS).toList _ hrg.out Tryz.underlying52 rfl Hsz.out ?_; simp only [Array.toArray_toList])
    | (go_at_call 62; refine HR.out.mono ?_; rintro e w1 ⟨rfl, o1, hc1⟩; have k1 := hkk.out _ _ hc1; have HC1 := Lib.hid hc1; clear hc1))
  go_upto_region 7 with fail
  clear k1 hrg hkk
  obtain ⟨S, hS⟩ : ∃ S : World → Prop, S = fun X => ∃ oX, Chg [] W o X oX := ⟨_, rfl⟩
  have HI : RowKit.Hid (∀ X, KeepS S X → ∃ oX, Chg [] W o X oX) := by
    show ∀ X, _ → _
    intro X h
    rw [hS] at h
    exact h
  have HS : RowKit.Hid (∀ X oX, Chg [] W o X oX → KeepS S X) := by
    show ∀ X oX, _ → _
    intro X oX h
    rw [hS]
    exact ⟨oX, h⟩
  clear hS
  have hrr : RowKit.Hid (∀ X, KeepS S X → ∀ j, X.cell? ⟨w.heap.size, j, none⟩ = (f.cells dv nilS)[j]?) := fun X h => by
    obtain ⟨oX, hc⟩ := HI.out X h
    exact (BAT.out.chg hc (off_nil _)).cells
  have r0 : ∀ X, KeepS S X → X.cell? ⟨w.heap.size, 0, none⟩ = some (.int .i64 f.kind) := fun X h => hrr.out X h 0
  have hrg : RowKit.Hid (∀ X, KeepS S X → X.rangeAt w.heap.size 0 (f.cells dv nilS).toList) := fun X h => parRange' (hrr.out X h)
  have HA : RowKit.Hid (∀ X Z, KeepS S X → KeepS S (X.alloc Z)) := by
    show ∀ X Z, _ → _
    intro X Z h
    obtain ⟨oX, hc⟩ := HI.out X h
    exact HS.out _ oX (hc.alloc Z)
  have S0 : KeepS S w1.drew := HS.out _ _ HC1.out.drew
  have HA0 : RowKit.Hid (∀ Z, KeepS S (w1.alloc Z).drew) := fun Z => HS.out _ o1 (HC1.out.alloc Z).drew
  have hKL : RowKit.Hid (∀ (wa : World) (oa : Own) (wx : World), LitK wa oa kindsM wx → ∀ wy o2, Chg [] wx (oa.upd wa.heap.size []) wy o2 → (Instr.lookup 115 (.map (some wa.heap.size)) (.int .i64 f.kind) false).run Tryz.prog wy = .ok (.agg #[p0, p1, .func (.func pf) #[] #[], p3]) wy) :=
    fun wa oa wx h wy o2 hc => h.look hc f.kind _ Hk.out false
  have hSG : RowKit.Hid (∀ n td v X, GatherB W o td n v X → KeepS S X) := by
    show ∀ n td v X, _ → _
    rintro n td v X ⟨oX, h⟩
    exact HS.out _ oX h.chg
  have hfd := fieldPut p0 p1 p3 pf
  have hpf := Hpf.out
  refine wp_region_held_drew (S := KeepS S) (by kernel_rfl) S0 (fun hHeld => ?_)
  refine wpAnyH_take (i := 0) rfl (by kernel_rfl) (by kernel_rfl) (by kernel_rfl) (fun _ _ _ h => h) (Or.inl ⟨by rfl, fun X hX => by go_simp; with_reducible rfl⟩) (by assumption) ?_
  try simp only [Act.put, List.getElem_toArray, List.getElem_cons_zero, List.setIfInBounds_toArray, List.set_cons_zero, List.set_cons_succ]
  refine wpAnyH_take (i := 1) rfl (by kernel_rfl) (by kernel_rfl) (by kernel_rfl) (fun _ _ _ h => h) (Or.inl ⟨by rfl, fun X hX => by go_simp; with_reducible rfl⟩) (by assumption) ?_
  try simp only [Act.put, List.getElem_toArray, List.getElem_cons_zero, List.getElem_cons_succ, List.setIfInBounds_toArray, List.set_cons_zero, List.set_cons_succ]
  refine wpAnyH_take (i := 4) rfl (by kernel_rfl) (by kernel_rfl) (by kernel_rfl) (fun _ _ _ h => h) (Or.inl ⟨by rfl, fun X hX => by go_simp; with_reducible rfl⟩) (by assumption) ?_
  try simp only [Act.put, List.getElem_toArray, List.getElem_cons_zero, List.getElem_cons_succ, List.setIfInBounds_toArray, List.set_cons_zero, List.set_cons_succ]
  refine wpAnyH_take (i := 5) rfl (by kernel_rfl) (by kernel_rfl) (by kernel_rfl) (fun _ _ _ h => h) (Or.inl ⟨by rfl, fun X hX => by go_simp; with_reducible rfl⟩) (by assumption) ?_
  try simp only [Act.put, List.getElem_toArray, List.getElem_cons_zero, List.getElem_cons_succ, List.setIfInBounds_toArray, List.set_cons_zero, List.set_cons_succ]
  refine' wpAnyH_take (i := 8) (v := _) rfl (by kernel_rfl) (by kernel_rfl) (by kernel_rfl) (fun _ _ _ h => h) (yieldsIf_load_arr (by rfl) _ _ rfl w.heap.size 0 rfl (f.cells dv nilS) _ hrg.out Tryz.underlying52 rfl Hsz.out) (by assumption) ?_
  try simp only [Act.put, List.getElem_toArray, List.getElem_cons_zero, List.getElem_cons_succ, List.setIfInBounds_toArray, List.set_cons_zero, List.set_cons_succ]
  clear r0
  refine wpAnyH_ready (rs := [2, 3]) (by kernel_rfl) (by simp) ?_
  refine AllReadyH.cons rfl (fun K hK => ?_) (AllReadyH.cons rfl (fun K hK => ?_) AllReadyH.nil)
  · go_simp
    refine hK.out _ _ (HA0.out _) (fun hHeld => ?_)
    clear hK K
    try simp only [Act.put, List.getElem_toArray, List.getElem_cons_zero, List.getElem_cons_succ, List.setIfInBounds_toArray, List.set_cons_zero, List.set_cons_succ]
    refine wpAnyH_ready (rs := [3]) (by kernel_rfl) (by simp) ?_
    refine AllReadyH.cons rfl (fun K hK => ?_) AllReadyH.nil
    go_simp
    refine (Fkinds_ok (w1.alloc (.cells #[.int .u8 (IntKind.u8.wrap f.kind)] 5)).drew (o1.upd w1.heap.size td)).mono ?_
    rintro e w' ⟨rfl, hL⟩
    have hG1 := ((oneByte HC1.out (IntKind.u8.wrap f.kind) td).keep (Chg.refl [] _ _).drew).keep hL.2
    have hl1 := hKL.out _ _ w' hL w' _ (Chg.refl _ _ _)
    simp only [heap_drew, World.size_alloc] at hl1
    have HG1 := Lib.hid hG1
    clear hL hG1
    go_wp2_with fail
    refine hK.out _ _ (hSG.out _ _ _ _ ⟨_, HG1.out⟩) (fun hHeld => ?_)
    clear hK K
    try simp only [Act.put, List.getElem_toArray, List.getElem_cons_zero, List.getElem_cons_succ, List.setIfInBounds_toArray, List.set_cons_zero, List.set_cons_succ]
    refine wpAnyH_ready (rs := [6]) (by kernel_rfl) (by simp) ?_
    refine AllReadyH.cons rfl (fun K hK => ?_) AllReadyH.nil
    go_simp
    refine hK.out _ _ (hSG.out _ _ _ _ ⟨_, HG1.out⟩) (fun hHeld => ?_)
    clear hK K
    try simp only [Act.put, List.getElem_toArray, List.getElem_cons_zero, List.getElem_cons_succ, List.setIfInBounds_toArray, List.set_cons_zero, List.set_cons_succ]
    refine wpAnyH_take (i := 7) rfl (by kernel_rfl) (by kernel_rfl) (by kernel_rfl) (fun _ _ _ h => h) (Or.inl ⟨by rfl, fun X hX => by go_simp; with_reducible rfl⟩) (by assumption) ?_
    try simp only [Act.put, List.getElem_toArray, List.getElem_cons_zero, List.getElem_cons_succ, List.setIfInBounds_toArray, List.set_cons_zero, List.set_cons_succ]
    refine wpAnyH_ready (rs := [9]) (by kernel_rfl) (by simp) ?_
    refine AllReadyH.cons rfl (fun K hK => ?_) AllReadyH.nil
    go_simp
    refine (Hput.out w' _ (hch0.out.trans HG1.out.chg)).mono ?_
    rintro e w2 ⟨v2, ys, o2, rfl, p1, p2, p3, p4⟩
    obtain ⟨A2, c2, rfl⟩ := newShape p1 p2
    obtain ⟨A4, n4, c4, w4, e1, e2⟩ := HG1.out.step p3 p1.sl (by rw [List.length_map, p2]) (by omega) 42 ⟨ys, rfl⟩
    have HC2 := Lib.hid (HG1.out.chg.trans p3)
    clear p1 p2 p3 p4
    go_wp2_with fail
    refine hK.out _ _ (HS.out w2 _ HC2.out) (fun hHeld => ?_)
    clear hK K
    try simp only [Act.put, List.getElem_toArray, List.getElem_cons_zero, List.getElem_cons_succ, List.setIfInBounds_toArray, List.set_cons_zero, List.set_cons_succ]
    refine wpAnyH_ready (rs := [10]) (by kernel_rfl) (by simp) ?_
    refine AllReadyH.cons rfl (fun K hK => ?_) AllReadyH.nil
    refine step_append_run rfl (.tmp 33) (.tmp 40) 42 42 rfl _ _ rfl rfl _ _ e1 ?_
    refine hK.out _ _ (hSG.out _ _ _ _ e2.out) (fun hHeld => ?_)
    clear hK K
    try simp only [Act.put, List.getElem_toArray, List.getElem_cons_zero, List.getElem_cons_succ, List.setIfInBounds_toArray, List.set_cons_zero, List.set_cons_succ]
    refine wpAnyH_take (i := 11) rfl (by kernel_rfl) (by kernel_rfl) (by kernel_rfl) (fun _ _ _ h => h) (Or.inl ⟨by rfl, fun X hX => by go_simp; with_reducible rfl⟩) (by assumption) ?_
    try simp only [Act.put, List.getElem_toArray, List.getElem_cons_zero, List.getElem_cons_succ, List.setIfInBounds_toArray, List.set_cons_zero, List.set_cons_succ]
    refine wpAnyH_done (by kernel_rfl) ?_ _
    go_wp2
    go_ret
    exact NewB.from hch0.out e2.out.done
  · go_simp
    refine (Fkinds_ok w1.drew o1).mono ?_
    rintro e w' ⟨rfl, hL⟩
    have hl1 := hKL.out _ _ w' hL w' _ (Chg.refl _ _ _)
    have hl2 := hKL.out _ _ w' hL (w'.alloc (.cells #[.int .u8 (IntKind.u8.wrap f.kind)] 5)) _ ((Chg.refl [] w' _).alloc _)
    simp only [heap_drew] at hl1 hl2
    have HCx := Lib.hid (HC1.out.drew.trans hL.2)
    clear hL
    go_wp2_with fail
    refine hK.out _ _ (HS.out w' _ HCx.out) (fun hHeld => ?_)
    clear hK K
    try simp only [Act.put, List.getElem_toArray, List.getElem_cons_zero, List.getElem_cons_succ, List.setIfInBounds_toArray, List.set_cons_zero, List.set_cons_succ]
    refine wpAnyH_ready (rs := [2, 6]) (by kernel_rfl) (by simp) ?_
    refine AllReadyH.cons rfl (fun K hK => ?_) (AllReadyH.cons rfl (fun K hK => ?_) AllReadyH.nil)
    · go_simp
      have HG := Lib.hid (oneByte HCx.out (IntKind.u8.wrap f.kind) td)
      refine hK.out _ _ (HA.out _ _ hHeld) (fun hHeld => ?_)
      clear hK K
      try simp only [Act.put, List.getElem_toArray, List.getElem_cons_zero, List.getElem_cons_succ, List.setIfInBounds_toArray, List.set_cons_zero, List.set_cons_succ]
      refine wpAnyH_ready (rs := [6]) (by kernel_rfl) (by simp) ?_
      refine AllReadyH.cons rfl (fun K hK => ?_) AllReadyH.nil
      go_simp
      refine hK.out _ _ (HA.out _ _ (HS.out w' _ HCx.out)) (fun hHeld => ?_)
      clear hK K
      try simp only [Act.put, List.getElem_toArray, List.getElem_cons_zero, List.getElem_cons_succ, List.setIfInBounds_toArray, List.set_cons_zero, List.set_cons_succ]
      refine wpAnyH_take (i := 7) rfl (by kernel_rfl) (by kernel_rfl) (by kernel_rfl) (fun _ _ _ h => h) (Or.inl ⟨by rfl, fun X hX => by go_simp; with_reducible rfl⟩) (by assumption) ?_
      try simp only [Act.put, List.getElem_toArray, List.getElem_cons_zero, List.getElem_cons_succ, List.setIfInBounds_toArray, List.set_cons_zero, List.set_cons_succ]
      refine wpAnyH_ready (rs := [9]) (by kernel_rfl) (by simp) ?_
      refine AllReadyH.cons rfl (fun K hK => ?_) AllReadyH.nil
      go_simp
      refine (Hput.out _ _ (hch0.out.trans HG.out.chg)).mono ?_
      rintro e w2 ⟨v2, ys, o2, rfl, p1, p2, p3, p4⟩
      obtain ⟨A2, c2, rfl⟩ := newShape p1 p2
      obtain ⟨A4, n4, c4, w4, e1, e2⟩ := HG.out.step p3 p1.sl (by rw [List.length_map, p2]) (by omega) 42 ⟨ys, rfl⟩
      have HC2 := Lib.hid (HG.out.chg.trans p3)
      clear p1 p2 p3 p4
      go_wp2_with fail
      refine hK.out _ _ (HS.out w2 _ HC2.out) (fun hHeld => ?_)
      clear hK K
      try simp only [Act.put, List.getElem_toArray, List.getElem_cons_zero, List.getElem_cons_succ, List.setIfInBounds_toArray, List.set_cons_zero, List.set_cons_succ]
      refine wpAnyH_ready (rs := [10]) (by kernel_rfl) (by simp) ?_
      refine AllReadyH.cons rfl (fun K hK => ?_) AllReadyH.nil
      refine step_append_run rfl (.tmp 33) (.tmp 40) 42 42 rfl _ _ rfl rfl _ _ e1 ?_
      refine hK.out _ _ (hSG.out _ _ _ _ e2.out) (fun hHeld => ?_)
      clear hK K
      try simp only [Act.put, List.getElem_toArray, List.getElem_cons_zero, List.getElem_cons_succ, List.setIfInBounds_toArray, List.set_cons_zero, List.set_cons_succ]
      refine wpAnyH_take (i := 11) rfl (by kernel_rfl) (by kernel_rfl) (by kernel_rfl) (fun _ _ _ h => h) (Or.inl ⟨by rfl, fun X hX => by go_simp; with_reducible rfl⟩) (by assumption) ?_
      try simp only [Act.put, List.getElem_toArray, List.getElem_cons_zero, List.getElem_cons_succ, List.setIfInBounds_toArray, List.set_cons_zero, List.set_cons_succ]
      refine wpAnyH_done (by kernel_rfl) ?_ _
      go_wp2
      go_ret
      exact NewB.from hch0.out e2.out.done
    · go_simp
      refine hK.out _ _ (HS.out w' _ HCx.out) (fun hHeld => ?_)
      clear hK K
      try simp only [Act.put, List.getElem_toArray, List.getElem_cons_zero, List.getElem_cons_succ, List.setIfInBounds_toArray, List.set_cons_zero, List.set_cons_succ]
      refine wpAnyH_take (i := 7) rfl (by kernel_rfl) (by kernel_rfl) (by kernel_rfl) (fun _ _ _ h => h) (Or.inl ⟨by rfl, fun X hX => by go_simp; with_reducible rfl⟩) (by assumption) ?_
      try simp only [Act.put, List.getElem_toArray, List.getElem_cons_zero, List.getElem_cons_succ, List.setIfInBounds_toArray, List.set_cons_zero, List.set_cons_succ]
      refine wpAnyH_ready (rs := [2, 9]) (by kernel_rfl) (by simp) ?_
      refine AllReadyH.cons rfl (fun K hK => ?_) (AllReadyH.cons rfl (fun K hK => ?_) AllReadyH.nil)
      · go_simp
        have HG := Lib.hid (oneByte HCx.out (IntKind.u8.wrap f.kind) td)
        refine hK.out _ _ (HA.out _ _ hHeld) (fun hHeld => ?_)
        clear hK K
        try simp only [Act.put, List.getElem_toArray, List.getElem_cons_zero, List.getElem_cons_succ, List.setIfInBounds_toArray, List.set_cons_zero, List.set_cons_succ]
        refine wpAnyH_ready (rs := [9]) (by kernel_rfl) (by simp) ?_
        refine AllReadyH.cons rfl (fun K hK => ?_) AllReadyH.nil
        go_simp
        refine (Hput.out _ _ (hch0.out.trans HG.out.chg)).mono ?_
        rintro e w2 ⟨v2, ys, o2, rfl, p1, p2, p3, p4⟩
        obtain ⟨A2, c2, rfl⟩ := newShape p1 p2
        obtain ⟨A4, n4, c4, w4, e1, e2⟩ := HG.out.step p3 p1.sl (by rw [List.length_map, p2]) (by omega) 42 ⟨ys, rfl⟩
        have HC2 := Lib.hid (HG.out.chg.trans p3)
        clear p1 p2 p3 p4
        go_wp2_with fail
        refine hK.out _ _ (HS.out w2 _ HC2.out) (fun hHeld => ?_)
        clear hK K
        try simp only [Act.put, List.getElem_toArray, List.getElem_cons_zero, List.getElem_cons_succ, List.setIfInBounds_toArray, List.set_cons_zero, List.set_cons_succ]
        refine wpAnyH_ready (rs := [10]) (by kernel_rfl) (by simp) ?_
        refine AllReadyH.cons rfl (fun K hK => ?_) AllReadyH.nil
        refine step_append_run rfl (.tmp 33) (.tmp 40) 42 42 rfl _ _ rfl rfl _ _ e1 ?_
        refine hK.out _ _ (hSG.out _ _ _ _ e2.out) (fun hHeld => ?_)
        clear hK K
        try simp only [Act.put, List.getElem_toArray, List.getElem_cons_zero, List.getElem_cons_succ, List.setIfInBounds_toArray, List.set_cons_zero, List.set_cons_succ]
        refine wpAnyH_take (i := 11) rfl (by kernel_rfl) (by kernel_rfl) (by kernel_rfl) (fun _ _ _ h => h) (Or.inl ⟨by rfl, fun X hX => by go_simp; with_reducible rfl⟩) (by assumption) ?_
        try simp only [Act.put, List.getElem_toArray, List.getElem_cons_zero, List.getElem_cons_succ, List.setIfInBounds_toArray, List.set_cons_zero, List.set_cons_succ]
        refine wpAnyH_done (by kernel_rfl) ?_ _
        go_wp2
        go_ret
        exact NewB.from hch0.out e2.out.done
      · go_simp
        refine (Hput.out w' _ (hch0.out.trans HCx.out)).mono ?_
        rintro e w2 ⟨v2, ys, o2, rfl, p1, p2, p3, p4⟩
        obtain ⟨A2, c2, rfl⟩ := newShape p1 p2
        have HC2 := Lib.hid (HCx.out.trans p3)
        have hGB := oneByte HC2.out (IntKind.u8.wrap f.kind) td
        obtain ⟨A4, n4, c4, w4, e1, e2⟩ := hGB.step (Chg.refl [] _ _) (p1.sl.chg (((Chg.refl [] w2 o2).alloc _).tag (Nat.le_refl _) td) (off_nil _)) (by rw [List.length_map, p2]) (by omega) 42 ⟨ys, rfl⟩
        clear p1 p2 p3 p4 hGB
        go_wp2_with fail
        refine hK.out _ _ (HS.out w2 _ HC2.out) (fun hHeld => ?_)
        clear hK K
        try simp only [Act.put, List.getElem_toArray, List.getElem_cons_zero, List.getElem_cons_succ, List.setIfInBounds_toArray, List.set_cons_zero, List.set_cons_succ]
        refine wpAnyH_ready (rs := [2]) (by kernel_rfl) (by simp) ?_
        refine AllReadyH.cons rfl (fun K hK => ?_) AllReadyH.nil
        go_simp
        refine hK.out _ _ (HA.out _ _ (HS.out w2 _ HC2.out)) (fun hHeld => ?_)
        clear hK K
        try simp only [Act.put, List.getElem_toArray, List.getElem_cons_zero, List.getElem_cons_succ, List.setIfInBounds_toArray, List.set_cons_zero, List.set_cons_succ]
        refine wpAnyH_ready (rs := [10]) (by kernel_rfl) (by simp) ?_
        refine AllReadyH.cons rfl (fun K hK => ?_) AllReadyH.nil
        refine step_append_run rfl (.tmp 33) (.tmp 40) 42 42 rfl _ _ rfl rfl _ _ e1 ?_
        refine hK.out _ _ (hSG.out _ _ _ _ e2.out) (fun hHeld => ?_)
        clear hK K
        try simp only [Act.put, List.getElem_toArray, List.getElem_cons_zero, List.getElem_cons_succ, List.setIfInBounds_toArray, List.set_cons_zero, List.set_cons_succ]
        refine wpAnyH_take (i := 11) rfl (by kernel_rfl) (by kernel_rfl) (by kernel_rfl) (fun _ _ _ h => h) (Or.inl ⟨by rfl, fun X hX => by go_simp; with_reducible rfl⟩) (by assumption) ?_
        try simp only [Act.put, List.getElem_toArray, List.getElem_cons_zero, List.getElem_cons_succ, List.setIfInBounds_toArray, List.set_cons_zero, List.set_cons_succ]
        refine wpAnyH_done (by kernel_rfl) ?_ _
        go_wp2
        go_ret
        exact NewB.from hch0.out e2.out.done
end Go.Proofs.YthliihmhkhabeaaGreatDoor
/- Frames without bytes are put: how many bytes they have. No condition. -/
namespace Go.Proofs.YthliihmhkhabeaaGreatDoor
open Go Go.RowKit

def frMD (a : Nat) : Fr := { frZ with kind := 16, a := a }
theorem small_of (f : Fr) (h1 : f.id ≤ 4611686018427387903) (h2 : f.a ≤ 4611686018427387903) (h3 : f.b ≤ 4611686018427387903) (h4 : f.code ≤ 4611686018427387903) : true = f.small := by
  simp [Fr.small, h1, h2, h3, h4]
theorem isum_le8 : ∀ l : List Nat, isum l ≤ 8 * l.length
  | [] => by simp [isum]
  | n :: l => by
    have h1 := isum_le8 l
    have h2 := vsize_le n
    unfold isum at *
    simp only [List.map_cons, List.sum_cons, List.length_cons]
    omega

theorem FRight_Reset {w : World} (o : Own) (id code a : Nat) (hid : id ≤ 4611686018427387903) (hcode : code ≤ 4611686018427387903) (ha : a ≤ 4611686018427387903) :
    Calls Tryz.prog 62 #[.agg ((frReset id code a).cells nilS nilS)] w (ValNew w o (.bool true)) :=
  FRight_gen (frReset id code a) nilS 114 109 (fnV 115) (fnV 116) rfl rfl rfl true (small_of _ hid ha (Nat.zero_le _) hcode) (hasResetG (frReset id code a)) rfl (Sl.nil w o []) (enter_of Tryz.func114 (by kernel_rfl) (by kernel_rfl)) (enter_of Tryz.func109 (by kernel_rfl) (by kernel_rfl))
    (fun X oX _ => hasReset_ok oX (frReset id code a) nilS nilS) (fun X oX _ => Ffine_ok oX (frReset id code a) nilS nilS)
theorem FPut_Reset {w : World} {o : Own} (hg : GTab w o) (id code a : Nat) (hid : id ≤ 4611686018427387903) (hcode : code ≤ 4611686018427387903) (ha : a ≤ 4611686018427387903) (td : Tag) :
    Calls Tryz.prog 35 #[.agg ((frReset id code a).cells nilS nilS)] w (NewB w o td (1 + isum [id, code, a])) :=
  FPut_gen (frReset id code a) nilS 115 (fnV 114) (fnV 109) (fnV 116) rfl rfl rfl rfl rfl (isum [id, code, a]) (Nat.le_trans (isum_le8 _) (by simp)) td (enter_of Tryz.func115 (by kernel_rfl) (by kernel_rfl))
    (fun X oX _ => FRight_Reset oX id code a hid hcode ha)
    (fun X oX hc => putReset_ok (hg.chg hc (off_nil _)) (frReset id code a) nilS nilS (by show id < _; omega) (by show code < _; omega) (by show a < _; omega) [])

theorem FRight_Stop {w : World} (o : Own) (id code : Nat) (hid : id ≤ 4611686018427387903) (hcode : code ≤ 4611686018427387903) :
    Calls Tryz.prog 62 #[.agg ((frStop id code).cells nilS nilS)] w (ValNew w o (.bool true)) :=
  FRight_gen (frStop id code) nilS 117 109 (fnV 118) (fnV 119) rfl rfl rfl true (small_of _ hid (Nat.zero_le _) (Nat.zero_le _) hcode) (hasStopG (frStop id code)) rfl (Sl.nil w o []) (enter_of Tryz.func117 (by kernel_rfl) (by kernel_rfl)) (enter_of Tryz.func109 (by kernel_rfl) (by kernel_rfl))
    (fun X oX _ => hasStop_ok oX (frStop id code) nilS nilS) (fun X oX _ => Ffine_ok oX (frStop id code) nilS nilS)
theorem FPut_Stop {w : World} {o : Own} (hg : GTab w o) (id code : Nat) (hid : id ≤ 4611686018427387903) (hcode : code ≤ 4611686018427387903) (td : Tag) :
    Calls Tryz.prog 35 #[.agg ((frStop id code).cells nilS nilS)] w (NewB w o td (1 + isum [id, code])) :=
  FPut_gen (frStop id code) nilS 118 (fnV 117) (fnV 109) (fnV 119) rfl rfl rfl rfl rfl (isum [id, code]) (Nat.le_trans (isum_le8 _) (by simp)) td (enter_of Tryz.func118 (by kernel_rfl) (by kernel_rfl))
    (fun X oX _ => FRight_Stop oX id code hid hcode)
    (fun X oX hc => putStop_ok (hg.chg hc (off_nil _)) (frStop id code) nilS nilS (by show id < _; omega) (by show code < _; omega) [])

theorem FRight_MD {w : World} (o : Own) (a : Nat) (ha : a ≤ 4611686018427387903) :
    Calls Tryz.prog 62 #[.agg ((frMD a).cells nilS nilS)] w (ValNew w o (.bool true)) :=
  FRight_gen (frMD a) nilS 96 109 (fnV 101) (fnV 90) rfl rfl rfl true (small_of _ (Nat.zero_le _) ha (Nat.zero_le _) (Nat.zero_le _)) (hasAG (frMD a)) rfl (Sl.nil w o []) (enter_of Tryz.func96 (by kernel_rfl) (by kernel_rfl)) (enter_of Tryz.func109 (by kernel_rfl) (by kernel_rfl))
    (fun X oX _ => hasA_ok oX (frMD a) nilS nilS) (fun X oX _ => Ffine_ok oX (frMD a) nilS nilS)
theorem FPut_MD {w : World} {o : Own} (hg : GTab w o) (a : Nat) (ha : a ≤ 4611686018427387903) (td : Tag) :
    Calls Tryz.prog 35 #[.agg ((frMD a).cells nilS nilS)] w (NewB w o td (1 + isum [a])) :=
  FPut_gen (frMD a) nilS 101 (fnV 96) (fnV 109) (fnV 90) rfl rfl rfl rfl rfl (isum [a]) (Nat.le_trans (isum_le8 _) (by simp)) td (enter_of Tryz.func101 (by kernel_rfl) (by kernel_rfl))
    (fun X oX _ => FRight_MD oX a ha)
    (fun X oX hc => putA_ok (hg.chg hc (off_nil _)) (frMD a) nilS nilS (by show a < _; omega) [])

theorem FRight_Msd {w : World} (o : Own) (id a : Nat) (hid : id ≤ 4611686018427387903) (ha : a ≤ 4611686018427387903) :
    Calls Tryz.prog 62 #[.agg ((frMsd id a).cells nilS nilS)] w (ValNew w o (.bool true)) :=
  FRight_gen (frMsd id a) nilS 97 109 (fnV 102) (fnV 93) rfl rfl rfl true (small_of _ hid ha (Nat.zero_le _) (Nat.zero_le _)) (hasBothG (frMsd id a)) rfl (Sl.nil w o []) (enter_of Tryz.func97 (by kernel_rfl) (by kernel_rfl)) (enter_of Tryz.func109 (by kernel_rfl) (by kernel_rfl))
    (fun X oX _ => hasBoth_ok oX (frMsd id a) nilS nilS) (fun X oX _ => Ffine_ok oX (frMsd id a) nilS nilS)
theorem FPut_Msd {w : World} {o : Own} (hg : GTab w o) (id a : Nat) (hid : id ≤ 4611686018427387903) (ha : a ≤ 4611686018427387903) (td : Tag) :
    Calls Tryz.prog 35 #[.agg ((frMsd id a).cells nilS nilS)] w (NewB w o td (1 + isum [id, a])) :=
  FPut_gen (frMsd id a) nilS 102 (fnV 97) (fnV 109) (fnV 93) rfl rfl rfl rfl rfl (isum [id, a]) (Nat.le_trans (isum_le8 _) (by simp)) td (enter_of Tryz.func102 (by kernel_rfl) (by kernel_rfl))
    (fun X oX _ => FRight_Msd oX id a hid ha)
    (fun X oX hc => putBoth_ok (hg.chg hc (off_nil _)) (frMsd id a) nilS nilS (by show id < _; omega) (by show a < _; omega) [])
end Go.Proofs.YthliihmhkhabeaaGreatDoor
