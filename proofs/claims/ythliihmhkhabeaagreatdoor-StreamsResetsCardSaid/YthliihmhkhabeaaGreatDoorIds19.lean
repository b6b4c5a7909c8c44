/- A block beside a table: a tag that nothing of the table bears; a frame stored whole, handed back whole. No condition. -/
import Derived.Test.YthliihmhkhabeaaGreatDoorIds18
import Derived.Laws.ResultCell
import Derived.Deep.MidRow
namespace Go.Proofs.YthliihmhkhabeaaGreatDoor
open Go Go.RowKit

/-- A tag that lies neither above nor below a table's. -/
def gtag (t : Tag) : Tag := [t.getLastD 0 + 1]
theorem last_suffix {t u : Tag} (ht : t ≠ []) (h : t <:+ u) : u.getLastD 0 = t.getLastD 0 := by
  obtain ⟨s, rfl⟩ := h
  cases t with
  | nil => exact absurd rfl ht
  | cons a t =>
    simp only [List.getLastD_eq_getLast?, List.getLast?_append]
    cases hh : (a :: t).getLast? with
    | none => simp at hh
    | some x => rfl
theorem gtag_off {t u : Tag} (ht : t ≠ []) (hu : t <:+ u) : off [gtag t] u := off_one.2 fun h => by
  have h1 := last_suffix ht hu
  have h2 := last_suffix (t := gtag t) (by simp [gtag]) h
  rw [h1] at h2
  simp [gtag] at h2
theorem off_gtag {t : Tag} (ht : t ≠ []) : off [t] (gtag t) := off_one.2 fun h => by
  have h1 := last_suffix ht h
  simp [gtag] at h1

theorem Chg.setCells {L : List Tag} {a : World} {o o' : Own} {b : Nat} : ∀ (vs : List Value) (i : Nat) (c : World), Chg L a o c o' → (a.heap.size ≤ b ∨ ¬ off L (o b)) → Chg L a o (c.setCells b i vs) o'
  | [], _, _, h, _ => h
  | v :: vs, i, _c, h, hb => Chg.setCells vs (i + 1) _ (h.setCell (p := ⟨b, i, none⟩) v hb) hb

theorem TbAt.aside {w w' : World} {o o' : Own} {t : Tag} (ht : t ≠ []) {k bm : Nat} {blk : Nat → Nat} {T : Tb} (h : TbAt w o t k bm blk T) (hc : Chg [gtag t] w o w' o') : TbAt w' o' t k bm blk T := h.chg hc fun _ hu => gtag_off ht hu

theorem results_cell_mid {P : Program} {fn : Func} {p u : Tmp} {ty : TypeId} (h : fn.results = #[.cell p ty, .tmp u]) (tmps : Array Value) (w : World) (b : Nat) (cs : List Value) (d : TypeDesc) (hp : tmps.getD p undef = .pointer (some ⟨b, 0, none⟩)) (hc : w.rangeAt b 0 cs)
    (hu : P.underlying ty = some d) (hd : d.isRow = true) (hi : (P.info? ty).map (·.size) = some cs.length) :
    (results fn tmps).run P w = .ok (.tuple #[.agg cs.toArray, tmps.getD u undef]) w := by
  rw [results_cell_tmp h, hp]
  have h1 := run_loadVar_mid (P := P) w b 0 ty cs d hc hu hd hi
  have h2 : (asAddr (.pointer (some ⟨b, 0, none⟩))).run P w = .ok ⟨b, 0, none⟩ w := by simp [asAddr]
  rw [h2]
  simp only [Result.andThen, h1]

theorem frAll (f : Fr) {w : World} {o : Own} {td : Tag} {dv : Value} (hd : Sl w o td dv (f.data.map bv)) : (f.cells dv nilS).all (·.oneCell') = true :=
  Array.all_eq_true_iff_forall_mem.2 fun v hv => frOne f hd v (by simpa using hv)
theorem there_of {w : World} {o : Own} {b : Nat} {t : Tag} {C : Array Value} {e : TypeId} (h : At w o b t (.cells C e (0, 0))) : w.there b 0 C.size := fun j hj => by
  rw [Nat.zero_add]
  exact ⟨by rw [h.cells]; simp [hj], h.free j⟩
end Go.Proofs.YthliihmhkhabeaaGreatDoor
/- Integers of unlike lengths: how long, put. No condition. -/
namespace Go.Proofs.YthliihmhkhabeaaGreatDoor
open Go Go.RowKit

def vsize (n : Nat) : Nat := if n < 64 then 1 else if n < 16384 then 2 else if n < 1073741824 then 4 else if n < 4611686018427387904 then 8 else 0
theorem vsize_cases (n : Nat) : vsize n = 1 ∨ vsize n = 2 ∨ vsize n = 4 ∨ vsize n = 8 ∨ vsize n = 0 := by
  unfold vsize; split; simp; split; simp; split; simp; split <;> simp

/-- What is read of the table of trailing zeros. -/
def GTab (w : World) (o : Own) : Prop := o 2 = [] ∧ w.cell? ⟨2, 0, none⟩ = some (.int .u8 0) ∧ w.cell? ⟨2, 1, none⟩ = some (.int .u8 1) ∧ w.cell? ⟨2, 3, none⟩ = some (.int .u8 2) ∧ w.cell? ⟨2, 7, none⟩ = some (.int .u8 3)
theorem GTab.chg {w w' : World} {o o' : Own} {L : List Tag} (h : GTab w o) (hc : Chg L w o w' o') (hl : off L []) : GTab w' o' := by
  obtain ⟨h0, h1, h2, h3, h4⟩ := h
  obtain ⟨k1, k2⟩ := hc.keep 2 (World.block_lt_of_cell? w _ h1) (by rw [h0]; exact hl)
  have e : ∀ i, w'.cell? ⟨2, i, none⟩ = w.cell? ⟨2, i, none⟩ := fun i => World.cell?_of_block (w := w) (a := ⟨2, i, none⟩) k1
  exact ⟨k2.trans h0, (e 0).trans h1, (e 1).trans h2, (e 3).trans h3, (e 7).trans h4⟩
theorem GTab.drewN {w : World} {o : Own} (h : GTab w o) (n : Nat) : GTab (w.drewN n) o := h

set_option maxRecDepth 100000 in
theorem Ones64_ok (n : Int) (hn : n = 1 ∨ n = 2 ∨ n = 4 ∨ n = 8) (w : World) :
    Calls Tryz.prog 187 #[.int .u64 n] w fun e w' => e = .returned (.int .i64 1) ∧ w = w' := by
  rcases hn with rfl | rfl | rfl | rfl <;>
  · go_enter Tryz.func187, Tryz.ntmps187
    go_wp2
    go_ret
    exact ⟨by kernel_rfl, rfl⟩
set_option maxRecDepth 100000 in
theorem Ones_ok (n : Int) (hn : n = 1 ∨ n = 2 ∨ n = 4 ∨ n = 8) (w : World) :
    Calls Tryz.prog 183 #[.int .u64 n] w fun e w' => e = .returned (.int .i64 1) ∧ w = w' := by
  have H := Ones64_ok n hn w
  rcases hn with rfl | rfl | rfl | rfl <;>
  · go_enter Tryz.func183, Tryz.ntmps183
    go_wp2_with (go_at_call 187; refine H.mono ?_; rintro e w' ⟨rfl, rfl⟩)
    go_ret
    exact ⟨rfl, rfl⟩

set_option maxRecDepth 100000 in
theorem Trail64_ok {w : World} {o : Own} (h : GTab w o) (n x : Int) (hn : n = 1 ∧ x = 0 ∨ n = 2 ∧ x = 1 ∨ n = 4 ∧ x = 2 ∨ n = 8 ∧ x = 3) :
    Calls Tryz.prog 189 #[.int .u64 n] w fun e w' => e = .returned (.int .i64 x) ∧ w = w' := by
  obtain ⟨_, h0, h1, h3, h7⟩ := h
  rcases hn with ⟨rfl, rfl⟩ | ⟨rfl, rfl⟩ | ⟨rfl, rfl⟩ | ⟨rfl, rfl⟩
  · have hx : IntKind.u64.wrap (bits BinOp.and IntKind.u64 1 (IntKind.u64.wrap (-1)) * 285870213051353865) = 285870213051353865 := by kernel_rfl
    go_enter Tryz.func189, Tryz.ntmps189
    go_wp2
    go_ret
    exact ⟨rfl, rfl⟩
  · have hx : IntKind.u64.wrap (bits BinOp.and IntKind.u64 2 (IntKind.u64.wrap (-2)) * 285870213051353865) = 571740426102707730 := by kernel_rfl
    go_enter Tryz.func189, Tryz.ntmps189
    go_wp2
    go_ret
    exact ⟨rfl, rfl⟩
  · have hx : IntKind.u64.wrap (bits BinOp.and IntKind.u64 4 (IntKind.u64.wrap (-4)) * 285870213051353865) = 1143480852205415460 := by kernel_rfl
    go_enter Tryz.func189, Tryz.ntmps189
    go_wp2
    go_ret
    exact ⟨rfl, rfl⟩
  · have hx : IntKind.u64.wrap (bits BinOp.and IntKind.u64 8 (IntKind.u64.wrap (-8)) * 285870213051353865) = 2286961704410830920 := by kernel_rfl
    go_enter Tryz.func189, Tryz.ntmps189
    go_wp2
    go_ret
    exact ⟨rfl, rfl⟩
set_option maxRecDepth 100000 in
theorem Trail_ok {w : World} {o : Own} (h : GTab w o) (n x : Int) (hn : n = 1 ∧ x = 0 ∨ n = 2 ∧ x = 1 ∨ n = 4 ∧ x = 2 ∨ n = 8 ∧ x = 3) :
    Calls Tryz.prog 184 #[.int .u64 n] w fun e w' => e = .returned (.int .i64 x) ∧ w = w' := by
  have H := Lib.hid (Trail64_ok h n x hn)
  clear h
  rcases hn with ⟨rfl, rfl⟩ | ⟨rfl, rfl⟩ | ⟨rfl, rfl⟩ | ⟨rfl, rfl⟩ <;>
  · go_enter Tryz.func184, Tryz.ntmps184
    go_wp2_with (go_at_call 189; refine H.out.mono ?_; rintro e w' ⟨rfl, rfl⟩)
    go_ret
    exact ⟨rfl, rfl⟩

set_option maxRecDepth 100000 in
theorem VSize_ok (n : Nat) (hn : n < 18446744073709551616) (w : World) :
    Calls Tryz.prog 172 #[.int .u64 n] w fun e w' => e = .returned (.int .i64 (vsize n : Nat)) ∧ w = w' := by
  go_enter Tryz.func172, Tryz.ntmps172
  go_wp2
  go_loop [3] (fun i => i = .int .i64 1 ∨ (i = .int .i64 2 ∧ 64 ≤ n) ∨ (i = .int .i64 4 ∧ 16384 ≤ n) ∨ (i = .int .i64 8 ∧ 1073741824 ≤ n) ∨ (i = .int .i64 16 ∧ 4611686018427387904 ≤ n)) (fun i => 16 - (intOf i).toNat)
  case atStart => exact .inl rfl
  case round =>
    rcases hrel with rfl | ⟨rfl, h⟩ | ⟨rfl, h⟩ | ⟨rfl, h⟩ | ⟨rfl, h⟩
    · by_cases hlt : (n : Int) < 64
      · go_wp2
        go_ret
        exact ⟨by unfold vsize; rw [if_pos (by omega)]; rfl, rfl⟩
      · go_wp2
        go_round
        case rel => exact .inr (.inl ⟨rfl, by omega⟩)
        case measure => simp [intOf]
    · by_cases hlt : (n : Int) < 16384
      · go_wp2
        go_ret
        exact ⟨by unfold vsize; rw [if_neg (by omega), if_pos (by omega)]; rfl, rfl⟩
      · go_wp2
        go_round
        case rel => exact .inr (.inr (.inl ⟨rfl, by omega⟩))
        case measure => simp [intOf]
    · by_cases hlt : (n : Int) < 1073741824
      · go_wp2
        go_ret
        exact ⟨by unfold vsize; rw [if_neg (by omega), if_neg (by omega), if_pos (by omega)]; rfl, rfl⟩
      · go_wp2
        go_round
        case rel => exact .inr (.inr (.inr (.inl ⟨rfl, by omega⟩)))
        case measure => simp [intOf]
    · by_cases hlt : (n : Int) < 4611686018427387904
      · go_wp2
        go_ret
        exact ⟨by unfold vsize; rw [if_neg (by omega), if_neg (by omega), if_neg (by omega), if_pos (by omega)]; rfl, rfl⟩
      · go_wp2
        go_round
        case rel => exact .inr (.inr (.inr (.inr ⟨rfl, by omega⟩)))
        case measure => simp [intOf]
    · go_wp2
      go_ret
      exact ⟨by unfold vsize; rw [if_neg (by omega), if_neg (by omega), if_neg (by omega), if_neg (by omega)]; rfl, rfl⟩
end Go.Proofs.YthliihmhkhabeaaGreatDoor
