/- From a walk to a row: what the arguments and the library's table read as; they read so behind the call. No condition. -/
import Derived.Test.YthliihmhkhabeaaGreatDoorRows
import Derived.Test.YthliihmhkhabeaaGreatDoorIds48
import Derived.ProofKit
import Derived.LaidMore
import Derived.OpenShut
import Derived.ReadAgain
import Derived.Stop.Joined
import Derived.ChangeSame
import Derived.ChangeOld
namespace Go.Proofs.YthliihmhkhabeaaGreatDoor
open Go Go.RowKit Go.WideShapes Go.ChangeShapes Go.ChangeAt Go.WideMaps Go.WideElems

theorem own : ownKnob Tryz.prog.godebug = none := by kernel_rfl
theorem kids : Kids Tryz.prog (· < Tryz.prog.types.size) := kids_rows (by kernel_rfl) (by kernel_rfl)
theorem full : ∀ t e, t < Tryz.prog.types.size → Tryz.prog.underlying t = some (.slice e) → 0 < Tryz.prog.cellsOf e := slices_full_of Tryz.prog (by kernel_rfl)

section
variable {H : Type} {enc : TypeId × Value → H} {P : Program}
theorem trodAll_same {W W' : World} (hb : Below W.heap.size W W') {base : Nat} {sp : Nat → Bool} {held : Bool} : ∀ {ts : List TypeId} {vs : List Value} {ds : List (DataW H)} {ps : List MemPlace}, DataW.TrodAll enc P W base sp held ts vs ds ps → DataW.TrodAll enc P W' base sp held ts vs ds ps
  | [], [], [], _, h => h
  | _ :: _, _ :: _, _ :: _, _, ⟨p, q, ⟨n, h1⟩, h2, e⟩ => ⟨p, q, ⟨n, DataW.trod_carry n _ _ _ h1 fun x hx => by
      have hlt := DataW.trod_lt n _ _ _ h1 x hx
      cases x with
      | cell b off => exact hb.cell (p := ⟨b, off, none⟩) hlt
      | map b => exact hb.block b hlt⟩, trodAll_same hb h2, e⟩

theorem post_of_below {f : Func} {s : ChangeSpec} {apart fresh handsOn again : Bool} {W W' : World} {args : Array Value} {v : Value} {ds gs : List (DataW H)} {before pa pv : List MemPlace}
    (hW : DataW.Whole enc P f.params.toList s.vars apart W args.toList ds gs before)
    (hres : ∀ (b : Nat) (sp : Nat → Bool) (hd : Bool), DataW.TrodAll enc P W' b sp hd f.resultTypes.toList (v.resultList f.resultTypes.size) (s.fn H (ds ++ gs)).results [])
    (hargs : ∀ sp : Nat → Bool, (∀ p ∈ before, sp p.block = true) → DataW.TrodAll enc P W' 0 sp true f.params.toList args.toList (s.fn H (ds ++ gs)).args pa)
    (hvars : ∀ sp : Nat → Bool, (∀ p ∈ before, sp p.block = true) → DataW.TrodVars enc P W' sp s.vars (s.fn H (ds ++ gs)).vars pv)
    (hps : before = pa ++ pv) (hb : Below W.heap.size W W')
    (hok : ∀ (j : Nat) (t : TypeId) (r : Value), f.resultTypes[j]? = some t → (v.resultList f.resultTypes.size)[j]? = some r → Value.okWide P W' .any 0 t r) :
    s.post enc P f apart fresh handsOn again W args v W' := by
  have hlt : ∀ p ∈ before, p.block < W.heap.size := fun p hp => hW.lt p hp
  have hold : ∀ p ∈ before, (fun b => decide (b < W.heap.size)) p.block = true := fun p hp => by simpa using hlt p hp
  refine ⟨ds, gs, before, [], pa, pv, hW, hres _ _ _, hargs _ hold, hvars _ hold, World.keptBut_mono (fun p hp => ⟨hp, ?_⟩) (hb.frame (· ∈ before)), fun _ => ?_⟩
  · rw [hps, List.mem_append] at hp
    exact Or.inr hp
  · obtain ⟨_, _, _, _, _, hz, hn⟩ := hW
    refine ⟨hok, _, _, ([] ++ pa) ++ pv, ⟨[] ++ pa, pv, trodAll_append (hargs _ (fun _ _ => rfl)) (hres _ _ _), hvars _ (fun _ _ => rfl), rfl, ?_, ?_⟩, ?_⟩
    · intro b off hp
      have hin : MemPlace.cell b off ∈ before := by rw [hps]; simpa using hp
      rw [hb.frozen (hlt _ hin)]
      exact hz b off hin
    · intro ha
      have := hn ha
      rw [hps] at this
      simpa using this
    · intro p hp _
      rw [hps]
      simpa using hp
end

def tab32 : DataW Unit := Rows.laid_math_bits_deBruijn32tab
def laidTabs : List (String × DataW Unit) := [("math/bits.deBruijn32tab", Rows.laid_math_bits_deBruijn32tab), ("math/bits.deBruijn64tab", Rows.laid_math_bits_deBruijn64tab)]
theorem gTab64 : Tryz.prog.globalNamed "math/bits.deBruijn64tab" = some 2 := by kernel_rfl
theorem tTab64 : ((Tryz.prog.globals[2]?).map (·.type)).bind Tryz.prog.underlying = some (.array 64 5) := by kernel_rfl
set_option maxRecDepth 100000 in
theorem door_met (os : Os) (args : Array Value) : laidMetH Tryz.prog laidTabs ((World.doorLaid Tryz.prog 65 os).forCall (fun _ _ => 0) ⟨#[], args, []⟩).memory :=
  laidMetH_of_parts3 (fuel := 8) (laidMet_of_run' 8 (by kernel_rfl) (by kernel_rfl)) (by kernel_rfl) (by kernel_rfl)
theorem tTab64' : (Tryz.prog.globals[2]?).map (·.type) = some 187 := by kernel_rfl
set_option maxRecDepth 100000 in
theorem of_laid {W : World} (h : laidMetH Tryz.prog laidTabs W) : GTab W (fun _ => []) := by
  rw [MakeChecks.laidMetH_plain _ _ _ (by kernel_rfl)] at h
  obtain ⟨ps, ⟨g0, t0, cs0, f0, p0, q0, hg0, ht0, hv0, hd0, ⟨g1, t1, cs1, f1, p1, q1, hg1, ht1, hv1, hd1, _, _⟩, _⟩, _, _⟩ := h
  obtain rfl := Option.some.inj (gTab64.symm.trans hg1)
  obtain rfl := Option.some.inj (tTab64'.symm.trans ht1)
  obtain ⟨xs, m1, hm, hx1, hlen, hn64, hel⟩ := DataW.trod_array Tryz.underlying187 hd1
  have c8 : Tryz.prog.cellsOf 5 = 1 := by kernel_rfl
  simp only [Prod.mk.injEq] at hx1
  have key : ∀ (i : Nat) (k : IntKind) (n : Int), i < 64 → (match (Rows.laid_math_bits_deBruijn64tab : DataW Unit) with | .agg l => l[i]? | _ => none) = some (.lit (.int k n)) → W.cell? ⟨2, i, none⟩ = some (.int .u8 n) := by
    intro i k n hi hd
    have e0 := hx1.1
    generalize (Rows.laid_math_bits_deBruijn64tab : DataW Unit) = D at e0 hd
    subst e0
    simp only [List.getElem?_map, Option.map_eq_some_iff] at hd
    obtain ⟨x, hx, hxd⟩ := hd
    have h0 := hel i hi
    rw [hx, c8, Nat.mul_one] at h0
    obtain ⟨d, q⟩ := x
    obtain ⟨z, e1, e2, _⟩ := DataW.trod_int Tryz.underlying5 h0
    simp only [Prod.mk.injEq] at e2 hxd
    rw [hxd] at e2
    have hzn : n = z := by
      have := e2.1
      injection this with e3
      injection e3
    subst hzn
    rw [World.var?_cell hg1 hv1 i]
    have e4 := congrArg (·[0]?) e1
    simp only [List.getElem?_take, List.getElem?_drop] at e4
    rw [← Array.getElem?_toList]
    simpa using e4
  exact ⟨rfl, key 0 .u8 0 (by omega) rfl, key 1 .u8 1 (by omega) rfl, key 3 .u8 2 (by omega) rfl, key 7 .u8 3 (by omega) rfl⟩
end Go.Proofs.YthliihmhkhabeaaGreatDoor
