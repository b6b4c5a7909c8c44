/- What Frames gives, as plain functions; how long frames are put. No condition. -/
import Derived.Test.YthliihmhkhabeaaGreatDoorIds45
import Derived.Test.YthliihmhkhabeaaGreatDoorIds46
import Derived.Test.YthliihmhkhabeaaGreatDoorIds44
import Derived.Test.YthliihmhkhabeaaGreatDoorIds43
import Derived.Test.YthliihmhkhabeaaGreatDoorIds37
namespace Go.Proofs.YthliihmhkhabeaaGreatDoor
open Go Go.RowKit

def frLen (f : Fr) : Nat :=
  if f.kind = 8 then slen f.id f.a f.data.length else if f.kind = 4 then 1 + isum [f.id, f.code, f.a] else if f.kind = 5 then 1 + isum [f.id, f.code]
  else if f.kind = 16 then 1 + isum [f.a] else if f.kind = 17 then 1 + isum [f.id, f.a] else 0

inductive Fr.Good : Fr → Prop
  | reset (id code a : Nat) (h1 : id ≤ 4611686018427387903) (h2 : code ≤ 4611686018427387903) (h3 : a ≤ 4611686018427387903) : Fr.Good (frReset id code a)
  | stop (id code : Nat) (h1 : id ≤ 4611686018427387903) (h2 : code ≤ 4611686018427387903) : Fr.Good (frStop id code)
  | md (a : Nat) (h1 : a ≤ 4611686018427387903) : Fr.Good (frMD a)
  | msd (id a : Nat) (h1 : id ≤ 4611686018427387903) (h2 : a ≤ 4611686018427387903) : Fr.Good (frMsd id a)
  | stream (id a : Nat) (d : List Nat) (fl : Bool) (h1 : id ≤ 4611686018427387903) (h2 : d.length ≤ 1200) (h3 : a + d.length ≤ 4611686018427387903) : Fr.Good (frStream id a d fl)

theorem FPut_good {w : World} {o : Own} (hg : GTab w o) {f : Fr} (h : f.Good) (dv : Value) {ts : Tag} (hd : Sl w o ts dv (f.data.map bv)) (hn : f.kind ≠ 8 → dv = nilS) (td : Tag) :
    Calls Tryz.prog 35 #[.agg (f.cells dv nilS)] w (NewB w o td (frLen f)) := by
  cases h with
  | reset id code a h1 h2 h3 => rw [hn (by simp [frReset])]; exact FPut_Reset hg id code a h1 h2 h3 td
  | stop id code h1 h2 => rw [hn (by simp [frStop])]; exact FPut_Stop hg id code h1 h2 td
  | md a h1 => rw [hn (by simp [frMD])]; exact FPut_MD hg a h1 td
  | msd id a h1 h2 => rw [hn (by simp [frMsd])]; exact FPut_Msd hg id a h1 h2 td
  | stream id a d fl h1 h2 h3 => exact FPut_Stream hg id a d fl dv hd h1 h2 h3 td
theorem Fr.Good.pos {f : Fr} (h : f.Good) : 1 ≤ frLen f := by
  cases h <;> simp [frLen, frReset, frStop, frMD, frMsd, frStream, slen] <;> omega
theorem Fr.Good.le {f : Fr} (h : f.Good) : frLen f ≤ 100000 := by
  cases h with
  | reset id code a => have := isum_le [id, code, a]; simp [frLen, frReset] at *; omega
  | stop id code => have := isum_le [id, code]; simp [frLen, frStop] at *; omega
  | md a => have := isum_le [a]; simp [frLen, frMD] at *; omega
  | msd id a => have := isum_le [id, a]; simp [frLen, frMsd] at *; omega
  | stream id a d fl => have h1 := vsize_le id; have h2 := alen_le a; have h3 := vsize_le d.length; simp [frLen, frStream, slen] at *; omega

/-- A table, the room that is left, the frames so far. -/
structure FS where
  T : Tb
  room : Nat
  L : List Fr
def FS.fit (S : FS) (f : Fr) : Option FS := if S.room < frLen f then none else some { S with room := S.room - frLen f, L := S.L ++ [f] }
def Tb.untell (T : Tb) (id : Nat) (kd : Nat) : Tb := match mget T.m id with
  | none => T
  | some s => T.set id { s with tell := mset s.tell kd false }
def FS.dues (id : Nat) : List Fr → FS → FS × Bool
  | [], S => (S, true)
  | f :: l, S => match S.fit f with
    | none => (S, false)
    | some S' => FS.dues id l { S' with T := S'.T.untell id f.kind.toNat }
def Tb.dueOf (T : Tb) (id : Nat) : List Fr := match mget T.m id with
  | none => []
  | some s => s.due id
def FS.phase1 : List Nat → FS → FS × Bool
  | [], S => (S, true)
  | id :: l, S => if (FS.dues id (S.T.dueOf id) S).2 then FS.phase1 l (FS.dues id (S.T.dueOf id) S).1 else ((FS.dues id (S.T.dueOf id) S).1, false)
def FS.pump (id : Nat) : Nat → FS → FS × Bool
  | 0, S => (S, true)
  | n + 1, S => match mget S.T.m id with
    | none => (S, true)
    | some s => match s.out with
      | none => (S, true)
      | some O => if s.reset then (S, true) else if S.room < 21 then (S, false) else
        if (S.T.nextF id s O (Min.min (S.room - 20) 200)).1.2 then
          match ({ S with T := (S.T.nextF id s O (Min.min (S.room - 20) 200)).2 } : FS).fit (S.T.nextF id s O (Min.min (S.room - 20) 200)).1.1 with
          | none => ({ S with T := (S.T.nextF id s O (Min.min (S.room - 20) 200)).2 }, true)
          | some S' => FS.pump id n S'
        else ({ S with T := (S.T.nextF id s O (Min.min (S.room - 20) 200)).2 }, true)
def FS.phase3 : List Nat → FS → FS × Bool
  | [], S => (S, true)
  | id :: l, S => if (FS.pump id (S.room + 1) S).2 then FS.phase3 l (FS.pump id (S.room + 1) S).1 else ((FS.pump id (S.room + 1) S).1, false)
def FS.quiet (S : FS) : FS := { S with T := { S.T with tell := false } }
def FS.told (S : FS) : FS × Bool :=
  if S.T.tell then match S.fit (frMD (S.T.read + S.T.own.data)) with
    | none => (S, false)
    | some S' => (S', true)
  else (S, true)
def FS.phase2 (S : FS) : FS × Bool := if S.told.2 then (S.told.1.quiet, true) else (S.told.1, false)
def FS.all (S0 : FS) : FS :=
  if (FS.phase1 S0.T.ids S0).2 then
    if (FS.phase1 S0.T.ids S0).1.phase2.2 then (FS.phase3 (FS.phase1 S0.T.ids S0).1.phase2.1.T.ids (FS.phase1 S0.T.ids S0).1.phase2.1).1
    else (FS.phase1 S0.T.ids S0).1.phase2.1
  else (FS.phase1 S0.T.ids S0).1
def Tb.frames (T : Tb) (room : Nat) : FS := FS.all ⟨T, room, []⟩

/-- A stream, a table, whose frames can all be put. -/
structure St.Nice (s : St) : Prop where
  code : s.code ≤ 4611686018427387903
  stop : s.stop ≤ 4611686018427387903
  lim : limitO s.inn ≤ 4611686018427387903
structure Tb.Nice (T : Tb) : Prop where
  ids : ∀ p ∈ T.m, p.1 ≤ 4611686018427387903
  st : ∀ p ∈ T.m, p.2.Nice
  read : T.read + T.own.data ≤ 4611686018427387903
theorem Tb.Nice.get {T : Tb} (h : T.Nice) {id : Nat} {s : St} (hs : mget T.m id = some s) : id ≤ 4611686018427387903 ∧ s.Nice := ⟨h.ids _ (mem_of_mget hs), h.st _ (mem_of_mget hs)⟩

theorem sentO_le {O : Option Out} (h : ∀ P, O = some P → P.Wf) : sentO O ≤ 2000 := by
  cases O with
  | none => simp [sentO]
  | some P =>
    have hw := h P rfl
    have hl : P.s.length ≤ 2000 := by have := hw.len; have := hw.most; omega
    show P.sent ≤ 2000
    unfold Out.sent
    split
    · rename_i h0
      have := List.idxOf_lt_length_of_mem h0
      omega
    · exact hl
theorem due_good {s : St} (h : s.Nice) (hO : ∀ P, s.out = some P → P.Wf) {id : Nat} (hid : id ≤ 4611686018427387903) : ∀ f ∈ s.due id, f.Good ∧ f.data = [] ∧ f.kind ≠ 8 ∧ 0 ≤ f.kind := by
  intro f hf
  have hs := sentO_le hO
  unfold St.due at hf
  simp only [List.mem_append] at hf
  rcases hf with (hf | hf) | hf
  · split at hf
    · rw [List.mem_singleton] at hf; subst hf; exact ⟨.reset _ _ _ hid h.code (by omega), rfl, by simp [frReset], by simp [frReset]⟩
    · cases hf
  · split at hf
    · rw [List.mem_singleton] at hf; subst hf; exact ⟨.stop _ _ hid h.stop, rfl, by simp [frStop], by simp [frStop]⟩
    · cases hf
  · split at hf
    · rw [List.mem_singleton] at hf; subst hf; exact ⟨.msd _ _ hid h.lim, rfl, by simp [frMsd], by simp [frMsd]⟩
    · cases hf

theorem Out.due_many (O : Out) (many : Nat) : (O.due many).2.1 - (O.due many).1 ≤ many := by
  have hr : ∀ st top, (O.run st top many).2.1 - (O.run st top many).1 ≤ many := by
    intro st top
    unfold Out.run
    split
    · have h2 : (O.runl st top many).length ≤ (((O.s.take top).drop ((O.s.take top).idxOf st)).take many).length := (List.takeWhile_sublist _).length_le
      simp at h2 ⊢
      omega
    · simp
  have hp : (O.pick many).2.1 - (O.pick many).1 ≤ many := by
    unfold Out.pick
    split <;> exact hr _ _
  unfold Out.due
  split
  · exact hp
  · split <;> simp
theorem next_len (O : Out) (many : Nat) : (O.next many).2.2.1.length ≤ many ∧ (O.next many).2.1 ≤ O.s.length ∧ (O.next many).2.2.1.length ≤ O.s.length := by
  have h1 := O.due_many many
  have h2 := O.due_le many
  refine ⟨?_, ?_, ?_⟩ <;> simp only [Out.next, List.length_drop, List.length_take] <;> omega
theorem lift_s (T : Tb) (s : St) (O : Out) (many : Nat) : (T.lift s O many).2.s = O.s := by
  unfold Tb.lift
  split
  · unfold Out.raise; split <;> rfl
  · rfl
theorem next_good {T : Tb} {id : Nat} {s : St} {O : Out} {many : Nat} (hid : id ≤ 4611686018427387903) (hO : O.Wf) (hm : many ≤ 200) :
    (T.nextF id s O many).1.1.Good ∧ frLen (T.nextF id s O many).1.1 ≤ 19 + many := by
  obtain ⟨h1, h2, h3⟩ := next_len (T.lift s O many).2 many
  rw [lift_s] at h2 h3
  have hl : O.s.length ≤ 2000 := by have := hO.len; have := hO.most; omega
  refine ⟨.stream _ _ _ _ hid (by omega) (by omega), ?_⟩
  show slen id ((T.lift s O many).2.next many).2.1 ((T.lift s O many).2.next many).2.2.1.length ≤ 19 + many
  generalize ((T.lift s O many).2.next many).2.2.1.length = n at *
  generalize ((T.lift s O many).2.next many).2.1 = a at *
  have e1 := vsize_le id
  have e2 := alen_le a
  have e3 : vsize n ≤ 2 := by unfold vsize; split; omega; split; omega; omega
  unfold slen
  omega

/-- A stream that is as nice, in its place. -/
theorem Tb.Nice.set {T : Tb} (h : T.Nice) (hnd : (T.m.map (·.1)).Nodup) {id : Nat} {s s' : St} (hs : mget T.m id = some s) (hn : s'.Nice) : (T.set id s').Nice := by
  refine ⟨fun p hp => ?_, fun p hp => ?_, h.read⟩
  · rcases mem_mset hnd hp with rfl | ⟨hp, _⟩
    · exact (h.get hs).1
    · exact h.ids _ hp
  · rcases mem_mset hnd hp with rfl | ⟨hp, _⟩
    · exact hn
    · exact h.st _ hp
theorem St.Nice.tell {s : St} (h : s.Nice) (tell : List (Nat × Bool)) : ({ s with tell := tell } : St).Nice := ⟨h.code, h.stop, h.lim⟩
theorem St.Nice.outs {s : St} (h : s.Nice) (O : Option Out) (g : Nat) : ({ s with out := O, given := g } : St).Nice := ⟨h.code, h.stop, h.lim⟩
theorem untell_eq {T : Tb} {id : Nat} {s : St} (hs : mget T.m id = some s) (kd : Nat) : T.untell id kd = T.set id { s with tell := mset s.tell kd false } := by
  unfold Tb.untell; rw [hs]
theorem lift_nice {T : Tb} {s : St} (h : s.Nice) (O : Out) (many : Nat) (P : Option Out) : ({ (T.lift s O many).1 with out := P } : St).Nice := by
  unfold Tb.lift
  split
  · exact ⟨h.code, h.stop, h.lim⟩
  · exact ⟨h.code, h.stop, h.lim⟩
theorem next_nice {T : Tb} (h : T.Nice) (hnd : (T.m.map (·.1)).Nodup) {id : Nat} {s : St} (hs : mget T.m id = some s) (O : Out) (many : Nat) : (T.nextF id s O many).2.Nice :=
  h.set hnd hs (lift_nice (h.get hs).2 O many _)
theorem set_keys {T : Tb} {id : Nat} {s s' : St} (hs : mget T.m id = some s) : (T.set id s').m.map (·.1) = T.m.map (·.1) := mset_map_fst T.m s' hs
end Go.Proofs.YthliihmhkhabeaaGreatDoor
/- What goes out: the closure that takes a frame, if it fits. No condition. -/
namespace Go.Proofs.YthliihmhkhabeaaGreatDoor
open Go Go.RowKit

theorem zeroFR : (Tryz.prog.info? 52).map (fun i => (i.zero, i.size)) = some (some (.agg (frZ.cells nilS nilS)), 24) := by kernel_rfl
/-- A slice of one frame. -/
theorem run_oneFrame (f : Fr) (dv : Value) (w : World) : (Instr.buildSlice 47 1 #[(0, .agg (f.cells dv nilS))]).run Tryz.prog w = .ok (.slice (some ⟨w.heap.size, 0, none⟩) 1 1) (w.alloc (.cells (f.cells dv nilS) 52)) := by
  have h := zeroFR
  cases hi : Tryz.prog.info? 52 with
  | none => rw [hi] at h; cases h
  | some i =>
    rw [hi] at h
    simp only [Option.map_some, Option.some.injEq, Prod.mk.injEq] at h
    obtain ⟨hz, hs⟩ := h
    have h1 : (sizeOf 52).run Tryz.prog w = .ok 24 w := by simp [sizeOf, typeInfo, hi, hs]
    have h2 : (zeroValue 52).run Tryz.prog w = .ok (.agg (frZ.cells nilS nilS)) w := by simp [zeroValue, typeInfo, hi, hz]
    have h3 : Instr.fill (fun i => some (i * 24, 24)) ((Array.range (1 * 24)).map (fun j => (Value.agg (frZ.cells nilS nilS)).cells[j % (Value.agg (frZ.cells nilS nilS)).cells.size]!)) [(0, .agg (f.cells dv nilS))] = some (f.cells dv nilS) := by kernel_rfl
    unfold Instr.buildSlice
    simp only [Sem.run_bind, run_underlying Tryz.underlying47, Result.andThen_ok, h1]
    rw [if_neg (by decide), if_neg (by decide)]
    simp only [Sem.run_bind, Result.andThen_ok, h2, Sem.run_pure, h3]
    rfl
section
variable {P : Program} {ops : Array Oper} {rest : List Oper} {o : Oper} {a : Act} {w : World} {Q : Exit → Act → World → Prop}
theorem wpList_bs1 (hg : o.guard = none) (tt : TypeId) (x : Operand) (hop : o.op = .buildSlice tt 1 #[(0, x)]) (xv : Value) (hx : a.eval x = xv) (v : Value) (w' : World) (hrun : (Instr.buildSlice tt 1 #[(0, xv)]).run P w = .ok v w')
    (h : wpList P ops Q rest (a.put o.dst v) w') : wpList P ops Q (o :: rest) a w := by
  refine wpList_plain hg fun K hK => ?_
  unfold Oper.wp execOp
  simp only [hop, hx, List.map_toArray, List.map_cons, List.map_nil, Sem.run_bind, hrun, Result.andThen]
  exact hK _ _ h
end

/-- The closure's two variables, and the frames so far. -/
structure FitAt (w : World) (o : Own) (g td : Tag) (rb ob : Nat) (room : Nat) (L : List (Fr × Value)) (v : Value) : Prop where
  room : At w o rb (0 :: g) (.cells #[.int .i64 room] 3 (0, 0))
  out : At w o ob (1 :: g) (.cells #[v] 47 (0, 0))
  row : FRow w o (2 :: g) td v L
theorem FitAt.chg {S : List Tag} {w w' : World} {o o' : Own} {g td : Tag} {rb ob room : Nat} {L : List (Fr × Value)} {v : Value} (h : FitAt w o g td rb ob room L v) (hc : Chg S w o w' o') (hg : ∀ u, g <:+ u → off S u) (hd : off S td) : FitAt w' o' g td rb ob room L v :=
  ⟨h.room.chg hc (hg _ (List.suffix_cons _ _)), h.out.chg hc (hg _ (List.suffix_cons _ _)), h.row.chg hc (hg _ (List.suffix_cons _ _)) hd⟩
theorem off_cons (a b : Nat) (g : Tag) (h : a ≠ b) : off [a :: g] (b :: g) := off_one.2 fun hh => by
  have := List.IsSuffix.eq_of_length hh (by simp)
  simp at this
  exact h this
def FitsPost (w : World) (o : Own) (g td : Tag) (rb ob room n : Nat) (L : List (Fr × Value)) (f : Fr) (dv : Value) (e : Ending) (w' : World) : Prop :=
  ∃ v' o', e = .returned (.bool true) ∧ FitAt w' o' g td rb ob (room - n) (L ++ [(f, dv)]) v' ∧ Chg [g] w o w' o'

set_option maxHeartbeats 2000000 in
set_option maxRecDepth 100000 in
theorem fits_no {w : World} {o : Own} {g td : Tag} {rb ob room n : Nat} {L : List (Fr × Value)} {v : Value} (h : FitAt w o g td rb ob room L v) (f : Fr) (dv : Value) (hn : room < n) (_hr : room ≤ 1000000000) (_hn2 : n ≤ 1000000000)
    (hput : ∀ X oX, Chg [] w o X oX → Calls Tryz.prog 35 #[.agg (f.cells dv nilS)] X (NewB X oX [] n)) :
    Calls Tryz.prog 34 #[.agg (f.cells dv nilS), ptr rb, ptr ob] w fun e w' => e = .returned (.bool false) ∧ ∃ o', Chg [] w o w' o' := by
  obtain ⟨C, W, hB⟩ := boxed w f dv nilS
  have hW := hB.eq
  have BAT : At W o w.heap.size (o w.heap.size) (.cells (f.cells dv nilS) 52 (0, 0)) := ⟨(hB.at_ o).1, rfl⟩
  have hch0 := Lib.hid (hB.chg o)
  have hrg : RowKit.Hid (W.rangeAt w.heap.size 0 (f.cells dv nilS).toList) := parRange' BAT.cells
  have Hsz : RowKit.Hid ((Tryz.prog.info? 52).map (·.size) = some (f.cells dv nilS).toList.length) := infoFR
  have HP := Lib.hid (hput W o (hB.chg o))
  have HR := Lib.hid (h.room.chg (hB.chg o) (off_nil _))
  rw [← hB.C]
  have hlt : ((room : Int) < n) := by omega
  unfold ptr NewB at *
  clear hB hput h hn BAT
  go_enter Tryz.func34, Tryz.ntmps34
  go_upto_region 1 with fail
  rw [← hW]
  clear hW
  go_upto_region 2 with (first
    | (refine wpList_load_mid (P := Tryz.prog) rfl 52 _ rfl w.heap.size 0 rfl (f.cells dv nilS).toList _ hrg.out Tryz.underlying52 rfl Hsz.out ?_; simp only [Array.toArray_toList])
    | (go_at_call 35; refine HP.out.mono ?_; rintro e w1 ⟨v1, xs, o1, rfl, p1, p2, p3, p4⟩; obtain ⟨A1, c1, rfl⟩ := newShape p1 p2; have hr1 := (HR.out.chg p3 (off_nil _)).cells 0; have HC1 := Lib.hid (hch0.out.trans p3); clear p1 p2 p3 p4))
  have hr1' : w1.cell? ⟨rb, 0, none⟩ = some (.int .i64 room) := hr1
  clear hr1
  go_wp2
  go_ret
  exact ⟨rfl, o1, HC1.out⟩

set_option maxHeartbeats 2000000 in
set_option maxRecDepth 100000 in
theorem fits_yes {w : World} {o : Own} {g td : Tag} (htd : off [g] td) {rb ob room n : Nat} {L : List (Fr × Value)} {v : Value} (h : FitAt w o g td rb ob room L v) (f : Fr) (dv : Value) (hd : Sl w o td dv (f.data.map bv)) (hn : n ≤ room) (hr : room ≤ 1000000000) (hl : L.length ≤ 1000000000)
    (hput : ∀ X oX, Chg [] w o X oX → Calls Tryz.prog 35 #[.agg (f.cells dv nilS)] X (NewB X oX [] n)) :
    Calls Tryz.prog 34 #[.agg (f.cells dv nilS), ptr rb, ptr ob] w (FitsPost w o g td rb ob room n L f dv) := by
  obtain ⟨C, W, hB⟩ := boxed w f dv nilS
  have hW := hB.eq
  have BAT : RowKit.Hid (At W o w.heap.size (o w.heap.size) (.cells (f.cells dv nilS) 52 (0, 0))) := ⟨(hB.at_ o).1, rfl⟩
  have hch0 := Lib.hid (hB.chg o)
  have hrg : RowKit.Hid (W.rangeAt w.heap.size 0 (f.cells dv nilS).toList) := parRange' BAT.out.cells
  have Hsz : RowKit.Hid ((Tryz.prog.info? 52).map (·.size) = some (f.cells dv nilS).toList.length) := infoFR
  have HP := Lib.hid (hput W o (hB.chg o))
  have HF := Lib.hid (h.chg (hB.chg o) (fun _ _ => off_nil _) (off_nil _))
  have HD := Lib.hid (hd.chg (hB.chg o) (off_nil _))
  rw [← hB.C]
  have h0on : RowKit.Hid (¬ off [g] (o rb)) := h.room.on' (List.suffix_cons _ _)
  have hge : (n : Int) ≤ room := by omega
  have hrI : (room : Int) ≤ 1000000000 := by omega
  have Hl := Lib.hid hl; have Htd := Lib.hid htd
  obtain ⟨Av, mv, cv, rfl⟩ := h.row.shape3
  unfold ptr NewB at *
  clear hB hput h hd htd hl
  go_enter Tryz.func34, Tryz.ntmps34
  go_upto_region 1 with fail
  rw [← hW]
  clear hW
  go_upto_region 2 with (first
    | (refine wpList_load_mid (P := Tryz.prog) rfl 52 _ rfl w.heap.size 0 rfl (f.cells dv nilS).toList _ hrg.out Tryz.underlying52 rfl Hsz.out ?_; simp only [Array.toArray_toList])
    | (go_at_call 35; refine HP.out.mono ?_; rintro e w1 ⟨v1, xs, o1, rfl, p1, p2, p3, p4⟩; obtain ⟨A1, c1, rfl⟩ := newShape p1 p2; have HC1 := Lib.hid p3; clear p1 p2 p3 p4))
  have hF1 := HF.out.chg HC1.out (fun _ _ => off_nil _) (off_nil _)
  have hB1 := BAT.out.chg HC1.out (off_nil _)
  have hr1 : w1.cell? ⟨rb, 0, none⟩ = some (.int .i64 room) := hF1.room.cells 0
  have ho1 : w1.cell? ⟨ob, 0, none⟩ = some (.slice Av mv cv) := hF1.out.cells 0
  have HB1 := Lib.hid hB1; have HF1 := Lib.hid hF1; have HD1 := Lib.hid (HD.out.chg HC1.out (off_nil _))
  have hrg1 : RowKit.Hid (w1.rangeAt w.heap.size 0 (f.cells dv nilS).toList) := parRange' hB1.cells
  clear hB1 hF1 hrg HF HD HP BAT
  -- the new block, the append
  have hc2 : Chg [] w1 o1 (w1.alloc (.cells (f.cells dv nilS) 52)) (o1.upd w1.heap.size []) := ((Chg.refl [] w1 o1).alloc _).tag (Nat.le_refl _) []
  have hF2 := HF1.out.chg hc2 (fun _ _ => off_nil _) (off_nil _)
  obtain ⟨v3, w3, o3, e1, e2, e3, e4, e5, e6⟩ := append_frame _ 47 hF2.row f dv w1.heap.size (HD1.out.chg hc2 (off_nil _)) (off_one.2 fun hh => off_one.1 Htd.out ((List.suffix_cons _ _).trans hh)) (At.new w1 o1 [] _).cells (by have := Hl.out; omega)
  obtain ⟨A3, m3, c3, rfl⟩ := e2.shape3
  have hr3' := hF2.room.chg e4 (off_cons 2 0 g (by omega))
  have ho3' := hF2.out.chg e4 (off_cons 2 1 g (by omega))
  have hr3 : w3.cell? ⟨rb, 0, none⟩ = some (.int .i64 room) := hr3'.cells 0
  have ho3 : w3.cell? ⟨ob, 0, none⟩ = some (.slice Av mv cv) := ho3'.cells 0
  have hfo3 := ho3'.free 0
  have hne : rb ≠ ob := hr3'.ne ho3' (by simp)
  have E1 := Lib.hid e1; have E2 := Lib.hid e2; have E4 := Lib.hid e4; have HR3 := Lib.hid hr3'; have HO3 := Lib.hid ho3'; have HC2 := Lib.hid hc2
  clear e1 e2 e3 e4 e5 e6 hr3' ho3' hc2 hF2
  have hfr3 := HR3.out.free 0
  go_upto_region 4 with fail
  have HBS := Lib.hid (run_oneFrame f dv w1)
  obtain ⟨CC, hCC⟩ : ∃ CC, CC = f.cells dv nilS := ⟨_, rfl⟩
  rw [← hCC] at HBS E1 hrg1 Hsz
  have HCC := Lib.hid hCC
  clear hCC
  go_upto_region 5 with (first
    | (refine wpList_load_mid (P := Tryz.prog) rfl 52 (.tmp 3) rfl w.heap.size 0 rfl CC.toList _ hrg1.out Tryz.underlying52 rfl Hsz.out ?_; simp only [Array.toArray_toList])
    | (refine wpList_bs1 rfl 47 (.tmp 13) rfl (.agg CC) rfl _ _ HBS.out ?_)
    | (at_builtin; refine Lib.wpList_append_run _ rfl _ _ _ _ rfl _ _ rfl rfl _ _ E1.out ?_))
  have hr5 := HR3.out.far (p := ⟨ob, 0, none⟩) hne (.slice A3 m3 c3)
  have ho5 := HO3.out.set 0 (.slice A3 m3 c3)
  have hc5 : Chg [1 :: g] w3 o3 (w3.setCell ⟨ob, 0, none⟩ (.slice A3 m3 c3)) o3 := (Chg.refl _ w3 o3).setCell _ (.inr HO3.out.on)
  have h2r := E2.out.chg hc5 (off_cons 1 2 g (by omega)) (off_one.2 fun hh => off_one.1 Htd.out ((List.suffix_cons _ _).trans hh))
  have HR5 := Lib.hid hr5; have HO5 := Lib.hid ho5; have HC5 := Lib.hid hc5; have H2R := Lib.hid h2r
  have hr6 : (w3.setCell ⟨ob, 0, none⟩ (.slice A3 m3 c3)).cell? ⟨rb, 0, none⟩ = some (.int .i64 room) := hr5.cells 0
  have hfr6 := hr5.free 0
  clear hr5 ho5 hc5 h2r hr3 ho3 hfo3 hfr3 hr1 ho1
  generalize w3.setCell ⟨ob, 0, none⟩ (.slice A3 m3 c3) = W5 at *
  have hsub : IntKind.i64.wrap ((room : Int) - n) = ((room - n : Nat) : Int) := by rw [IntWalk.i64_in _ (by omega)]; omega
  go_wp2
  go_ret
  have hsub2 : (room : Int) - n = ((room - n : Nat) : Int) := by omega
  refine ⟨.slice A3 m3 c3, o3, rfl, ⟨?_, HO5.out.far hne.symm _, ?_⟩, ?_⟩
  · rw [← hsub2]
    exact HR5.out.set 0 _
  · exact H2R.out.chg ((Chg.refl [0 :: g] W5 o3).setCell _ (.inr HR5.out.on)) (off_cons 0 2 g (by omega)) (off_one.2 fun hh => off_one.1 Htd.out ((List.suffix_cons _ _).trans hh))
  · refine Chg.setCell ?_ _ (.inr ?_)
    · exact ((((hch0.out.trans HC1.out).trans HC2.out).of_nil.trans (E4.out.up (List.suffix_cons _ _))).trans (HC5.out.up (List.suffix_cons _ _)))
    · exact h0on.out
end Go.Proofs.YthliihmhkhabeaaGreatDoor
/- What goes out: the state while Frames runs. No condition. -/
namespace Go.Proofs.YthliihmhkhabeaaGreatDoor
open Go Go.RowKit

/-! A tag is cleared: what bore it bears another one for a while. -/
open Classical in
noncomputable def shelter (o : Own) (g garb : Tag) : Own := fun j => if g <:+ o j then garb else o j
theorem shelter_chg (w : World) (o : Own) (g garb : Tag) : Chg [g] w o w (shelter o g garb) :=
  ⟨rfl, rfl, rfl, Nat.le_refl _, fun k _ h => ⟨rfl, by unfold shelter; rw [if_neg (off_one.1 h)]⟩⟩
open Classical in
noncomputable def unshelter (w : World) (o : Own) (g : Tag) (o' : Own) : Own := fun j => if j < w.heap.size ∧ g <:+ o j then o j else o' j
theorem unshelter_chg {w w' : World} {o o' : Own} {t g garb : Tag} (h : Chg [t, g] w (shelter o g garb) w' o') (h1 : off [t] garb) (h2 : off [g] garb) :
    Chg [garb] w' o' w' (unshelter w o g o') ∧ Chg [t] w o w' (unshelter w o g o') := by
  have hk : ∀ k, k < w.heap.size → g <:+ o k → w'.heap[k]? = w.heap[k]? ∧ o' k = garb := fun k hk hg => by
    have e : shelter o g garb k = garb := by unfold shelter; rw [if_pos hg]
    obtain ⟨a, b⟩ := h.keep k hk (by rw [e]; intro r hr; simp only [List.mem_cons, List.not_mem_nil, or_false] at hr; rcases hr with rfl | rfl; exact off_one.1 h1; exact off_one.1 h2)
    exact ⟨a, b.trans e⟩
  refine ⟨⟨rfl, rfl, rfl, Nat.le_refl _, fun k _ ho => ⟨rfl, ?_⟩⟩, ⟨h.os, h.tape, h.output, h.size, fun k hk' ho => ?_⟩⟩
  · unfold unshelter
    split
    · rename_i hh
      rw [(hk k hh.1 hh.2).2] at ho
      exact absurd (List.suffix_refl _) (off_one.1 ho)
    · rfl
  · by_cases hg : g <:+ o k
    · refine ⟨(hk k hk' hg).1, ?_⟩
      unfold unshelter
      rw [if_pos ⟨hk', hg⟩]
    · have e : shelter o g garb k = o k := by unfold shelter; rw [if_neg hg]
      obtain ⟨a, b⟩ := h.keep k hk' (by rw [e]; intro r hr; simp only [List.mem_cons, List.not_mem_nil, or_false] at hr; rcases hr with rfl | rfl; exact off_one.1 ho; exact hg)
      refine ⟨a, ?_⟩
      unfold unshelter
      rw [if_neg (fun hh => hg hh.2), b, e]

theorem gtag_ne (t : Tag) : gtag t ≠ [] := by simp [gtag]
theorem gtag2_off {t u : Tag} (ht : t ≠ []) (hu : gtag (gtag t) <:+ u) : off [t] u := off_one.2 fun h => by
  have h1 := last_suffix (gtag_ne _) hu
  have h2 := last_suffix ht h
  rw [h1] at h2
  simp [gtag] at h2 <;> omega
theorem gtag1_off {t u : Tag} (hu : gtag (gtag t) <:+ u) : off [gtag t] u := off_one.2 fun h => by
  have h1 := last_suffix (gtag_ne _) hu
  have h2 := last_suffix (gtag_ne t) h
  rw [h1] at h2
  simp [gtag] at h2 <;> omega
theorem gtag_from {t u : Tag} (ht : t ≠ []) (hu : gtag t <:+ u) : off [t] u := off_one.2 fun h => by
  have h1 := last_suffix (gtag_ne _) hu
  have h2 := last_suffix ht h
  rw [h1] at h2
  simp [gtag] at h2 <;> omega
theorem off_two {a b u : Tag} : off [a, b] u ↔ off [a] u ∧ off [b] u := by
  simp [off]
theorem g2_off {t u : Tag} (ht : t ≠ []) (hu : gtag (gtag t) <:+ u) : off [t, gtag t] u := off_two.2 ⟨gtag2_off ht hu, gtag1_off hu⟩
theorem root_off {t : Tag} (ht : t ≠ []) : off [t, gtag t] [] := off_two.2 ⟨off_root ht, off_root (gtag_ne t)⟩

structure FWAt (w : World) (o : Own) (t : Tag) (k bm : Nat) (blk : Nat → Nat) (rb ob room0 : Nat) (K : List Nat) (S : FS) (wx : World) (ox : Own) (L : List (Fr × Value)) (v : Value) : Prop where
  tb : TbAt wx ox t k bm blk S.T
  fit : FitAt wx ox (gtag t) [] rb ob S.room L v
  eqL : L.map (·.1) = S.L
  chg : Chg [t, gtag t] w o wx ox
  nice : S.T.Nice
  keys : S.T.m.map (·.1) = K
  len : S.L.length + S.room ≤ room0
  tab : GTab wx ox
def FW (w : World) (o : Own) (t : Tag) (k bm : Nat) (blk : Nat → Nat) (rb ob room0 : Nat) (K : List Nat) (S : FS) (wx : World) : Prop := ∃ ox L v, FWAt w o t k bm blk rb ob room0 K S wx ox L v

section
variable {w wx wy : World} {o ox oy : Own} {t : Tag} {k bm : Nat} {blk : Nat → Nat} {rb ob room0 : Nat} {K : List Nat} {S : FS} {L : List (Fr × Value)} {v : Value}
theorem FWAt.nil (h : FWAt w o t k bm blk rb ob room0 K S wx ox L v) (hc : Chg [] wx ox wy oy) : FWAt w o t k bm blk rb ob room0 K S wy oy L v :=
  ⟨h.tb.chg hc fun _ _ => off_nil _, h.fit.chg hc (fun _ _ => off_nil _) (off_nil _), h.eqL, h.chg.trans hc.of_nil, h.nice, h.keys, h.len, h.tab.chg hc (off_nil _)⟩
/-- The table was turned. -/
theorem FWAt.turn (ht : t ≠ []) (h : FWAt w o t k bm blk rb ob room0 K S wx ox L v) {T' : Tb} (hT : TbAt wy oy t k bm blk T') (hc : Chg [t] wx ox wy oy) (hn : T'.Nice) (hk : T'.m.map (·.1) = K) : FWAt w o t k bm blk rb ob room0 K { S with T := T' } wy oy L v :=
  ⟨hT, h.fit.chg hc (fun _ hu => gtag_from ht hu) (off_root ht), h.eqL, h.chg.trans (hc.mono fun _ hh => (off_two.1 hh).1), hn, hk, h.len, h.tab.chg hc (off_root ht)⟩
/-- A frame was taken. -/
theorem FWAt.taken (ht : t ≠ []) (h : FWAt w o t k bm blk rb ob room0 K S wx ox L v) {f : Fr} {dv v' : Value} (hg : f.Good) (hfit : ¬ S.room < frLen f) (hF : FitAt wy oy (gtag t) [] rb ob (S.room - frLen f) (L ++ [(f, dv)]) v') (hc : Chg [gtag t] wx ox wy oy) :
    FWAt w o t k bm blk rb ob room0 K { S with room := S.room - frLen f, L := S.L ++ [f] } wy oy (L ++ [(f, dv)]) v' := by
  have hp := hg.pos
  have hl := h.len
  refine ⟨h.tb.aside ht hc, hF, by rw [List.map_append, h.eqL]; rfl, h.chg.trans (hc.mono fun _ hh => (off_two.1 hh).2), h.nice, h.keys, ?_, h.tab.chg hc (off_root (gtag_ne t))⟩
  simp only [List.length_append, List.length_cons, List.length_nil]
  omega
theorem FWAt.lenL (h : FWAt w o t k bm blk rb ob room0 K S wx ox L v) : L.length + S.room ≤ room0 := by
  have := h.len; rw [← h.eqL, List.length_map] at this; exact this
end

def FramesPost (w : World) (o : Own) (t : Tag) (k bm : Nat) (blk : Nat → Nat) (S : FS) (e : Ending) (w' : World) : Prop :=
  ∃ v L o', e = .returned v ∧ FRow w' o' (2 :: gtag t) [] v L ∧ L.map (·.1) = S.L ∧ TbAt w' o' t k bm blk S.T ∧ Chg [t] w o w' o'
theorem FWAt.done {w wx : World} {o ox : Own} {t : Tag} (ht : t ≠ []) {k bm : Nat} {blk : Nat → Nat} {rb ob room0 : Nat} {K : List Nat} {S : FS} {L : List (Fr × Value)} {v : Value}
    (h : FWAt w (shelter o (gtag t) (gtag (gtag t))) t k bm blk rb ob room0 K S wx ox L v) : FramesPost w o t k bm blk S (.returned v) wx := by
  obtain ⟨h1, h2⟩ := unshelter_chg h.chg (gtag2_off ht (List.suffix_refl _)) (gtag1_off (List.suffix_refl _))
  refine ⟨v, L, _, rfl, h.fit.row.chg h1 ?_ (off_root (gtag_ne _)), h.eqL, h.tb.chg h1 ?_, h2⟩
  · refine off_one.2 fun hh => ?_
    have a1 := last_suffix (gtag_ne (gtag t)) hh
    have a2 := last_suffix (gtag_ne t) (List.suffix_cons 2 (gtag t))
    rw [a1] at a2
    simp [gtag] at a2 <;> omega
  · intro u hu
    refine off_one.2 fun hh => ?_
    have a1 := last_suffix (gtag_ne (gtag t)) hh
    have a2 := last_suffix ht hu
    rw [a1] at a2
    simp [gtag] at a2 <;> omega
end Go.Proofs.YthliihmhkhabeaaGreatDoor
/- What goes out: the state while Frames runs, with the slices that it goes through. No condition. -/
namespace Go.Proofs.YthliihmhkhabeaaGreatDoor
open Go Go.RowKit

theorem drop_at {α : Type} {l : List α} {j : Nat} {x : α} (h : l[j]? = some x) : l.drop j = x :: l.drop (j + 1) := by
  obtain ⟨hj, rfl⟩ := List.getElem?_eq_some_iff.1 h
  exact List.drop_eq_getElem_cons hj
def idRow (t : Tag) : Tag := 0 :: gtag (gtag t)
def dueRow (t : Tag) : Tag := 1 :: gtag (gtag t)
theorem idRow_off {t : Tag} (ht : t ≠ []) : off [t] (idRow t) ∧ off [gtag t] (idRow t) := ⟨gtag2_off ht (List.suffix_cons _ _), gtag1_off (List.suffix_cons _ _)⟩
theorem dueRow_off {t : Tag} (ht : t ≠ []) : off [t] (dueRow t) ∧ off [gtag t] (dueRow t) := ⟨gtag2_off ht (List.suffix_cons _ _), gtag1_off (List.suffix_cons _ _)⟩
def noD (l : List Fr) : List (Fr × Value) := l.map fun f => (f, nilS)

/-- The state, the slice of ids, the slice of what is due. -/
def FWX (w : World) (o : Own) (t : Tag) (k bm : Nat) (blk : Nat → Nat) (rb ob room0 : Nat) (K : List Nat) (vi : Value) (il : List Nat) (vd : Value) (dl : List Fr) (fb : Option (Nat × Array Value)) (S : FS) (wx : World) : Prop :=
  ∃ ox L v, FWAt w o t k bm blk rb ob room0 K S wx ox L v ∧ Row wx ox (idRow t) 26 vi (il.map uv) ∧ FRow wx ox (dueRow t) [] vd (noD dl) ∧ ∀ p, fb = some p → At wx ox p.1 [] (.cells p.2 52 (0, 0))
section
variable {w wx wy : World} {o ox oy : Own} {t : Tag} {k bm : Nat} {blk : Nat → Nat} {rb ob room0 : Nat} {K : List Nat} {vi vd : Value} {il : List Nat} {dl : List Fr} {fb : Option (Nat × Array Value)} {S : FS} {L : List (Fr × Value)} {v : Value}
theorem FWX.noDue (h : FWX w o t k bm blk rb ob room0 K vi il vd dl fb S wx) : FWX w o t k bm blk rb ob room0 K vi il nilS [] none S wx := by
  obtain ⟨ox, L, v, h1, h2, _, _⟩ := h
  exact ⟨ox, L, v, h1, h2, FRow.nil _ _ _ _, fun p hp => by cases hp⟩
theorem FWX.nil (h : FWX w o t k bm blk rb ob room0 K vi il vd dl fb S wx) (hc : ∀ ox, ∃ oy, Chg [] wx ox wy oy) : FWX w o t k bm blk rb ob room0 K vi il vd dl fb S wy := by
  obtain ⟨ox, L, v, h1, h2, h3, h4⟩ := h
  obtain ⟨oy, hc⟩ := hc ox
  exact ⟨oy, L, v, h1.nil hc, h2.chg hc (off_nil _), h3.chg hc (off_nil _) (off_nil _), fun p hp => (h4 p hp).chg hc (off_nil _)⟩
/-- An id of the slice. -/
theorem FWX.id {A : Option Addr} {n c : Nat} (h : FWX w o t k bm blk rb ob room0 K (.slice A n c) il vd dl fb S wx) {j id : Nat} (hj : il[j]? = some id) : ∃ g, A = some ⟨g, 0, none⟩ ∧ n = il.length ∧ wx.cell? ⟨g, j, none⟩ = some (.int .u64 id) := by
  obtain ⟨ox, L, v, h1, h2, _, _⟩ := h
  have hjl : j < il.length := (List.getElem?_eq_some_iff.1 hj).1
  rcases h2.form with ⟨he, h0⟩ | ⟨g, cap, cur, he, _⟩
  · rw [List.map_eq_nil_iff] at h0; rw [h0] at hjl; simp at hjl
  · injection he with e1 e2 e3
    subst e1; subst e2; subst e3
    refine ⟨g, rfl, by simp, ?_⟩
    rw [(h2.cell).2.1 j (by rw [List.length_map]; exact hjl), List.getElem?_map, hj]
    rfl
/-- A frame of the slice. -/
theorem FWX.due {A : Option Addr} {n c : Nat} (h : FWX w o t k bm blk rb ob room0 K vi il (.slice A n c) dl fb S wx) {j : Nat} {f : Fr} (hj : dl[j]? = some f) : ∃ g, A = some ⟨g, 0, none⟩ ∧ n = dl.length ∧ wx.rangeAt g (j * 24) (f.cells nilS nilS).toList := by
  obtain ⟨ox, L, v, h1, _, h2, _⟩ := h
  have hjl : j < dl.length := (List.getElem?_eq_some_iff.1 hj).1
  rcases h2.form with ⟨he, h0⟩ | ⟨g, cap, cur, he, _⟩
  · unfold noD at h0; rw [List.map_eq_nil_iff] at h0; rw [h0] at hjl; simp at hjl
  · injection he with e1 e2 e3
    subst e1; subst e2; subst e3
    refine ⟨g, rfl, by simp [noD], fun i u hu => ?_⟩
    have hi : i < 24 := by
      have := (List.getElem?_eq_some_iff.1 hu).1
      simp [Fr.cells] at this
      exact this
    have hj2 : (noD dl)[j]? = some (f, nilS) := by unfold noD; rw [List.getElem?_map, hj]; rfl
    rw [h2.cell hj2 hi, ← Array.getElem?_toList]
    exact hu
theorem FWX.iShape (h : FWX w o t k bm blk rb ob room0 K vi il vd dl fb S wx) : ∃ A c, vi = .slice A il.length c := by
  obtain ⟨ox, L, v, h1, h2, _, _⟩ := h
  obtain ⟨A, c, rfl, _⟩ := h2.sl
  exact ⟨A, c, by rw [List.length_map]⟩
theorem FWX.dShape (h : FWX w o t k bm blk rb ob room0 K vi il vd dl fb S wx) : ∃ A c, vd = .slice A dl.length c := by
  obtain ⟨ox, L, v, h1, _, h2, _⟩ := h
  rcases h2.form with ⟨rfl, h0⟩ | ⟨g, cap, cur, rfl, _⟩
  · unfold noD at h0; rw [List.map_eq_nil_iff] at h0; subst h0; exact ⟨none, 0, rfl⟩
  · exact ⟨_, _, by unfold noD; rw [List.length_map]⟩
theorem FWX.get (h : FWX w o t k bm blk rb ob room0 K vi il vd dl fb S wx) {id : Nat} (hid : id ∈ K) : ∃ s, mget S.T.m id = some s := by
  obtain ⟨ox, L, v, h1, _, _, _⟩ := h
  rw [← h1.keys] at hid
  obtain ⟨p, hq, rfl⟩ := List.mem_map.1 hid
  exact ⟨_, mget_mem h1.tb.1.nd hq⟩
theorem FWX.look (h : FWX w o t k bm blk rb ob room0 K vi il vd dl fb S wx) {id : Nat} {s : St} (hs : mget S.T.m id = some s) : wx.cell? ⟨k, 22, none⟩ = some (.map (some bm)) ∧ (Instr.lookup 72 (.map (some bm)) (.int .u64 id) false).run Tryz.prog wx = .ok (.pointer (some ⟨blk id, 0, none⟩)) wx := by
  obtain ⟨ox, L, v, h1, _, _, _⟩ := h
  refine ⟨h1.tb.2.1.cells 22, ?_⟩
  have := h1.tb.look id
  unfold Tb.blkOf at this
  rw [hs] at this
  exact this
theorem FWX.outV (h : FWX w o t k bm blk rb ob room0 K vi il vd dl fb S wx) : ∃ A n c, wx.cell? ⟨ob, 0, none⟩ = some (.slice A n c) ∧ (∀ (_ht : t ≠ []) (o0 : Own), o = shelter o0 (gtag t) (gtag (gtag t)) → FramesPost w o0 t k bm blk S (.returned (.slice A n c)) wx) := by
  obtain ⟨ox, L, v, h1, _, _, _⟩ := h
  obtain ⟨A, n, c, rfl⟩ := h1.fit.row.shape3
  refine ⟨A, n, c, h1.fit.out.cells 0, fun ht o0 he => ?_⟩
  subst he
  exact FWAt.done ht h1
theorem FWX.roomC (h : FWX w o t k bm blk rb ob room0 K vi il vd dl fb S wx) : wx.cell? ⟨rb, 0, none⟩ = some (.int .i64 S.room) ∧ S.room ≤ room0 := by
  obtain ⟨ox, L, v, h1, _, _, _⟩ := h
  have := h1.len
  exact ⟨h1.fit.room.cells 0, by omega⟩

/-- The closure at a frame without bytes. -/
theorem FWX.fitNo (h : FWX w o t k bm blk rb ob room0 K vi il vd dl fb S wx) (hr0 : room0 ≤ 1000000) {f : Fr} (hf : f.Good) (hd : f.data = []) (hn : S.room < frLen f) :
    Calls Tryz.prog 34 #[.agg (f.cells nilS nilS), .pointer (some ⟨rb, 0, none⟩), .pointer (some ⟨ob, 0, none⟩)] wx fun e w' => e = .returned (.bool false) ∧ FWX w o t k bm blk rb ob room0 K vi il vd dl fb S w' := by
  obtain ⟨ox, L, v, h1, h2, h3, h4⟩ := h
  have hlen := h1.len
  refine (fits_no h1.fit f nilS hn (by omega) (by have := hf.le; omega) fun X oX hc => FPut_good (h1.tab.chg hc (off_nil _)) hf nilS (by rw [hd]; exact Sl.nil X oX []) (fun _ => rfl) []).mono ?_
  rintro e w' ⟨rfl, oy, hc⟩
  exact ⟨rfl, oy, L, v, h1.nil hc, h2.chg hc (off_nil _), h3.chg hc (off_nil _) (off_nil _), fun p hp => (h4 p hp).chg hc (off_nil _)⟩
theorem FWX.fitYes (ht : t ≠ []) (h : FWX w o t k bm blk rb ob room0 K vi il vd dl fb S wx) (hr0 : room0 ≤ 1000000) {f : Fr} (hf : f.Good) (hd : f.data = []) (hn : ¬ S.room < frLen f) :
    Calls Tryz.prog 34 #[.agg (f.cells nilS nilS), .pointer (some ⟨rb, 0, none⟩), .pointer (some ⟨ob, 0, none⟩)] wx fun e w' => e = .returned (.bool true) ∧ FWX w o t k bm blk rb ob room0 K vi il vd dl fb { S with room := S.room - frLen f, L := S.L ++ [f] } w' := by
  obtain ⟨ox, L, v, h1, h2, h3, h4⟩ := h
  have hlen := h1.len
  have hlL := h1.lenL
  refine (fits_yes (off_root (gtag_ne t)) h1.fit f nilS (by rw [hd]; exact Sl.nil wx ox []) (by omega) (by omega) (by omega) fun X oX hc => FPut_good (h1.tab.chg hc (off_nil _)) hf nilS (by rw [hd]; exact Sl.nil X oX []) (fun _ => rfl) []).mono ?_
  rintro e w' ⟨v', oy, rfl, hF, hc⟩
  exact ⟨rfl, oy, _, v', h1.taken ht hf hn hF hc, h2.chg hc (idRow_off ht).2, h3.chg hc (dueRow_off ht).2 (off_root (gtag_ne t)), fun p hp => (h4 p hp).chg hc (off_root (gtag_ne t))⟩
/-- What was told is told no more. -/
theorem FWX.untell (ht : t ≠ []) (h : FWX w o t k bm blk rb ob room0 K vi il vd dl fb S wx) {id : Nat} {s : St} (hs : mget S.T.m id = some s) (kd : Int) (hk : 0 ≤ kd) :
    ∃ bt, wx.cell? ⟨blk id, 11, none⟩ = some (.map (some bt)) ∧ ∃ obj, (Instr.mapUpdate 79 (.map (some bt)) (.int .i64 kd) (.bool false)).run Tryz.prog wx = .ok () (setOb wx bt obj) ∧ FWX w o t k bm blk rb ob room0 K vi il vd dl fb { S with T := S.T.untell id kd.toNat } (setOb wx bt obj) := by
  obtain ⟨ox, L, v, h1, h2, h3, h4⟩ := h
  obtain ⟨ko, ki, bt, hst⟩ := (h1.tb.st hs).at'
  obtain ⟨obj, e1, e2, e3⟩ := tellTurn h1.tb hs hst kd.toNat kd (by omega) false
  refine ⟨bt, hst.at_.cells 11, obj, e1, ox, L, v, h1.turn ht (untell_eq hs kd.toNat ▸ e2) e3 ?_ ?_, h2.chg e3 (idRow_off ht).1, h3.chg e3 (dueRow_off ht).1 (off_root ht), fun p hp => (h4 p hp).chg e3 (off_root ht)⟩
  · rw [untell_eq hs]; exact h1.nice.set h1.tb.1.nd hs ((h1.nice.get hs).2.tell _)
  · rw [untell_eq hs, set_keys hs]; exact h1.keys
theorem FWX.drewN (h : FWX w o t k bm blk rb ob room0 K vi il vd dl fb S wx) (n : Nat) : FWX w o t k bm blk rb ob room0 K vi il vd dl fb S (wx.drewN n) := h.nil fun ox => ⟨ox, (Chg.refl _ _ _).drewN n⟩
/-- What is due of a stream. -/
theorem FWX.dues (_ht : t ≠ []) (h : FWX w o t k bm blk rb ob room0 K vi il nilS [] none S wx) {id : Nat} {s : St} (hs : mget S.T.m id = some s) :
    Calls Tryz.prog 36 #[.pointer (some ⟨blk id, 0, none⟩), .int .u64 id] wx fun e w' => ∃ A c, e = .returned (.slice A (s.due id).length c) ∧ FWX w o t k bm blk rb ob room0 K vi il (.slice A (s.due id).length c) (s.due id) none S w' := by
  obtain ⟨ox, L, v, h1, h2, h3, h4⟩ := h
  obtain ⟨ko, ki, bt, hst⟩ := (h1.tb.st hs).at'
  refine (due_ok hst id (dueRow t) [] (off_root (by simp [dueRow]))).mono ?_
  rintro e w' ⟨vd, rfl, oy, e1, e2, e3⟩
  have hx : FWX w o t k bm blk rb ob room0 K vi il vd (s.due id) none S w' := ⟨oy, L, v, h1.nil e2, h2.chg e2 (off_nil _), e1, fun p hp => by cases hp⟩
  obtain ⟨A, c, rfl⟩ := hx.dShape
  exact ⟨A, c, rfl, hx⟩
/-- A block for a frame. -/
theorem FWX.box (h : FWX w o t k bm blk rb ob room0 K vi il vd dl fb S wx) (C : Array Value) : FWX w o t k bm blk rb ob room0 K vi il vd dl (some (wx.heap.size, C)) S (wx.alloc (.cells C 52)) := by
  obtain ⟨ox, L, v, h1, h2, h3, h4⟩ := h
  have hc := ((Chg.refl [] wx ox).alloc (.cells C 52)).tag (Nat.le_refl _) []
  exact ⟨_, L, v, h1.nil hc, h2.chg hc (off_nil _), h3.chg hc (off_nil _) (off_nil _), fun p hp => by cases hp; exact At.new wx ox [] _⟩
theorem FWX.boxed {b : Nat} {C : Array Value} (h : FWX w o t k bm blk rb ob room0 K vi il vd dl (some (b, C)) S wx) : (∀ i, wx.cell? ⟨b, i, none⟩ = C[i]?) ∧ (∀ i, wx.frozen? ⟨b, i, none⟩ = false) ∧ wx.rangeAt b 0 C.toList ∧ wx.there b 0 C.size := by
  obtain ⟨ox, L, v, h1, h2, h3, h4⟩ := h
  have := h4 _ rfl
  exact ⟨this.cells, this.free, parRange' this.cells, there_of this⟩
theorem FWX.noBox (h : FWX w o t k bm blk rb ob room0 K vi il vd dl fb S wx) : FWX w o t k bm blk rb ob room0 K vi il vd dl none S wx := by
  obtain ⟨ox, L, v, h1, h2, h3, _⟩ := h
  exact ⟨ox, L, v, h1, h2, h3, fun p hp => by cases hp⟩
theorem FWX.tellC (h : FWX w o t k bm blk rb ob room0 K vi il vd dl fb S wx) : wx.cell? ⟨k, 32, none⟩ = some (.bool S.T.tell) ∧ wx.cell? ⟨k, 31, none⟩ = some (.int .u64 S.T.read) ∧ wx.cell? ⟨k, 2, none⟩ = some (.int .u64 S.T.own.data) ∧ wx.frozen? ⟨k, 32, none⟩ = false ∧ S.T.read + S.T.own.data ≤ 4611686018427387903 := by
  obtain ⟨ox, L, v, h1, _⟩ := h
  exact ⟨h1.tb.2.1.cells 32, h1.tb.2.1.cells 31, h1.tb.2.1.cells 2, h1.tb.2.1.free 32, h1.nice.read⟩
theorem FWX.quiet (ht : t ≠ []) (h : FWX w o t k bm blk rb ob room0 K vi il vd dl fb S wx) : FWX w o t k bm blk rb ob room0 K vi il vd dl fb S.quiet (wx.setCell ⟨k, 32, none⟩ (.bool false)) := by
  obtain ⟨ox, L, v, h1, h2, h3, h4⟩ := h
  have hw := h1.tb.1
  have hT : TbAt (wx.setCell ⟨k, 32, none⟩ (.bool false)) ox t k bm blk { S.T with tell := false } := h1.tb.store (T' := { S.T with tell := false }) ⟨hw.own, hw.d100, hw.s100, hw.n60, hw.o0, hw.o1, hw.o2, hw.o3, hw.l0, hw.l1, hw.stream64, hw.data64, hw.read64, hw.nd, hw.id64⟩ rfl 32 _ rfl
  have hc : Chg [t] wx ox (wx.setCell ⟨k, 32, none⟩ (.bool false)) ox := (Chg.refl _ _ _).setCell _ (.inr h1.tb.2.1.on)
  exact ⟨ox, L, v, h1.turn ht hT hc ⟨h1.nice.ids, h1.nice.st, h1.nice.read⟩ h1.keys, h2.chg hc (idRow_off ht).1, h3.chg hc (dueRow_off ht).1 (off_root ht), fun p hp => (h4 p hp).chg hc (off_root ht)⟩
theorem FWX.dueGood (h : FWX w o t k bm blk rb ob room0 K vi il vd dl fb S wx) {id : Nat} {s : St} (hs : mget S.T.m id = some s) : ∀ f ∈ s.due id, f.Good ∧ f.data = [] ∧ f.kind ≠ 8 ∧ 0 ≤ f.kind := by
  obtain ⟨ox, L, v, h1, _⟩ := h
  refine due_good (h1.nice.get hs).2 (fun P hP => ?_) (h1.nice.get hs).1
  obtain ⟨ko, ki, bt, hst⟩ := (h1.tb.st hs).at'
  have hh := hst.out
  rw [hP] at hh
  obtain ⟨_, _, hr⟩ := hh.some'
  exact hr.1
theorem FWX.boxSet (h : FWX w o t k bm blk rb ob room0 K vi il vd dl fb S wx) (C0 C : Array Value) (hl : C.size = C0.size) : FWX w o t k bm blk rb ob room0 K vi il vd dl (some (wx.heap.size, C)) S ((wx.alloc (.cells C0 52)).setCells wx.heap.size 0 C.toList) := by
  obtain ⟨ox, L, v, h1, h2, h3, h4⟩ := h
  have hc0 := ((Chg.refl [] wx ox).alloc (.cells C0 52)).tag (Nat.le_refl _) []
  have hc : Chg [] wx ox ((wx.alloc (.cells C0 52)).setCells wx.heap.size 0 C.toList) _ := Chg.setCells (b := wx.heap.size) C.toList 0 _ hc0 (.inl (Nat.le_refl _))
  exact ⟨_, L, v, h1.nil hc, h2.chg hc (off_nil _), h3.chg hc (off_nil _) (off_nil _), fun p hp => by cases hp; exact (At.new wx ox [] _).setAll hl⟩
theorem FWX.idsCall (h : FWX w o t k bm blk rb ob room0 K nilS [] nilS [] none S wx) (hl : K.length ≤ 100000000) :
    Calls Tryz.prog 12 #[.pointer (some ⟨k, 0, none⟩)] wx fun e w' => ∃ A c, e = .returned (.slice A S.T.ids.length c) ∧ FWX w o t k bm blk rb ob room0 K (.slice A S.T.ids.length c) S.T.ids nilS [] none S w' := by
  obtain ⟨ox, L, v, h1, h2, h3, h4⟩ := h
  refine (Ids_ok (gtag (gtag t)) ⟨bm, blk, h1.tb⟩ (by have := congrArg List.length h1.keys; rw [List.length_map] at this; omega)).mono ?_
  rintro e w' ⟨vi, oy, rfl, i1, i2⟩
  have hx : FWX w o t k bm blk rb ob room0 K vi S.T.ids nilS [] none S w' := ⟨oy, L, v, h1.nil i2, i1, FRow.nil _ _ _ _, fun p hp => by cases hp⟩
  obtain ⟨A, c, rfl⟩ := hx.iShape
  exact ⟨A, c, rfl, hx⟩
theorem FWX.idLe (h : FWX w o t k bm blk rb ob room0 K vi il vd dl fb S wx) {id : Nat} {s : St} (hs : mget S.T.m id = some s) : id ≤ 4611686018427387903 := by
  obtain ⟨ox, L, v, h1, _⟩ := h
  exact (h1.nice.get hs).1
theorem FWX.idsIn (h : FWX w o t k bm blk rb ob room0 K vi il vd dl fb S wx) {j id : Nat} (hj : S.T.ids[j]? = some id) : id ∈ K := by
  obtain ⟨ox, L, v, h1, _⟩ := h
  rw [← h1.keys]
  exact (sortN_p _).mem_iff.1 (List.mem_of_getElem? hj)
/-- A stream's cells that the last loop reads. -/
theorem FWX.outC (h : FWX w o t k bm blk rb ob room0 K vi il vd dl fb S wx) {id : Nat} {s : St} (hs : mget S.T.m id = some s) : wx.cell? ⟨blk id, 4, none⟩ = some (.bool s.reset) ∧ ((s.out = none ∧ wx.cell? ⟨blk id, 0, none⟩ = some (.pointer none)) ∨ ∃ O ko, s.out = some O ∧ O.Wf ∧ wx.cell? ⟨blk id, 0, none⟩ = some (.pointer (some ⟨ko, 0, none⟩))) := by
  obtain ⟨ox, L, v, h1, _⟩ := h
  obtain ⟨ko, ki, bt, hst⟩ := (h1.tb.st hs).at'
  have ho := hst.out
  refine ⟨hst.at_.cells 4, ?_⟩
  cases hso : s.out with
  | none =>
    rw [hso] at ho
    cases ko with
    | none => exact .inl ⟨rfl, hst.at_.cells 0⟩
    | some _ => exact ho.elim
  | some O =>
    rw [hso] at ho
    obtain ⟨kO, rfl, hO⟩ := ho.some'
    exact .inr ⟨O, kO, rfl, hO.1, hst.at_.cells 0⟩
/-- A frame came, with its bytes. -/
def FWD (w : World) (o : Own) (t : Tag) (k bm : Nat) (blk : Nat → Nat) (rb ob room0 : Nat) (K : List Nat) (vi : Value) (il : List Nat) (fb : Option (Nat × Array Value)) (dv : Value) (d : List Nat) (S : FS) (wx : World) : Prop :=
  ∃ ox L v, FWAt w o t k bm blk rb ob room0 K S wx ox L v ∧ Row wx ox (idRow t) 26 vi (il.map uv) ∧ (∀ p, fb = some p → At wx ox p.1 [] (.cells p.2 52 (0, 0))) ∧ Sl wx ox [] dv (d.map bv)
theorem FWX.next (ht : t ≠ []) (h : FWX w o t k bm blk rb ob room0 K vi il nilS [] none S wx) {id : Nat} {s : St} (hs : mget S.T.m id = some s) {O : Out} (hO : s.out = some O) (many : Nat) (hm1 : 1 ≤ many) (hm2 : many ≤ 1000000000) :
    Calls Tryz.prog 37 #[.pointer (some ⟨k, 0, none⟩), .int .u64 id, .pointer (some ⟨blk id, 0, none⟩), .int .i64 many] wx fun e w' => ∃ dv, e = .returned (.tuple #[.agg ((S.T.nextF id s O many).1.1.cells dv nilS), .bool (S.T.nextF id s O many).1.2]) ∧ dv.oneCell' = true ∧
      FWD w o t k bm blk rb ob room0 K vi il none dv (S.T.nextF id s O many).1.1.data { S with T := (S.T.nextF id s O many).2 } w' := by
  obtain ⟨ox, L, v, h1, h2, h3, h4⟩ := h
  refine (Tnext_ok ht h1.tb id hs hO many hm1 hm2 [] (off_root (gtag_ne t))).mono ?_
  rintro e w' ⟨dv, oy, rfl, e1, e2, e3⟩
  refine ⟨dv, rfl, by obtain ⟨A, c, rfl, _⟩ := e1.sl; rfl, oy, L, v, h1.turn ht e2 e3 (next_nice h1.nice h1.tb.1.nd hs O many) ?_, h2.chg e3 (idRow_off ht).1, (fun p hp => by cases hp), e1.sl⟩
  exact (set_keys hs).trans h1.keys
theorem FWD.fwx {dv : Value} {d : List Nat} (h : FWD w o t k bm blk rb ob room0 K vi il fb dv d S wx) : FWX w o t k bm blk rb ob room0 K vi il nilS [] none S wx := by
  obtain ⟨ox, L, v, h1, h2, h3, h4⟩ := h
  exact ⟨ox, L, v, h1, h2, FRow.nil _ _ _ _, fun p hp => by cases hp⟩
theorem FWD.boxSet {dv : Value} {d : List Nat} (h : FWD w o t k bm blk rb ob room0 K vi il none dv d S wx) (C0 C : Array Value) (hl : C.size = C0.size) : FWD w o t k bm blk rb ob room0 K vi il (some (wx.heap.size, C)) dv d S ((wx.alloc (.cells C0 52)).setCells wx.heap.size 0 C.toList) := by
  obtain ⟨ox, L, v, h1, h2, h3, h4⟩ := h
  have hc0 := ((Chg.refl [] wx ox).alloc (.cells C0 52)).tag (Nat.le_refl _) []
  have hc : Chg [] wx ox ((wx.alloc (.cells C0 52)).setCells wx.heap.size 0 C.toList) _ := Chg.setCells (b := wx.heap.size) C.toList 0 _ hc0 (.inl (Nat.le_refl _))
  exact ⟨_, L, v, h1.nil hc, h2.chg hc (off_nil _), fun p hp => by cases hp; exact (At.new wx ox [] _).setAll hl, h4.chg hc (off_nil _)⟩
theorem FWD.range {dv : Value} {d : List Nat} {b : Nat} {C : Array Value} (h : FWD w o t k bm blk rb ob room0 K vi il (some (b, C)) dv d S wx) : wx.rangeAt b 0 C.toList := by
  obtain ⟨ox, L, v, h1, h2, h3, h4⟩ := h
  exact parRange' (h3 _ rfl).cells
theorem FWD.fitYes (ht : t ≠ []) {dv : Value} {f : Fr} (h : FWD w o t k bm blk rb ob room0 K vi il fb dv f.data S wx) (hr0 : room0 ≤ 1000000) (hf : f.Good) (h8 : f.kind = 8) (hn : ¬ S.room < frLen f) :
    Calls Tryz.prog 34 #[.agg (f.cells dv nilS), .pointer (some ⟨rb, 0, none⟩), .pointer (some ⟨ob, 0, none⟩)] wx fun e w' => e = .returned (.bool true) ∧ FWX w o t k bm blk rb ob room0 K vi il nilS [] none { S with room := S.room - frLen f, L := S.L ++ [f] } w' := by
  obtain ⟨ox, L, v, h1, h2, h3, h4⟩ := h
  have hlen := h1.len
  have hlL := h1.lenL
  refine (fits_yes (off_root (gtag_ne t)) h1.fit f dv h4 (by omega) (by omega) (by omega) fun X oX hc => FPut_good (h1.tab.chg hc (off_nil _)) hf dv (h4.chg hc (off_nil _)) (fun hh => absurd h8 hh) []).mono ?_
  rintro e w' ⟨v', oy, rfl, hF, hc⟩
  exact ⟨rfl, oy, _, v', h1.taken ht hf hn hF hc, h2.chg hc (idRow_off ht).2, FRow.nil _ _ _ _, fun p hp => by cases hp⟩
end

/-- The room, as it stands in its variable. -/
def roomOf (rb : Nat) (wx : World) : Nat := match wx.cell? ⟨rb, 0, none⟩ with
  | some (.int _ n) => n.toNat
  | _ => 0
theorem FWX.roomOf {w wx : World} {o : Own} {t : Tag} {k bm : Nat} {blk : Nat → Nat} {rb ob room0 : Nat} {K : List Nat} {vi vd : Value} {il : List Nat} {dl : List Fr} {fb : Option (Nat × Array Value)} {S : FS}
    (h : FWX w o t k bm blk rb ob room0 K vi il vd dl fb S wx) : Go.Proofs.YthliihmhkhabeaaGreatDoor.roomOf rb wx = S.room := by
  unfold Go.Proofs.YthliihmhkhabeaaGreatDoor.roomOf
  rw [h.roomC.1]
  rfl
theorem phase3_step {ids : List Nat} {j id : Nat} (hj : ids[j]? = some id) (S : FS) : FS.phase3 (ids.drop j) S = if (FS.pump id (S.room + 1) S).2 then FS.phase3 (ids.drop (j + 1)) (FS.pump id (S.room + 1) S).1 else ((FS.pump id (S.room + 1) S).1, false) := by
  rw [drop_at hj]; rfl
theorem pump_none {id n : Nat} {S : FS} {s : St} (hs : mget S.T.m id = some s) (ho : s.out = none) : FS.pump id (n + 1) S = (S, true) := by
  simp only [FS.pump, hs, ho]
theorem pump_reset {id n : Nat} {S : FS} {s : St} (hs : mget S.T.m id = some s) {O : Out} (ho : s.out = some O) (hr : s.reset = true) : FS.pump id (n + 1) S = (S, true) := by
  simp only [FS.pump, hs, ho, hr, if_true]
theorem pump_full {id n : Nat} {S : FS} {s : St} (hs : mget S.T.m id = some s) {O : Out} (ho : s.out = some O) (hr : s.reset = false) (hl : S.room < 21) : FS.pump id (n + 1) S = (S, false) := by
  simp only [FS.pump, hs, ho, hr, if_pos hl, Bool.false_eq_true, if_false]
theorem pump_end {id n : Nat} {S : FS} {s : St} (hs : mget S.T.m id = some s) {O : Out} (ho : s.out = some O) (hr : s.reset = false) (hl : ¬ S.room < 21) {many : Nat} (hm : many = Min.min (S.room - 20) 200) (hk : (S.T.nextF id s O many).1.2 = false) :
    FS.pump id (n + 1) S = ({ S with T := (S.T.nextF id s O many).2 }, true) := by
  subst hm
  simp only [FS.pump, hs, ho, hr, if_neg hl, Bool.false_eq_true, if_false, hk]
theorem pump_step {id n : Nat} {S : FS} {s : St} (hs : mget S.T.m id = some s) {O : Out} (ho : s.out = some O) (hr : s.reset = false) (hl : ¬ S.room < 21) {many : Nat} (hm : many = Min.min (S.room - 20) 200) (hk : (S.T.nextF id s O many).1.2 = true)
    (hf : ¬ S.room < frLen (S.T.nextF id s O many).1.1) :
    FS.pump id (n + 1) S = FS.pump id n { T := (S.T.nextF id s O many).2, room := S.room - frLen (S.T.nextF id s O many).1.1, L := S.L ++ [(S.T.nextF id s O many).1.1] } := by
  subst hm
  simp only [FS.pump, hs, ho, hr, if_neg hl, Bool.false_eq_true, if_false, hk, if_true, FS.fit, if_neg hf]

theorem phase1_step {ids : List Nat} {j id : Nat} (hj : ids[j]? = some id) (S : FS) : FS.phase1 (ids.drop j) S = if (FS.dues id (S.T.dueOf id) S).2 then FS.phase1 (ids.drop (j + 1)) (FS.dues id (S.T.dueOf id) S).1 else ((FS.dues id (S.T.dueOf id) S).1, false) := by
  rw [drop_at hj]; rfl
theorem dues_no {id : Nat} {dl : List Fr} {m : Nat} {f : Fr} (hm : dl[m]? = some f) {S : FS} (hn : S.room < frLen f) : FS.dues id (dl.drop m) S = (S, false) := by
  rw [drop_at hm]; simp only [FS.dues, FS.fit, if_pos hn]
theorem dues_yes {id : Nat} {dl : List Fr} {m : Nat} {f : Fr} (hm : dl[m]? = some f) {S : FS} (hn : ¬ S.room < frLen f) : FS.dues id (dl.drop m) S = FS.dues id (dl.drop (m + 1)) { T := S.T.untell id f.kind.toNat, room := S.room - frLen f, L := S.L ++ [f] } := by
  rw [drop_at hm]; simp only [FS.dues, FS.fit, if_neg hn]
theorem all_no {S0 S2 : FS} {ids : List Nat} (hi : S0.T.ids = ids) (h : FS.phase1 ids S0 = (S2, false)) : FS.all S0 = S2 := by unfold FS.all; rw [hi, h]; rfl
theorem dues_end {id : Nat} {dl : List Fr} {m : Nat} (h : dl.length ≤ m) (S : FS) : FS.dues id (dl.drop m) S = (S, true) := by rw [List.drop_eq_nil_of_le h]; rfl
theorem all_told {S0 S1 : FS} {ids : List Nat} (hi : S0.T.ids = ids) (h : FS.phase1 ids S0 = (S1, true)) (h2 : S1.told.2 = false) : FS.all S0 = S1.told.1 := by
  unfold FS.all; rw [hi, h]; simp only [if_true, FS.phase2, h2, Bool.false_eq_true, if_false]
theorem all_go {S0 S1 : FS} {ids : List Nat} (hi : S0.T.ids = ids) (h : FS.phase1 ids S0 = (S1, true)) (h2 : S1.told.2 = true) : FS.all S0 = (FS.phase3 S1.told.1.quiet.T.ids S1.told.1.quiet).1 := by
  unfold FS.all; rw [hi, h]; simp only [if_true, FS.phase2, h2]
theorem end_yes {_S0 P0 S : FS} {ids : List Nat} {R : FS} (hR : R = (FS.phase3 ids P0).1) (h : FS.phase3 ids P0 = (S, true)) : R = S := by rw [hR, h]
theorem end_no {P0 S S2 : FS} {ids : List Nat} {j id : Nat} {R : FS} (hR : R = (FS.phase3 ids P0).1) (h : FS.phase3 ids P0 = FS.phase3 (ids.drop j) S) (hj : ids[j]? = some id) (hp : FS.pump id (S.room + 1) S = (S2, false)) : R = S2 := by
  rw [hR, h, phase3_step hj, hp]; rfl
theorem dueOf_eq {T : Tb} {id : Nat} {s : St} (hs : mget T.m id = some s) : T.dueOf id = s.due id := by unfold Tb.dueOf; rw [hs]
end Go.Proofs.YthliihmhkhabeaaGreatDoor
/- What goes out: Frames. Conditions: the table's streams are nice (small ids, codes, limits). -/
namespace Go.Proofs.YthliihmhkhabeaaGreatDoor
open Go Go.RowKit

set_option maxHeartbeats 8000000 in
set_option maxRecDepth 100000 in
theorem TFrames_ok {w : World} {o : Own} {t : Tag} (ht : t ≠ []) (hg : GTab w o) {k bm : Nat} {blk : Nat → Nat} {T : Tb} (h : TbAt w o t k bm blk T) (hn : T.Nice) (hl : T.m.length ≤ 100000000) (room : Nat) (hr : room ≤ 1000000) :
    Calls Tryz.prog 15 #[ptr k, .int .i64 room] w (FramesPost w o t k bm blk (T.frames room)) := by
  obtain ⟨o1, ho1⟩ : ∃ o1, o1 = shelter o (gtag t) (gtag (gtag t)) := ⟨_, rfl⟩
  have hc1 : Chg [gtag t] w o w o1 := by rw [ho1]; exact shelter_chg w o (gtag t) _
  have h1 := h.aside ht hc1
  have hg1 := hg.chg hc1 (off_root (gtag_ne t))
  have Ho1 := Lib.hid ho1
  clear h hg hc1 ho1
  -- the two variables
  obtain ⟨W1, hW1⟩ : ∃ W1, W1 = w.alloc (.cells #[.int .i64 room] 3) := ⟨_, rfl⟩
  have hc2 : Chg [] w o1 W1 (o1.upd w.heap.size (0 :: gtag t)) := by rw [hW1]; exact ((Chg.refl [] w o1).alloc _).tag (Nat.le_refl _) _
  have a2 : At W1 (o1.upd w.heap.size (0 :: gtag t)) w.heap.size (0 :: gtag t) (.cells #[.int .i64 room] 3 (0, 0)) := by rw [hW1]; exact At.new w o1 _ _
  obtain ⟨W2, hW2⟩ : ∃ W2, W2 = W1.alloc (.cells #[.slice none 0 0] 47) := ⟨_, rfl⟩
  have hc3 : Chg [] W1 (o1.upd w.heap.size (0 :: gtag t)) W2 ((o1.upd w.heap.size (0 :: gtag t)).upd W1.heap.size (1 :: gtag t)) := by rw [hW2]; exact ((Chg.refl [] W1 _).alloc _).tag (Nat.le_refl _) _
  have a3 : At W2 ((o1.upd w.heap.size (0 :: gtag t)).upd W1.heap.size (1 :: gtag t)) W1.heap.size (1 :: gtag t) (.cells #[.slice none 0 0] 47 (0, 0)) := by rw [hW2]; exact At.new W1 _ _ _
  have hF0 : FWAt w o1 t k bm blk w.heap.size W1.heap.size room (T.m.map (·.1)) ⟨T, room, []⟩ W2 ((o1.upd w.heap.size (0 :: gtag t)).upd W1.heap.size (1 :: gtag t)) [] (.slice none 0 0) :=
    ⟨(h1.chg hc2 fun _ _ => off_nil _).chg hc3 fun _ _ => off_nil _, ⟨a2.chg hc3 (off_nil _), a3, FRow.nil _ _ _ _⟩, rfl, (hc2.trans hc3).of_nil, hn, rfl, by simp, (hg1.chg hc2 (off_nil _)).chg hc3 (off_nil _)⟩
  have hrb : RowKit.Hid (W1.heap.size = w.heap.size + 1) := by show _ = _; rw [hW1, World.size_alloc]
  have hrI : (room : Int) ≤ 1000000 := by omega
  have HW1 := Lib.hid hW1; have HW2 := Lib.hid hW2
  have Hn := Lib.hid hn; have Hht := Lib.hid ht; have Hl := Lib.hid hl
  have HF0 : FW w o1 t k bm blk w.heap.size W1.heap.size room (T.m.map (·.1)) ⟨T, room, []⟩ W2 := ⟨_, _, _, hF0⟩
  have HF0 := Lib.hid HF0
  clear hc2 hc3 a2 a3 hF0 hn ht hl h1 hg1 hW1 hW2
  unfold ptr
  go_enter Tryz.func15, Tryz.ntmps15
  go_upto_region 4 with fail
  change Code.wp _ _ _ _ ((w.alloc (.cells #[.int .i64 room] 3)).alloc (.cells #[.slice none 0 0] 47))
  rw [show ((w.alloc (.cells #[.int .i64 room] 3)).alloc (.cells #[.slice none 0 0] 47)) = W2 by rw [HW2.out, HW1.out], ← hrb.out]
  clear hrb HW1 HW2
  obtain ⟨ox, L, v, hF⟩ := HF0.out
  have HI := Lib.hid (Ids_ok (gtag (gtag t)) ⟨bm, blk, hF.tb⟩ Hl.out)
  have HFF := Lib.hid hF
  clear hF HF0
  generalize hrbe : w.heap.size = rb at *
  generalize hobe : W1.heap.size = ob at *
  clear hrbe hobe
  unfold SortedPost at HI
  have HT : RowKit.Hid (T.ids = sortN (T.m.map (·.1))) := rfl
  obtain ⟨ids, hids⟩ : ∃ ids, ids = T.ids := ⟨_, rfl⟩
  have Hids := Lib.hid hids
  clear hids HT
  go_upto_block 0 with (go_at_call 12; refine HI.out.mono ?_; rintro e w3 ⟨vi, o3, rfl, i1, i2⟩; have hX3 : FWX w o1 t k bm blk rb ob room (T.m.map (·.1)) vi ids nilS [] none ⟨T, room, []⟩ w3 := ⟨o3, L, v, HFF.out.nil i2, by rw [Hids.out]; exact i1, FRow.nil _ _ _ _, fun p hp => by cases hp⟩; clear i1 i2; obtain ⟨Ai, ci, rfl⟩ := hX3.iShape; have HX3 := Lib.hid hX3; clear hX3)
  have hlI : (ids.length : Int) ≤ 100000000 := by have h1 := Hl.out; have h2 := ids_len T; rw [Hids.out]; omega
  obtain ⟨S0, hS0⟩ : ∃ S0 : FS, S0 = ⟨T, room, []⟩ := ⟨_, rfl⟩
  have HS0 := Lib.hid hS0
  have HSI : RowKit.Hid (S0.T.ids = ids) := by show _ = _; rw [hS0, Hids.out]
  have HR0 : RowKit.Hid (T.frames room = FS.all S0) := by rw [hS0]; rfl
  rw [← hS0] at HX3
  clear hS0 HI HFF
  have Hr := Lib.hid hr
  obtain ⟨K, hK⟩ : ∃ K, K = T.m.map (·.1) := ⟨_, rfl⟩
  have HK : RowKit.Hid (∀ (j id : Nat), ids[j]? = some id → id ∈ K) := by
    show ∀ (j id : Nat), _ → _
    intro j id hj
    rw [Hids.out] at hj
    rw [hK]
    exact (sortN_p _).mem_iff.1 (List.mem_of_getElem? hj)
  rw [← hK] at HX3
  have HKl : RowKit.Hid (K.length ≤ 100000000) := by show _ ≤ _; rw [hK, List.length_map]; exact Hl.out
  clear hK
  go_cut [4] from 8 (fun _u wx => ∃ S, RowKit.Hid (FWX w o1 t k bm blk rb ob room K nilS [] nilS [] none S wx ∧ FS.phase1 ids S0 = (S, true)))
  case first =>
    go_wp2
    go_loopw [23] (fun i wx => ∃ (j : Nat) (S : FS), i = .int .i64 j ∧ j ≤ ids.length ∧ RowKit.Hid (FWX w o1 t k bm blk rb ob room K (.slice Ai ids.length ci) ids nilS [] none S wx ∧ FS.phase1 ids S0 = FS.phase1 (ids.drop j) S)) (fun i _ => ids.length - (intOf i).toNat)
    case atStart => exact ⟨0, S0, rfl, Nat.zero_le _, HX3.out, rfl⟩
    case round =>
      obtain ⟨j, S, rfl, hj, hX⟩ := hrel
      by_cases hlt : j < ids.length
      · obtain ⟨id, hid⟩ : ∃ id, ids[j]? = some id := ⟨ids[j], List.getElem?_eq_getElem hlt⟩
        obtain ⟨hX1, hX2⟩ := hX.out
        obtain ⟨s, hs⟩ := hX1.get (HK.out j id hid)
        obtain ⟨gi, rfl, _, hci⟩ := hX1.id hid
        obtain ⟨hk, hlk⟩ := hX1.look hs
        have HD := Lib.hid (hX1.dues Hht.out hs)
        have Hid := Lib.hid hid; have HX2 := Lib.hid hX2; have Hs := Lib.hid hs
        have Hnice := Lib.hid (hX1.dueGood hs)
        clear hid hX1 hX2 hX hs
        obtain ⟨dl, hdl⟩ : ∃ dl, dl = s.due id := ⟨_, rfl⟩
        rw [← hdl] at HD Hnice
        have Hdl := Lib.hid hdl
        clear hdl
        go_upto_block 2 with (go_at_call 36; refine HD.out.mono ?_; rintro e w4 ⟨Ad, cd, rfl, hX4⟩; have HX4 := Lib.hid hX4; clear hX4)
        go_wp2
        obtain ⟨wo, rfl⟩ : ∃ wo : World, wo = wr := ⟨_, rfl⟩
        have hdlI : (dl.length : Int) ≤ 3 := by
          rw [Hdl.out]
          have : (s.due id).length ≤ 3 := by
            unfold St.due
            simp only [List.length_append]
            split <;> split <;> split <;> simp
          omega
        go_loopw [36] (fun i wx => ∃ (m : Nat) (S2 : FS), i = .int .i64 m ∧ m ≤ dl.length ∧ RowKit.Hid (FWX w o1 t k bm blk rb ob room K (.slice (some ⟨gi, 0, none⟩) ids.length ci) ids (.slice Ad dl.length cd) dl none S2 wx ∧ FS.dues id dl S = FS.dues id (dl.drop m) S2)) (fun i _ => dl.length - (intOf i).toNat)
        case atStart => exact ⟨0, S, rfl, Nat.zero_le _, HX4.out, rfl⟩
        case round =>
          obtain ⟨m, S2, rfl, hm, hY⟩ := hrel
          by_cases hlt2 : m < dl.length
          · obtain ⟨f, hf⟩ : ∃ f, dl[m]? = some f := ⟨dl[m], List.getElem?_eq_getElem hlt2⟩
            obtain ⟨hY1, hY2⟩ := hY.out
            obtain ⟨hfg, hfd, hf8, hf0⟩ := Hnice.out f (List.mem_of_getElem? hf)
            obtain ⟨gd, rfl, _, hrg⟩ := hY1.due hf
            have HB := Lib.hid (hY1.boxSet (frZ.cells nilS nilS) (f.cells nilS nilS) rfl)
            have Hrg := Lib.hid hrg; have Hf := Lib.hid hf; have Hfg := Lib.hid hfg; have Hfd := Lib.hid hfd; have Hf0 := Lib.hid hf0; have HY2 := Lib.hid hY2; have HY1 := Lib.hid hY1
            clear hY hY1 hY2 hfg hfd hf8 hf0 hrg hf
            have hth : (wr.alloc (.cells #[.int .i64 0, .int .u64 0, .int .u64 0, .int .u64 0, .int .u64 0, .bool false, .slice none 0 0, .slice none 0 0, .int .u8 0, .int .u8 0, .int .u8 0, .int .u8 0, .int .u8 0, .int .u8 0, .int .u8 0, .int .u8 0, .int .u8 0, .int .u8 0, .int .u8 0, .int .u8 0, .int .u8 0, .int .u8 0, .int .u8 0, .int .u8 0] 52)).there wr.heap.size 0 24 := there_of (newFr wr (fun _ => [])).1
            have Hsz : RowKit.Hid ((Tryz.prog.info? 52).map (·.size) = some (f.cells nilS nilS).toList.length) := infoFR
            have hall : RowKit.Hid ((f.cells nilS nilS).all (·.oneCell') = true) := frOne' f rfl
            go_upto_region 10 with (first
              | (refine wpList_load_mid (P := Tryz.prog) rfl 52 (.tmp 38) rfl gd (m * 24) rfl (f.cells nilS nilS).toList _ Hrg.out Tryz.underlying52 rfl Hsz.out ?_; simp only [Array.toArray_toList])
              | (refine wpList_store_mid (P := Tryz.prog) rfl 52 (.tmp 10) (.tmp 39) rfl wr.heap.size 0 (f.cells nilS nilS) rfl rfl hth infoFR hall.out ?_))
            change Code.wp _ _ _ _ ((wr.alloc (.cells (frZ.cells nilS nilS) 52)).setCells wr.heap.size 0 (f.cells nilS nilS).toList)
            generalize ((wr.alloc (.cells (frZ.cells nilS nilS) 52)).setCells wr.heap.size 0 (f.cells nilS nilS).toList) = W5 at *
            generalize wr.heap.size = nb at *
            clear hth Hrg
            have hrg5 := Lib.hid HB.out.boxed.2.2.1
            by_cases hfit : S2.room < frLen f
            · have HC := Lib.hid (HB.out.fitNo Hr.out Hfg.out Hfd.out hfit)
              have HE : RowKit.Hid (T.frames room = S2) := by
                have e1 := HX2.out
                rw [phase1_step Hid.out, dueOf_eq Hs.out, ← Hdl.out, HY2.out, dues_no Hf.out hfit] at e1
                exact HR0.out.trans (all_no HSI.out e1)
              clear hfit
              go_upto_region 11 with (first
                | (refine wpList_load_mid (P := Tryz.prog) rfl 52 (.tmp 10) rfl nb 0 rfl (f.cells nilS nilS).toList _ hrg5.out Tryz.underlying52 rfl Hsz.out ?_; simp only [Array.toArray_toList])
                | (go_at_call 34; refine HC.out.mono ?_; rintro e w6 ⟨rfl, hX6⟩; obtain ⟨A6, n6, c6, hv6, hp6⟩ := hX6.outV; have HP6 := Lib.hid hp6; clear hp6 hX6))
              go_wp2
              go_ret
              rw [HE.out]
              exact HP6.out Hht.out o Ho1.out
            · have HC := Lib.hid (HB.out.fitYes Hht.out Hr.out Hfg.out Hfd.out hfit)
              have HE : RowKit.Hid (FS.dues id dl S = FS.dues id (dl.drop (m + 1)) { T := S2.T.untell id f.kind.toNat, room := S2.room - frLen f, L := S2.L ++ [f] }) := HY2.out.trans (dues_yes Hf.out hfit)
              clear hfit
              go_upto_region 12 with (first
                | (refine wpList_load_mid (P := Tryz.prog) rfl 52 (.tmp 10) rfl nb 0 rfl (f.cells nilS nilS).toList _ hrg5.out Tryz.underlying52 rfl Hsz.out ?_; simp only [Array.toArray_toList])
                | (go_at_call 34; refine HC.out.mono ?_; rintro e w6 ⟨rfl, hX6⟩; have HX6 := Lib.hid hX6; clear hX6))
              have hX7 : FWX w o1 t k bm blk rb ob room K (.slice (some ⟨gi, 0, none⟩) ids.length ci) ids (.slice (some ⟨gd, 0, none⟩) dl.length cd) dl (some (nb, f.cells nilS nilS)) { S2 with room := S2.room - frLen f, L := S2.L ++ [f] } w6.drew := HX6.out.drewN 1
              obtain ⟨s6, hs6⟩ := hX7.get (HK.out j id Hid.out)
              obtain ⟨hk7, hlk7⟩ := hX7.look hs6
              obtain ⟨bt, hbt, obj, hup, hX8⟩ := hX7.untell Hht.out hs6 f.kind Hf0.out
              have hb7 : w6.drew.cell? ⟨nb, 0, none⟩ = some (.int .i64 f.kind) := hX7.boxed.1 0
              have HX8 := Lib.hid hX8
              clear hX7 hX8 hs6 HX6 hrg5
              refine wp_region_still_tail 11 (by kernel_rfl) (by kernel_rfl) ?_
              simp only [List.take_succ_cons, List.take_zero, List.drop_succ_cons, List.drop_zero]
              repeat still_step
              refine wpStill_nil ?_
              change wpList _ _ _ _ _ w6.drew
              go_wp2_with (refine wpList_mupd rfl 79 _ _ _ rfl _ _ _ rfl rfl rfl _ hup ?_)
              go_round
              case rel => exact ⟨m + 1, _, by go_num, by omega, HX8.out.noBox, HE.out⟩
              case measure => simp [intOf]; omega
          · have hX9 := hY.out.1.noDue
            have HX9 := Lib.hid hX9
            have HE : RowKit.Hid (FS.phase1 ids S0 = FS.phase1 (ids.drop (j + 1)) S2) := by
              have e1 := HX2.out
              have e2 := hY.out.2
              rw [dues_end (by omega)] at e2
              rw [phase1_step Hid.out, dueOf_eq Hs.out, ← Hdl.out, e2] at e1
              exact e1
            clear hX9 hY
            go_wp2
            go_round
            case rel => exact ⟨j + 1, S2, by go_num, by omega, HX9.out, HE.out⟩
            case measure => simp [intOf]; omega
      · have HX2 : RowKit.Hid (FS.phase1 ids S0 = (S, true)) := by
          have h2 := hX.out.2
          rw [List.drop_eq_nil_of_le (by omega)] at h2
          exact h2
        go_wp2
        go_meet
        obtain ⟨ox, L, v, h1, h2, h3, h4⟩ := hX.out.1
        exact ⟨S, ⟨ox, L, v, h1, Row.nil _ _ _ _, h3, h4⟩, HX2.out⟩
  obtain ⟨S, hS⟩ := hcut
  obtain ⟨hX, hP⟩ := hS.out
  obtain ⟨hc32, hc31, hc2, hf32, hsm⟩ := hX.tellC
  have HX := Lib.hid hX; have HP := Lib.hid hP
  clear hS hX hP HX3 hlI
  go_upto_region 15 with fail
  go_cut [81] from 58 (fun b wx => b = .bool (!S.told.2) ∧ RowKit.Hid (FWX w o1 t k bm blk rb ob room K nilS [] nilS [] none S.told.1 wx))
  case first =>
    cases htl : S.T.tell with
    | false =>
      rw [htl] at hc32
      have HE : RowKit.Hid (S.told = (S, true)) := by show _ = _; unfold FS.told; rw [htl]; rfl
      clear htl
      go_quiet (fail)
      go_wp2
      go_meet
      rw [HE.out]
      exact ⟨rfl, HX.out.drewN _⟩
    | true =>
      rw [htl] at hc32
      have hg : (frMD (S.T.read + S.T.own.data)).Good := .md _ hsm
      have hsum : IntKind.u64.wrap ((S.T.read : Int) + S.T.own.data) = ((S.T.read + S.T.own.data : Nat) : Int) := by rw [IntWalk.u64_in _ (by omega)]; omega
      have hX1 : FWX w o1 t k bm blk rb ob room K nilS [] nilS [] none S wc.drew := HX.out.drewN 1
      have hd31 : wc.drew.cell? ⟨k, 31, none⟩ = some (.int .u64 S.T.read) := hc31
      have hd2 : wc.drew.cell? ⟨k, 2, none⟩ = some (.int .u64 S.T.own.data) := hc2
      have hd32 : wc.drew.cell? ⟨k, 32, none⟩ = some (.bool true) := hc32
      by_cases hfit : S.room < frLen (frMD (S.T.read + S.T.own.data))
      · have HC := Lib.hid (hX1.fitNo Hr.out hg rfl hfit)
        have HE : RowKit.Hid (S.told = (S, false)) := by show _ = _; unfold FS.told FS.fit; rw [htl, if_pos rfl, if_pos hfit]
        clear hX1 hfit htl hg hc31 hc2 hc32
        refine wp_region_still_tail 20 (by kernel_rfl) (by kernel_rfl) ?_
        simp only [List.take_succ_cons, List.take_zero, List.drop_succ_cons, List.drop_zero]
        repeat still_step
        refine wpStill_nil ?_
        change wpList _ _ _ _ _ wc.drew
        go_wp2_with (go_at_call 34; refine HC.out.mono ?_; rintro e w6 ⟨rfl, hX6⟩; have HX6 := Lib.hid hX6; clear hX6)
        go_meet
        rw [HE.out]
        exact ⟨rfl, HX6.out⟩
      · have HC := Lib.hid (hX1.fitYes Hht.out Hr.out hg rfl hfit)
        have HE : RowKit.Hid (S.told = ({ S with room := S.room - frLen (frMD (S.T.read + S.T.own.data)), L := S.L ++ [frMD (S.T.read + S.T.own.data)] }, true)) := by show _ = _; unfold FS.told FS.fit; rw [htl, if_pos rfl, if_neg hfit]
        clear hX1 hfit htl hg hc31 hc2 hc32
        refine wp_region_still_tail 20 (by kernel_rfl) (by kernel_rfl) ?_
        simp only [List.take_succ_cons, List.take_zero, List.drop_succ_cons, List.drop_zero]
        repeat still_step
        refine wpStill_nil ?_
        change wpList _ _ _ _ _ wc.drew
        go_wp2_with (go_at_call 34; refine HC.out.mono ?_; rintro e w6 ⟨rfl, hX6⟩; have HX6 := Lib.hid hX6; clear hX6)
        go_meet
        rw [HE.out]
        exact ⟨rfl, HX6.out⟩
  obtain ⟨rfl, hX2⟩ := hcut
  clear hc32 hc31 hc2 hf32 hsm
  go_upto_if 81 with fail
  cases htd : S.told.2 with
  | false =>
    obtain ⟨A6, n6, c6, hv6, hp6⟩ := hX2.out.outV
    have HE : RowKit.Hid (T.frames room = S.told.1) := HR0.out.trans (all_told HSI.out HP.out htd)
    have HP6 := Lib.hid hp6
    clear hp6 hX2 htd
    go_wp2
    go_ret
    rw [HE.out]
    exact HP6.out Hht.out o Ho1.out
  | true =>
    have HE : RowKit.Hid (T.frames room = (FS.phase3 S.told.1.quiet.T.ids S.told.1.quiet).1) := HR0.out.trans (all_go HSI.out HP.out htd)
    have hq := hX2.out.quiet Hht.out
    obtain ⟨hc32, _, _, hf32, _⟩ := hX2.out.tellC
    have HQ := Lib.hid hq
    clear hq htd hX2 HX
    go_upto_region 18 with fail
    generalize wc.setCell ⟨k, 32, none⟩ (.bool false) = W8 at *
    obtain ⟨P0, hP0⟩ : ∃ P0, P0 = S.told.1.quiet := ⟨_, rfl⟩
    rw [← hP0] at HE HQ
    clear hP0 HP hc32 hf32
    have HI := Lib.hid (HQ.out.idsCall HKl.out)
    have HIN := Lib.hid (fun (j id : Nat) (hj : P0.T.ids[j]? = some id) => HQ.out.idsIn hj)
    have hlI : (P0.T.ids.length : Int) ≤ 100000000 := by
      obtain ⟨ox, L, v, h1, _⟩ := HQ.out
      have e1 := ids_len P0.T
      have e2 := congrArg List.length h1.keys
      rw [List.length_map] at e2
      have := HKl.out
      omega
    generalize hI3 : P0.T.ids = I3 at *
    clear hI3 HQ
    go_upto_block 4 with (go_at_call 12; refine HI.out.mono ?_; rintro e w9 ⟨A9, c9, rfl, hX9⟩; have HX9 := Lib.hid hX9; clear hX9)
    clear HI
    go_cut [4] from 12 (fun _u wx => ∃ S, RowKit.Hid (FWX w o1 t k bm blk rb ob room K nilS [] nilS [] none S wx ∧ FS.phase3 I3 P0 = (S, true)))
    case first =>
      go_wp2
      go_loopw [89] (fun i wx => ∃ (j : Nat) (S : FS), i = .int .i64 j ∧ j ≤ I3.length ∧ RowKit.Hid (FWX w o1 t k bm blk rb ob room K (.slice A9 I3.length c9) I3 nilS [] none S wx ∧ FS.phase3 I3 P0 = FS.phase3 (I3.drop j) S)) (fun i _ => I3.length - (intOf i).toNat)
      case atStart => exact ⟨0, P0, rfl, Nat.zero_le _, HX9.out, rfl⟩
      case round =>
        obtain ⟨j, S4, rfl, hj, hX⟩ := hrel
        by_cases hlt : j < I3.length
        · obtain ⟨id, hid⟩ : ∃ id, I3[j]? = some id := ⟨I3[j], List.getElem?_eq_getElem hlt⟩
          obtain ⟨hX1, hX2⟩ := hX.out
          obtain ⟨s, hs⟩ := hX1.get (HIN.out j id hid)
          obtain ⟨gi, rfl, _, hci⟩ := hX1.id hid
          obtain ⟨hk, hlk⟩ := hX1.look hs
          have Hid := Lib.hid hid; have HX1 := Lib.hid hX1; have HX2 := Lib.hid hX2
          clear hid hX1 hX2 hX hs HX9
          go_upto_block 6 with fail
          clear hci hk hlk
          obtain ⟨wo, rfl⟩ : ∃ wo : World, wo = wr := ⟨_, rfl⟩
          go_wp2
          go_loopw [14] (fun _m wx => ∃ (n : Nat) (S2 : FS), RowKit.Hid (FWX w o1 t k bm blk rb ob room K (.slice (some ⟨gi, 0, none⟩) I3.length c9) I3 nilS [] none S2 wx ∧ S2.room < n ∧ FS.pump id (S4.room + 1) S4 = FS.pump id n S2)) (fun _ wx => roomOf rb wx)
          case atStart => exact ⟨S4.room + 1, S4, HX1.out, Nat.lt_succ_self _, rfl⟩
          case round =>
            obtain ⟨n, S2, hY⟩ := hrel
            obtain ⟨hY1, hn, hY2⟩ := hY.out
            obtain ⟨n, rfl⟩ : ∃ n', n = n' + 1 := ⟨n - 1, by omega⟩
            obtain ⟨s2, hs2⟩ := hY1.get (HIN.out j id Hid.out)
            obtain ⟨hrs, hoc⟩ := hY1.outC hs2
            have HY1 := Lib.hid hY1; have HY2 := Lib.hid hY2; have Hs2 := Lib.hid hs2; have Hn := Lib.hid hn
            have HST : RowKit.Hid (∀ S5, FS.pump id (S4.room + 1) S4 = (S5, true) → FS.phase3 I3 P0 = FS.phase3 (I3.drop (j + 1)) S5) := by
              show ∀ S5, _ → _
              intro S5 h5
              rw [HX2.out, phase3_step Hid.out, h5]
              rfl
            clear hY hY1 hY2 hs2 hn
            rcases hoc with ⟨ho, hoc⟩ | ⟨O, ko, ho, hOw, hoc⟩
            · have HE5 := Lib.hid (HST.out S2 (HY2.out.trans (pump_none Hs2.out ho)))
              clear ho
              go_wp2
              go_round
              case rel => exact ⟨j + 1, S2, by go_num, by omega, HY1.out, HE5.out⟩
              case measure => simp [intOf]; omega
            · have Ho := Lib.hid ho; have HOw := Lib.hid hOw
              clear ho hOw
              cases hr2 : s2.reset with
              | true =>
                rw [hr2] at hrs
                have HE5 := Lib.hid (HST.out S2 (HY2.out.trans (pump_reset Hs2.out Ho.out hr2)))
                clear hr2
                go_wp2
                go_round
                case rel => exact ⟨j + 1, S2, by go_num, by omega, HY1.out, HE5.out⟩
                case measure => simp [intOf]; omega
              | false =>
                rw [hr2] at hrs
                have Hr2 := Lib.hid hr2
                obtain ⟨hrm, hrm2⟩ := HY1.out.roomC
                have hrmI : (S2.room : Int) ≤ 1000000 := by omega
                clear hr2
                by_cases h21 : S2.room < 21
                · have HEE := Lib.hid (HY2.out.trans (pump_full Hs2.out Ho.out Hr2.out h21))
                  obtain ⟨A7, n7, c7, hv7, hp7⟩ := HY1.out.outV
                  have HP7 := Lib.hid hp7
                  have HE7 : RowKit.Hid (T.frames room = S2) := end_no HE.out HX2.out Hid.out HEE.out
                  have hI : (S2.room : Int) - 20 < 1 := by omega
                  have hI2 : ¬ (200 : Int) < (S2.room : Int) - 20 := by omega
                  clear hp7
                  go_wp2
                  go_ret
                  rw [HE7.out]
                  exact HP7.out Hht.out o Ho1.out
                · obtain ⟨many, hmany⟩ : ∃ many : Nat, many = Min.min (S2.room - 20) 200 := ⟨_, rfl⟩
                  have Hmany := Lib.hid hmany
                  have hm1 : (1 : Int) ≤ many := by omega
                  have HN := Lib.hid (HY1.out.next Hht.out Hs2.out Ho.out many (by omega) (by omega))
                  have H21 := Lib.hid h21
                  go_upto_region 24 with fail
                  have hmI : min ((S2.room : Int) - 20) 200 = (many : Int) := by omega
                  rw [hmI]
                  obtain ⟨hgood, hflen⟩ := next_good (T := S2.T) (id := id) (s := s2) (O := O) (many := many) (HY1.out.idLe Hs2.out) HOw.out (by omega)
                  have hk8 : RowKit.Hid ((S2.T.nextF id s2 O many).1.1.kind = 8) := rfl
                  have hfit : RowKit.Hid (¬ S2.room < frLen (S2.T.nextF id s2 O many).1.1) := by show ¬ _; omega
                  have Hgood := Lib.hid hgood
                  have hpos := Lib.hid hgood.pos
                  have HEs := fun hk => (HY2.out.trans (pump_step Hs2.out Ho.out Hr2.out H21.out Hmany.out hk hfit.out))
                  have HEe := fun hk => (HST.out _ (HY2.out.trans (pump_end Hs2.out Ho.out Hr2.out H21.out Hmany.out hk)))
                  have HEs := Lib.hid HEs; have HEe := Lib.hid HEe
                  clear hgood hflen hmI hmany h21
                  generalize hfr : (S2.T.nextF id s2 O many) = fr at *
                  clear hfr
                  obtain ⟨⟨f, okb⟩, T5⟩ := fr
                  simp only at HN hk8 hfit Hgood hpos HEs HEe
                  go_upto_region 26 with fail
                  clear hm1
                  have hall : RowKit.Hid (∀ dv : Value, dv.oneCell' = true → (f.cells dv nilS).all (·.oneCell') = true) := fun dv h => frOne' f h
                  have Hsz : RowKit.Hid (∀ dv : Value, (Tryz.prog.info? 52).map (·.size) = some (f.cells dv nilS).toList.length) := fun dv => infoFR
                  have hth : RowKit.Hid (∀ X : World, (X.alloc (.cells #[.int .i64 0, .int .u64 0, .int .u64 0, .int .u64 0, .int .u64 0, .bool false, .slice none 0 0, .slice none 0 0, .int .u8 0, .int .u8 0, .int .u8 0, .int .u8 0, .int .u8 0, .int .u8 0, .int .u8 0, .int .u8 0, .int .u8 0, .int .u8 0, .int .u8 0, .int .u8 0, .int .u8 0, .int .u8 0, .int .u8 0, .int .u8 0] 52)).there X.heap.size 0 24) := fun X => there_of (newFr X (fun _ => [])).1
                  clear hrm hrs hoc
                  go_upto_region 27 with (first
                    | (go_at_call 37; refine HN.out.mono ?_; rintro e wn ⟨dv, rfl, hdv1, hXn⟩; have HXn := Lib.hid hXn; have hdv := Lib.hid hdv1; clear hXn hdv1)
                    | ((with_reducible (show wpList _ _ _ ({ dst := none, op := Op.store 52 (.tmp 15) (.tmp 123), type := _, pos := _, after := _, guard := none } :: _) _ _)); refine wpList_store_mid (P := Tryz.prog) rfl 52 (.tmp 15) (.tmp 123) rfl wn.heap.size 0 (f.cells dv nilS) rfl rfl (hth.out wn) infoFR (hall.out dv hdv.out) ?_))
                  have HXb := Lib.hid (HXn.out.boxSet (frZ.cells nilS nilS) (f.cells dv nilS) rfl)
                  change Code.wp _ _ _ _ ((wn.alloc (.cells (frZ.cells nilS nilS) 52)).setCells wn.heap.size 0 (f.cells dv nilS).toList)
                  generalize ((wn.alloc (.cells (frZ.cells nilS nilS) 52)).setCells wn.heap.size 0 (f.cells dv nilS).toList) = W10 at *
                  generalize wn.heap.size = nb at *
                  have hrg := Lib.hid HXb.out.range
                  have HSZ : RowKit.Hid ((Tryz.prog.info? 52).map (·.size) = some (f.cells dv nilS).toList.length) := Hsz.out dv
                  clear hth hall Hsz HXn hdv HN
                  cases okb with
                  | false =>
                    have HE8 := Lib.hid (HEe.out rfl)
                    have HX8 := Lib.hid HXb.out.fwx
                    clear HEe HEs hfit hpos Hgood hk8 hrg HSZ HXb
                    go_wp2
                    go_round
                    case rel => exact ⟨j + 1, { S2 with T := T5 }, by go_num, by omega, HX8.out, HE8.out⟩
                    case measure => simp [intOf]; omega
                  | true =>
                    have HE8 := Lib.hid (HEs.out rfl)
                    have HC := Lib.hid (HXb.out.fitYes Hht.out Hr.out Hgood.out hk8.out hfit.out)
                    clear HEe HEs HXb
                    go_wp2_with (first
                      | ((with_reducible (show wpList _ _ _ ({ dst := _, op := Op.load 52 (.tmp 15), type := _, pos := _, after := _, guard := none } :: _) _ _)); refine wpList_load_mid (P := Tryz.prog) rfl 52 (.tmp 15) rfl nb 0 rfl (f.cells dv nilS).toList _ hrg.out Tryz.underlying52 rfl HSZ.out ?_; simp only [Array.toArray_toList])
                      | (go_at_call 34; refine HC.out.mono ?_; rintro e w11 ⟨rfl, hX11⟩; have HX11 := Lib.hid hX11; clear hX11))
                    go_round
                    case rel => exact ⟨n, _, HX11.out, by have h1 := Hn.out; have h2 := hpos.out; have h3 := hfit.out; show S2.room - frLen f < n; omega, HE8.out⟩
                    case measure =>
                      have e1 := HX11.out.roomOf
                      have e2 := HY1.out.roomOf
                      have h2 := hpos.out; have h3 := hfit.out
                      simp only at e1
                      show roomOf rb w11 < roomOf rb wr
                      rw [e1, e2]
                      omega
        · have HX2 : RowKit.Hid (FS.phase3 I3 P0 = (S4, true)) := by
            have h2 := hX.out.2
            rw [List.drop_eq_nil_of_le (by omega)] at h2
            exact h2
          go_wp2
          go_meet
          obtain ⟨ox, L, v, h1, h2, h3, h4⟩ := hX.out.1
          exact ⟨S4, ⟨ox, L, v, h1, Row.nil _ _ _ _, h3, h4⟩, HX2.out⟩
    obtain ⟨S6, hS6⟩ := hcut
    obtain ⟨A6, n6, c6, hv6, hp6⟩ := hS6.out.1.outV
    have HE6 : RowKit.Hid (T.frames room = S6) := by show _ = _; rw [HE.out, hS6.out.2]
    have HP6 := Lib.hid hp6
    clear hp6 hS6 HX9
    go_wp2
    go_ret
    rw [HE6.out]
    exact HP6.out Hht.out o Ho1.out
end Go.Proofs.YthliihmhkhabeaaGreatDoor
/- The document's example, as plain functions. No condition. -/
namespace Go.Proofs.YthliihmhkhabeaaGreatDoor
open Go Go.RowKit

theorem sortN_of {l l' : List Nat} (h1 : l'.Pairwise (· ≤ ·)) (h2 : l.Perm l') : sortN l = l' :=
  List.Perm.eq_of_pairwise (fun _a _b _ _ h1 h2 => Nat.le_antisymm h1 h2) (sortN_pw l) h1 ((sortN_p l).trans h2)
theorem frames_eval {T : Tb} {room : Nat} {I I2 : List Nat} {S1 S2 R : FS} {b : Bool} (hi : T.ids = I) (h1 : FS.phase1 I ⟨T, room, []⟩ = (S1, true)) (h2 : S1.told = (S2, true)) (hk : S2.quiet.T.ids = I2) (h3 : FS.phase3 I2 S2.quiet = (R, b)) : T.frames room = R := by
  unfold Tb.frames FS.all
  rw [hi, h1]
  simp only [if_true, FS.phase2, h2, hk, h3]

def ownP : Par := ⟨300, 600, 300, 8, false, fun _ => 0⟩
def hello : List Nat := [104, 101, 108, 108, 111]
def fr1 : Fr := frStream 0 0 hello false
def al0 : Tb := Tb.new true ownP
def bl0 : Tb := Tb.new false ownP
def al1 : Tb := al0.peer ownP
def al2 : Tb := (al1.open_ false).2
def al3 : Tb := (al2.open_ false).2
def al4 : Tb := (al3.open_ true).2
def al5 : Tb := (al4.write 0 hello).2
def stA (out : Option Out) (inn : Option In) (given : Nat) : St := { out := out, inn := inn, max := 300, given := given, reset := false, over := false, code := 0, in2 := 0, stop := 0, finished := false, done := false, tell := [], stopped := false, taken := 0 }
def al6 : Tb := { al5 with m := [(0, stA (some ⟨hello, [1, 1, 1, 1, 1], false, 0, 5⟩) (some (In.new 300)) 5), (4, stA (some ⟨[], [], false, 0, 0⟩) (some (In.new 300)) 0), (2, stA (some ⟨[], [], false, 0, 0⟩) none 0)] }
theorem al_a : (al0.open_ false).1 = (0, 5) := rfl
theorem al_b : (al1.open_ false).1 = (0, 0) := rfl
theorem al_c : (al2.open_ false).1 = (4, 0) := rfl
theorem al_d : (al3.open_ true).1 = (2, 0) := rfl
theorem al_e : (al4.write 0 hello).1 = (5, 0) := rfl
theorem al_f : al5.frames 100 = ⟨al6, 92, [fr1]⟩ := frames_eval (I := [0, 2, 4]) (I2 := [0, 2, 4]) (S1 := ⟨al5, 100, []⟩) (S2 := ⟨al5, 100, []⟩) (b := true) (sortN_of (by decide) (by decide)) rfl rfl (sortN_of (by decide) (by decide)) rfl
def bl1 : Tb := (bl0.take fr1).2
def bl2 : Tb := (bl1.readS 0 9).2
def al7 : Tb := al6.acked fr1
def fr2 : Fr := frMsd 0 305
def fr3 : Fr := frMD 605
theorem al_g : (bl0.take fr1).1 = 0 := rfl
theorem al_h : (bl1.readS 0 9).1 = (hello, false, 0) := rfl
def bl3 : Tb := { bl2 with tell := false, m := [(0, { stA (some ⟨[], [], false, 0, 0⟩) (some ⟨300, 5, 5, 0, false, []⟩) 0 with max := 0, taken := 5, tell := [(17, false)] })] }
theorem al_i : bl2.frames 100 = ⟨bl3, 93, [fr2, fr3]⟩ := frames_eval (I := [0]) (I2 := [0]) (S1 := ⟨{ bl2 with m := bl3.m }, 96, [fr2]⟩) (S2 := ⟨{ bl2 with m := bl3.m }, 93, [fr2, fr3]⟩) (b := true) (sortN_of (by decide) (by decide)) rfl rfl (sortN_of (by decide) (by decide)) rfl
theorem al_j : al7.acks 0 0 5 = true := rfl
theorem al_k : al7.ids.length = 3 := by rw [ids_len]; rfl
theorem al_l : bl3.held = 0 := by
  have h : bl3.ids = [0] := sortN_of (by decide) (by decide)
  unfold Tb.held
  rw [h]
  rfl
theorem al_m : (al7.reset 4 7).1 = 0 := rfl
theorem ownP_wf : ownP.Wf := ⟨by decide, by decide, by decide, by decide, fun _ => by show 0 < 256; omega⟩
theorem ownP_may : ownP.may = true := rfl
def bigP : Par := ⟨4611686018427387904, 0, 0, 0, false, fun _ => 0⟩
theorem bigP_may : bigP.may = false := rfl
theorem nice_of {T : Tb} (h1 : T.m.all (fun p => decide (p.1 ≤ 4611686018427387903) && decide (p.2.code ≤ 4611686018427387903) && decide (p.2.stop ≤ 4611686018427387903) && decide (limitO p.2.inn ≤ 4611686018427387903)) = true) (h2 : T.read + T.own.data ≤ 4611686018427387903) : T.Nice := by
  rw [List.all_eq_true] at h1
  refine ⟨fun p hp => ?_, fun p hp => ⟨?_, ?_, ?_⟩, h2⟩ <;> (have := h1 p hp; simp only [Bool.and_eq_true, decide_eq_true_eq] at this; omega)
theorem al5_nice : al5.Nice := nice_of (by decide) (by decide)
theorem bl2_nice : bl2.Nice := nice_of (by decide) (by decide)
end Go.Proofs.YthliihmhkhabeaaGreatDoor
/- A table among other things that stand in memory: what each call does to it. No condition. -/
namespace Go.Proofs.YthliihmhkhabeaaGreatDoor
open Go Go.RowKit

def tagA : Tag := [0]
def tagB : Tag := [10]
def roots : List Tag := [tagA, tagB]
theorem tagA_ne : tagA ≠ [] := by simp [tagA]
theorem tagB_ne : tagB ≠ [] := by simp [tagB]
theorem lastOff {a b : Tag} (ha : a ≠ []) (hb : b ≠ []) (h : a.getLastD 0 ≠ b.getLastD 0) {u : Tag} (hu : b <:+ u) : off [a] u := off_one.2 fun hh => h (by rw [← last_suffix ha hh, ← last_suffix hb hu])
/-- What stands, as long as only the table of that tag is turned. -/
def Stays (t : Tag) (E : World → Own → Prop) : Prop := ∀ w o w' o', Chg [t] w o w' o' → E w o → E w' o'
theorem Stays.tb {t s : Tag} (ht : t ≠ []) (hs : s ≠ []) (h : t.getLastD 0 ≠ s.getLastD 0) (k : Nat) (T : Tb) : Stays t (fun w o => TbRep w o s k T) := fun _ _ _ _ hc hT => hT.chg hc fun _ hu => lastOff ht hs h hu
theorem Stays.and {t : Tag} {E F : World → Own → Prop} (h : Stays t E) (h2 : Stays t F) : Stays t (fun w o => E w o ∧ F w o) := fun _ _ _ _ hc ⟨a, b⟩ => ⟨h _ _ _ _ hc a, h2 _ _ _ _ hc b⟩
theorem Stays.frow {t s : Tag} (ht : t ≠ []) (hs : s ≠ []) (h : t.getLastD 0 ≠ s.getLastD 0) (v : Value) (L : List (Fr × Value)) : Stays t (fun w o => FRow w o s [] v L) := fun _ _ _ _ hc hF => hF.chg hc (lastOff ht hs h (List.suffix_refl _)) (off_root ht)
theorem Stays.row {t s : Tag} (ht : t ≠ []) (hs : s ≠ []) (h : t.getLastD 0 ≠ s.getLastD 0) (e : TypeId) (v : Value) (L : List Value) : Stays t (fun w o => Row w o s e v L) := fun _ _ _ _ hc hF => hF.chg hc (lastOff ht hs h (List.suffix_refl _))
theorem Stays.sl {t : Tag} (ht : t ≠ []) (v : Value) (L : List Value) : Stays t (fun w o => Sl w o [] v L) := fun _ _ _ _ hc hF => hF.chg hc (off_root ht)
theorem Stays.true (t : Tag) : Stays t (fun _ _ => True) := fun _ _ _ _ _ _ => trivial

/-- A table, the tables of Go's library, what else stands. -/
def Sys (w : World) (t : Tag) (k : Nat) (T : Tb) (E : World → Own → Prop) (wx : World) : Prop :=
  ∃ ox, TbRep wx ox t k T ∧ GTab wx ox ∧ Chg roots w (fun _ => []) wx ox ∧ E wx ox
section
variable {w wx wy : World} {t s : Tag} {k k2 : Nat} {T T2 : Tb} {E F : World → Own → Prop}
theorem Sys.swap (h : Sys w t k T (fun w o => TbRep w o s k2 T2 ∧ E w o) wx) : Sys w s k2 T2 (fun w o => TbRep w o t k T ∧ E w o) wx := by
  obtain ⟨ox, h1, h2, h3, h4, h5⟩ := h
  exact ⟨ox, h4, h2, h3, h1, h5⟩
theorem Sys.mono (h : Sys w t k T E wx) (hEF : ∀ w o, E w o → F w o) : Sys w t k T F wx := by
  obtain ⟨ox, h1, h2, h3, h4⟩ := h
  exact ⟨ox, h1, h2, h3, hEF _ _ h4⟩
theorem root_mono {t : Tag} (ht : t ∈ roots) {a b : World} {o o' : Own} (h : Chg [t] a o b o') : Chg roots a o b o' := h.mono fun _u hu => off_one.2 fun hh => hu t ht hh
theorem root_ne {t : Tag} (ht : t ∈ roots) : t ≠ [] := by
  simp only [roots, List.mem_cons, List.not_mem_nil, or_false] at ht
  rcases ht with rfl | rfl
  · exact tagA_ne
  · exact tagB_ne
theorem Sys.turn (ht : t ∈ roots) {ox oy : Own} (h2 : GTab wx ox) (h3 : Chg roots w (fun _ => []) wx ox) (h4 : E wx ox) (hE : Stays t E) (hT : TbRep wy oy t k T) (hc : Chg [t] wx ox wy oy) : Sys w t k T E wy :=
  ⟨oy, hT, h2.chg hc (off_root (root_ne ht)), h3.trans (root_mono ht hc), hE _ _ _ _ hc h4⟩
/-- Nothing was turned. -/
theorem Sys.nil (h : Sys w t k T E wx) (hE : Stays t E) (ht : t ∈ roots) (hc : ∀ ox, ∃ oy, Chg [] wx ox wy oy) : Sys w t k T E wy := by
  obtain ⟨ox, h1, h2, h3, h4⟩ := h
  obtain ⟨oy, hc⟩ := hc ox
  exact Sys.turn ht h2 h3 h4 hE (h1.chg hc fun _ _ => off_nil _) hc.of_nil
theorem Sys.below (h : Sys w t k T E wx) : Below w.heap.size w wx := by
  obtain ⟨ox, h1, h2, h3, h4⟩ := h
  refine h3.below fun k _ => ?_
  intro r hr
  simp only [roots, List.mem_cons, List.not_mem_nil, or_false] at hr
  rcases hr with rfl | rfl <;> simp [tagA, tagB]
theorem Sys.open_ (ht : t ∈ roots) (hE : Stays t E) (h : Sys w t k T E wx) (one : Bool) :
    Calls Tryz.prog 11 #[.pointer (some ⟨k, 0, none⟩), .bool one] wx fun e w' => e = .returned (.tuple #[.int .u64 (T.open_ one).1.1, .int .i64 (T.open_ one).1.2]) ∧ Sys w t k (T.open_ one).2 E w' := by
  obtain ⟨ox, h1, h2, h3, h4⟩ := h
  refine (Open_ok h1 one).mono ?_
  rintro e w' ⟨oy, rfl, hT, hc⟩
  exact ⟨rfl, Sys.turn ht h2 h3 h4 hE hT hc⟩
theorem Sys.peer (ht : t ∈ roots) (hE : Stays t E) (h : Sys w t k T E wx) (p : Par) (hp : p.Wf) :
    Calls Tryz.prog 10 #[.pointer (some ⟨k, 0, none⟩), p.val] wx fun e w' => e = .returned (.tuple #[]) ∧ Sys w t k (T.peer p) E w' := by
  obtain ⟨ox, h1, h2, h3, h4⟩ := h
  refine (Peer_ok (root_ne ht) h1 p hp).mono ?_
  rintro e w' ⟨oy, rfl, hT, hc⟩
  exact ⟨rfl, Sys.turn ht h2 h3 h4 hE hT hc⟩
theorem Sys.write (ht : t ∈ roots) (hE : Stays t E) (h : Sys w t k T E wx) (id : Nat) {v : Value} {d : List Nat} (hd : ∀ ox, E wx ox → ∃ s, Sl wx ox s v (d.map bv)) (hd8 : ∀ x ∈ d, x < 256) :
    Calls Tryz.prog 14 #[.pointer (some ⟨k, 0, none⟩), .int .u64 id, v] wx fun e w' => e = .returned (.tuple #[.int .i64 (T.write id d).1.1, .int .i64 (T.write id d).1.2]) ∧ Sys w t k (T.write id d).2 E w' := by
  obtain ⟨ox, h1, h2, h3, h4⟩ := h
  obtain ⟨s, hd⟩ := hd ox h4
  refine (TWrite_ok h1 id hd hd8).mono ?_
  rintro e w' ⟨oy, rfl, hT, hc⟩
  exact ⟨rfl, Sys.turn ht h2 h3 h4 hE hT hc⟩
theorem Sys.finish (ht : t ∈ roots) (hE : Stays t E) (h : Sys w t k T E wx) (id : Nat) :
    Calls Tryz.prog 22 #[.pointer (some ⟨k, 0, none⟩), .int .u64 id] wx fun e w' => e = .returned (.int .i64 (T.finish id).1) ∧ Sys w t k (T.finish id).2 E w' := by
  obtain ⟨ox, h1, h2, h3, h4⟩ := h
  refine (TFinish_ok h1 id).mono ?_
  rintro e w' ⟨oy, rfl, hT, hc⟩
  exact ⟨rfl, Sys.turn ht h2 h3 h4 hE hT hc⟩
theorem Sys.reset (ht : t ∈ roots) (hE : Stays t E) (h : Sys w t k T E wx) (id code : Nat) (hcode : code < 18446744073709551616) :
    Calls Tryz.prog 18 #[.pointer (some ⟨k, 0, none⟩), .int .u64 id, .int .u64 code] wx fun e w' => e = .returned (.int .i64 (T.reset id code).1) ∧ Sys w t k (T.reset id code).2 E w' := by
  obtain ⟨ox, h1, h2, h3, h4⟩ := h
  refine (TReset_ok h1 id code hcode).mono ?_
  rintro e w' ⟨oy, rfl, hT, hc⟩
  exact ⟨rfl, Sys.turn ht h2 h3 h4 hE hT hc⟩
/-- The bytes that were read lie in a row of their own. -/
def readTag : Tag := [0, 20]
theorem Sys.read (ht : t ∈ roots) (hE : Stays t E) (h : Sys w t k T E wx) (id : Nat) (n : Int) :
    Calls Tryz.prog 20 #[.pointer (some ⟨k, 0, none⟩), .int .u64 id, .int .i64 n] wx fun e w' => ∃ A c, e = .returned (.tuple #[.slice A (T.readS id n).1.1.length c, .bool (T.readS id n).1.2.1, .int .i64 (T.readS id n).1.2.2]) ∧
      Sys w t k (T.readS id n).2 (fun w o => E w o ∧ Row w o readTag 5 (.slice A (T.readS id n).1.1.length c) ((T.readS id n).1.1.map bv)) w' := by
  obtain ⟨ox, h1, h2, h3, h4⟩ := h
  have hl : t.getLastD 0 ≠ 20 := by
    simp only [roots, List.mem_cons, List.not_mem_nil, or_false] at ht
    rcases ht with rfl | rfl <;> simp [tagA, tagB]
  refine (TRead_ok (s' := [20]) h1 (lastOff (root_ne ht) (b := [20]) (by simp) (by simpa using hl) (by simp)) (fun q hq => lastOff (by simp) (root_ne ht) (by simpa using hl.symm) hq) id n).mono ?_
  rintro e w' ⟨v, oy, rfl, hr, hT, hc⟩
  obtain ⟨A, c, rfl, _⟩ := hr.sl
  rw [List.length_map] at hr ⊢
  exact ⟨A, c, rfl, oy, hT, h2.chg hc (off_root (root_ne ht)), h3.trans (root_mono ht hc), hE _ _ _ _ hc h4, hr⟩
theorem Sys.code (h : Sys w t k T E wx) (id : Nat) : Calls Tryz.prog 19 #[.pointer (some ⟨k, 0, none⟩), .int .u64 id] wx fun e w' => e = .returned (.tuple #[.int .u64 (T.codeOf id).1, .bool (T.codeOf id).2]) ∧ wx = w' := by
  obtain ⟨ox, h1, h2, h3, h4⟩ := h
  exact TCode_ok h1 id
theorem Sys.acks (h : Sys w t k T E wx) (id off n : Nat) (hoff : off < 18446744073709551616) (hn : n ≤ 1000000000000) :
    Calls Tryz.prog 26 #[.pointer (some ⟨k, 0, none⟩), .int .u64 id, .int .u64 off, .int .i64 n] wx fun e w' => e = .returned (.bool (T.acks id off n)) ∧ wx = w' := by
  obtain ⟨ox, h1, h2, h3, h4⟩ := h
  exact TAcks_ok h1 id off n hoff hn
theorem Sys.held (ht : t ∈ roots) (hE : Stays t E) (h : Sys w t k T E wx) (hl : T.m.length ≤ 100000000) : Calls Tryz.prog 21 #[.pointer (some ⟨k, 0, none⟩)] wx fun e w' => e = .returned (.int .i64 (T.held : Nat)) ∧ Sys w t k T E w' := by
  obtain ⟨ox, h1, h2, h3, h4⟩ := h
  refine (THeld_ok h1 hl).mono ?_
  rintro e w' ⟨rfl, oy, hc⟩
  exact ⟨rfl, Sys.turn ht h2 h3 h4 hE (h1.chg hc fun _ _ => off_nil _) hc.of_nil⟩
theorem Sys.ids (ht : t ∈ roots) (hE : Stays t E) (h : Sys w t k T E wx) (hl : T.m.length ≤ 100000000) :
    Calls Tryz.prog 12 #[.pointer (some ⟨k, 0, none⟩)] wx fun e w' => ∃ A c, e = .returned (.slice A T.ids.length c) ∧ Sys w t k T E w' := by
  obtain ⟨ox, h1, h2, h3, h4⟩ := h
  refine (Ids_ok [] h1 hl).mono ?_
  rintro e w' ⟨v, oy, rfl, hr, hc⟩
  obtain ⟨A, c, rfl, _⟩ := hr.sl
  rw [List.length_map]
  exact ⟨A, c, rfl, Sys.turn ht h2 h3 h4 hE (h1.chg hc fun _ _ => off_nil _) hc.of_nil⟩
theorem Sys.frames (ht : t ∈ roots) (hE : Stays t E) (h : Sys w t k T E wx) (hn : T.Nice) (hl : T.m.length ≤ 100000000) (room : Nat) (hr : room ≤ 1000000) :
    Calls Tryz.prog 15 #[.pointer (some ⟨k, 0, none⟩), .int .i64 room] wx fun e w' => ∃ A c L, e = .returned (.slice A (T.frames room).L.length c) ∧ L.map (·.1) = (T.frames room).L ∧
      Sys w t k (T.frames room).T (fun w o => E w o ∧ FRow w o (2 :: gtag t) [] (.slice A (T.frames room).L.length c) L) w' := by
  obtain ⟨ox, ⟨bm, blk, h1⟩, h2, h3, h4⟩ := h
  refine (TFrames_ok (root_ne ht) h2 h1 hn hl room hr).mono ?_
  rintro e w' ⟨v, L, oy, rfl, hF, hL, hT, hc⟩
  have hsh : ∃ A c, v = .slice A (T.frames room).L.length c := by
    have e1 : L.length = (T.frames room).L.length := by rw [← hL, List.length_map]
    rcases hF.form with ⟨rfl, rfl⟩ | ⟨g, cap, cur, rfl, _⟩
    · exact ⟨none, 0, by rw [← e1]; rfl⟩
    · exact ⟨_, _, by rw [← e1]⟩
  obtain ⟨A, c, rfl⟩ := hsh
  exact ⟨A, c, L, rfl, hL, oy, ⟨bm, blk, hT⟩, h2.chg hc (off_root (root_ne ht)), h3.trans (root_mono ht hc), hE _ _ _ _ hc h4, hF⟩
theorem Sys.take (ht : t ∈ roots) (hE : Stays t E) (h : Sys w t k T E wx) (f : Fr) (hf : f.Wf) {dv : Value} (hd : ∀ ox, E wx ox → Sl wx ox [] dv (f.data.map bv)) (hl : f.data.length ≤ 1000000000000) :
    Calls Tryz.prog 17 #[.pointer (some ⟨k, 0, none⟩), .agg (f.cells dv nilS)] wx fun e w' => e = .returned (.int .i64 (T.take f).1) ∧ Sys w t k (T.take f).2 E w' := by
  obtain ⟨ox, h1, h2, h3, h4⟩ := h
  refine (TTake_ok (root_ne ht) h1 f hf dv nilS (hd ox h4) (off_root (root_ne ht)) hl).mono ?_
  rintro e w' ⟨oy, rfl, hT, hc⟩
  exact ⟨rfl, Sys.turn ht h2 h3 h4 hE hT hc⟩
theorem Sys.acked (ht : t ∈ roots) (hE : Stays t E) (h : Sys w t k T E wx) (f : Fr) (hf : f.Wf) {dv : Value} (hd : ∀ ox, E wx ox → Sl wx ox [] dv (f.data.map bv)) (hl : f.data.length ≤ 1000000000000) :
    Calls Tryz.prog 24 #[.pointer (some ⟨k, 0, none⟩), .agg (f.cells dv nilS)] wx fun e w' => e = .returned (.tuple #[]) ∧ Sys w t k (T.acked f) E w' := by
  obtain ⟨ox, h1, h2, h3, h4⟩ := h
  refine (TAcked_ok (root_ne ht) h1 f hf dv nilS (hd ox h4) hl).mono ?_
  rintro e w' ⟨oy, rfl, hT, hc⟩
  exact ⟨rfl, Sys.turn ht h2 h3 h4 hE hT hc⟩
end

set_option maxHeartbeats 1000000 in
set_option maxRecDepth 100000 in
theorem Own_ok (w : World) (o : Own) : Calls Tryz.prog 9 #[] w (ValNew w o (.agg ownP.cells)) := by
  have hch := ((Chg.refl [] w o).alloc (.cells (Par.cells ⟨0, 0, 0, 0, false, fun _ => 0⟩) 29)).tag (Nat.le_refl _) []
  have hat := At.new w o [] (.cells (Par.cells ⟨0, 0, 0, 0, false, fun _ => 0⟩) 29)
  obtain ⟨W, hW⟩ : ∃ W, W = w.alloc (.cells (Par.cells ⟨0, 0, 0, 0, false, fun _ => 0⟩) 29) := ⟨_, rfl⟩
  rw [← hW] at hch hat
  have hth : W.there w.heap.size 0 21 := there_of hat
  have hall : ownP.cells.all (·.oneCell') = true := by kernel_rfl
  have HCH := Lib.hid hch; have HW := Lib.hid hW; have HAT := Lib.hid hat
  clear hch hW hat
  go_enter Tryz.func9, Tryz.ntmps9
  go_upto_region 1 with fail
  change Code.wp _ _ _ _ (w.alloc (.cells (Par.cells ⟨0, 0, 0, 0, false, fun _ => 0⟩) 29))
  rw [← HW.out]
  clear HW
  go_wp2_with (refine wpList_store_mid (P := Tryz.prog) rfl 29 (.tmp 0) (.tmp 1) rfl w.heap.size 0 ownP.cells rfl rfl hth infoPP hall ?_)
  have hrg : (W.setCells w.heap.size 0 ownP.cells.toList).rangeAt w.heap.size 0 ownP.cells.toList := World.rangeAt_setCells_same _ _ _ _ hth
  refine bodyPost_ret (results_cell1_mid rfl _ _ w.heap.size _ _ rfl hrg Tryz.underlying29 rfl infoPP) rfl ?_
  refine ⟨by rw [Array.toArray_toList], _, Chg.setCells (b := w.heap.size) ownP.cells.toList 0 _ HCH.out (.inl (Nat.le_refl _))⟩
end Go.Proofs.YthliihmhkhabeaaGreatDoor
