/- A stream that is reset is over for the peer, by its code, and nothing more of it goes out: for every input; what is read of the library is tied to its text. No condition. -/
import Derived.Test.YthliihmhkhabeaaGreatDoorRst02
import Derived.Test.YthliihmhkhabeaaGreatDoorCards
import Derived.Test.YthliihmhkhabeaaGreatDoorTie
import Derived.SevenTiedAt
namespace Go.Proofs.YthliihmhkhabeaaGreatDoor
open Go

set_option maxRecDepth 100000 in
theorem streamsResets_card : Rows.StreamsResetsCardSaid :=
  Claim7.holds_tied_plain_at .later [] [.data, .data] true _ false
    streamsResets_holds (fun _ h => by cases h) (by kernel_rfl) (fun _ h => by cases h) streamsResets_row_tie rfl ⟨rfl, rfl⟩ (by kernel_rfl) rfl
    (fun f fn hf hfn => by
      obtain rfl : f = 5 := Option.some.inj ((show Tryz.prog.funcNamed "doorward/doorwardlaw18.StreamsResets" = some 5 by kernel_rfl).symm.trans hf) |>.symm
      obtain rfl : fn = Tryz.f5 := (Option.some.inj (Tryz.func5.symm.trans hfn)).symm
      exact ⟨by kernel_rfl, fun j t ht => by
        rw [Tryz.params5] at ht
        have hm : t ∈ [26, 26, 42, 5] := by simpa using Array.mem_of_getElem? ht
        have hall : ([26, 26, 42, 5].all fun u => !Tryz.prog.wantsStandIn u) = true := by kernel_rfl
        exact (show Tryz.prog.wantsStandIn t = false by simpa using List.all_eq_true.1 hall t hm)⟩)
    (by kernel_rfl)
end Go.Proofs.YthliihmhkhabeaaGreatDoor
