/- Own streams are opened in order, those of each kind four apart, as many as the peer lets: for every input; what is read of the library is tied to its text. No condition. -/
import Derived.Test.YthliihmhkhabeaaGreatDoorIds51
import Derived.Test.YthliihmhkhabeaaGreatDoorCards
import Derived.Test.YthliihmhkhabeaaGreatDoorTie
import Derived.SevenTiedAt
namespace Go.Proofs.YthliihmhkhabeaaGreatDoor
open Go

set_option maxRecDepth 100000 in
theorem streamsIds_card : Rows.StreamsIdsCardSaid :=
  Claim7.holds_tied_plain_at .later [] [.data, .data] true _ false
    streamsIds_holds (fun _ h => by cases h) (by kernel_rfl) (fun _ h => by cases h) streamsIds_row_tie rfl ⟨rfl, rfl⟩ (by kernel_rfl) rfl
    (fun f fn hf hfn => by
      obtain rfl : f = 3 := Option.some.inj ((show Tryz.prog.funcNamed "doorward/doorwardlaw18.StreamsIds" = some 3 by kernel_rfl).symm.trans hf) |>.symm
      obtain rfl : fn = Tryz.f3 := (Option.some.inj (Tryz.func3.symm.trans hfn)).symm
      exact ⟨by kernel_rfl, fun j t ht => by
        rw [Tryz.params3] at ht
        have hm : t ∈ [4, 22] := by simpa using Array.mem_of_getElem? ht
        have hall : ([4, 22].all fun u => !Tryz.prog.wantsStandIn u) = true := by kernel_rfl
        exact (show Tryz.prog.wantsStandIn t = false by simpa using List.all_eq_true.1 hall t hm)⟩)
    (by kernel_rfl)
end Go.Proofs.YthliihmhkhabeaaGreatDoor
