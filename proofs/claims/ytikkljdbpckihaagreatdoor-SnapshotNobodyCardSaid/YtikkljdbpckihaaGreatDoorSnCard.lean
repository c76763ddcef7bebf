/- The law SnapshotNobody, as its card says it: for every start in which the listed tables hold what the program's own text lays in them, the call returns true; conditions: those of the given card. -/
import Derived.Test.YtikkljdbpckihaaGreatDoorSnRow
import Derived.Test.YtikkljdbpckihaaGreatDoorSnTie
import Derived.Test.YtikkljdbpckihaaGreatDoorSnCardF
import Derived.Test.YtikkljdbpckihaaGreatDoorCards
import Derived.SevenTiedAt
namespace Go.Proofs.YtikkljdbpckihaaGreatDoor
open Go

theorem snapshotNobody_card : Rows.SnapshotNobodyCardSaid :=
  Claim7.holds_tied_plain_at .later [] [.data, .data, .data, .data, .data, .data, .listed, .pinned, .data] true (true, "d48897b65fbe90d87f99a96a38328a6ef5eb68ae4b035e69ac03e2763e9a2b77") true
    snapshotNobody_holds (fun _ h => by cases h) cf1 (fun _ h => by cases h) row_tie rfl ⟨rfl, rfl⟩ cf2 rfl
    (fun f fn hf hfn => by
      obtain rfl : f = 3 := Option.some.inj (cf5.symm.trans hf) |>.symm
      obtain rfl : fn = Tryz.f3 := (Option.some.inj (Tryz.func3.symm.trans hfn)).symm
      exact ⟨cf3, fun j t ht => by
        rw [params3] at ht
        simp at ht⟩)
    cf4
#print axioms snapshotNobody_card
end Go.Proofs.YtikkljdbpckihaaGreatDoor
