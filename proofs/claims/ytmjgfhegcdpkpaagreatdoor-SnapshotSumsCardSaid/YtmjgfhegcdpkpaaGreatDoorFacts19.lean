/- The closed facts of one row, one by one. -/
import Derived.Test.YtmjgfhegcdpkpaaGreatDoorRows
import Derived.ProofKit
namespace Go.Proofs.YtmjgfhegcdpkpaaGreatDoor.snapshotSums
open Go
theorem k0 : ((Rows.snapshotSumsRow).wf (OpenSpec.ofChange (Rows.snapshotSumsSpec))) = true := by kernel_rfl
theorem k1 : (laidOutB (Tryz.prog)) = true := by kernel_rfl
theorem k2 : (mapsRowed (Tryz.prog)) = true := by kernel_rfl
theorem k3 : ((Tryz.f5).params.all ((Tryz.prog).readableRec ·)) = true := by kernel_rfl
theorem k4 : (namedTie (Tryz.prog) (Rows.snapshotSumsRow).named (Rows.snapshotSumsSpec).vars) = true := by kernel_rfl
theorem k5 : (((Rows.snapshotSumsRow).stops == [])) = true := by kernel_rfl
theorem k6 : (((Tryz.prog).stops == [])) = true := by kernel_rfl
theorem k7 : (((Rows.snapshotSumsRow).knobs == [])) = true := by kernel_rfl
theorem k8 : (((Tryz.prog).stopKnobs == [])) = true := by kernel_rfl
theorem k9 : (((Rows.snapshotSumsRow).inPlace == (Tryz.prog).inPlace 5)) = true := by kernel_rfl
theorem k10 : (((Rows.snapshotSumsRow).unfollowed == (Tryz.prog).unfollowed 5)) = true := by kernel_rfl
theorem k11 : (((Rows.snapshotSumsRow).recurses == (Tryz.prog).recurses 5)) = true := by kernel_rfl
theorem k12 : (((Rows.snapshotSumsRow).named == (Tryz.prog).varsNamed 5)) = true := by kernel_rfl
theorem k13 : (((Rows.snapshotSumsRow).maps == ((Tryz.f5).params.toList ++ (Rows.snapshotSumsSpec).plain.varTypes (Tryz.prog)).any ((Tryz.prog).mapsRec ·))) = true := by kernel_rfl
theorem k14 : (((Rows.snapshotSumsRow).ifaces == ((Tryz.f5).params.toList ++ (Rows.snapshotSumsSpec).plain.varTypes (Tryz.prog)).any ((Tryz.prog).ifacesRec ·))) = true := by kernel_rfl
theorem k15 : (((Rows.snapshotSumsRow).mapsOut == (Tryz.prog).mapsAmong (Tryz.f5).resultTypes.toList)) = true := by kernel_rfl
theorem k16 : (((Rows.snapshotSumsRow).loops == ((Tryz.f5).params.toList ++ (Rows.snapshotSumsSpec).plain.varTypes (Tryz.prog)).any ((Tryz.prog).loopsFrom ·))) = true := by kernel_rfl
theorem k17 : (((Rows.snapshotSumsRow).wideKeys == ((Tryz.f5).params.toList ++ (Rows.snapshotSumsSpec).plain.varTypes (Tryz.prog) ++ (Tryz.f5).resultTypes.toList).any ((Tryz.prog).wideKeysFrom ·))) = true := by kernel_rfl
theorem k18 : ((Rows.snapshotSumsSpec).vars.all ((Tryz.prog).varReadable ·)) = true := by kernel_rfl
theorem k19 : ((Tryz.f5).resultTypes.all (fun t => (Tryz.prog).readableRec t && decide (t < (Tryz.prog).types.size))) = true := by kernel_rfl
theorem k20 : (((Rows.snapshotSumsRow).ifacesOut == (Tryz.f5).resultTypes.toList.any ((Tryz.prog).ifacesRec ·))) = true := by kernel_rfl
theorem k21 : (((Rows.snapshotSumsRow).loopsOut == (Tryz.f5).resultTypes.toList.any ((Tryz.prog).loopsFrom ·))) = true := by kernel_rfl
theorem k22 : (((Rows.snapshotSumsRow).plainKeys == (Tryz.prog).plainKeys)) = true := by kernel_rfl
theorem k23 : ((Rows.snapshotSumsRow).shortTexts.isNone) = true := by kernel_rfl
theorem k24 : ((Tryz.prog).stopsHeard) = true := by kernel_rfl
theorem k25 : ((Tryz.prog).mayEnter) = true := by kernel_rfl
theorem k26 : (((Rows.snapshotSumsRow).lifted == (Tryz.prog).liftsFinal)) = true := by kernel_rfl
theorem k27 : (((Tryz.prog).make == some (Rows.snapshotSumsRow).make)) = true := by kernel_rfl
theorem k29 : (((Rows.snapshotSumsRow).pinned == (Rows.snapshotSumsRow).pinnedBy)) = true := by kernel_rfl
theorem k30 : (((Rows.snapshotSumsRow).veiled == ((Tryz.f5).params.toList ++ (Rows.snapshotSumsSpec).plain.varTypes (Tryz.prog) ++ (Tryz.f5).resultTypes.toList).any ((Tryz.prog).veiledRec ·))) = true := by kernel_rfl
theorem k31 : ((Rows.snapshotSumsRow).veiledFits (Tryz.prog) (Tryz.f5).params.toList ((Tryz.f5).params.toList ++ (Rows.snapshotSumsSpec).plain.varTypes (Tryz.prog) ++ (Tryz.f5).resultTypes.toList)) = true := by kernel_rfl
theorem closed : joinedFacts Tryz.prog 5 Tryz.f5 Rows.snapshotSumsSpec Rows.snapshotSumsRow = true := by
  unfold joinedFacts
  rw [k0, k1, k2, k3, k4, k5, k6, k7, k8, k9, k10, k11, k12, k13, k14, k15, k16, k17, k18, k19, k20, k21, k22, k23, k24, k25, k26, k27, k29, k30, k31]
  kernel_rfl
end Go.Proofs.YtmjgfhegcdpkpaaGreatDoor.snapshotSums
