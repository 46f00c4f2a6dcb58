/- The closed facts of one row, one by one. -/
import Derived.Test.YtblpmmociahklaaGreatDoorRows
import Derived.ProofKit
namespace Go.Proofs.YtblpmmociahklaaGreatDoor.lifeNone
open Go
theorem k0 : ((Rows.lifeNoneRow).wf (OpenSpec.ofChange (Rows.lifeNoneSpec))) = true := by kernel_rfl
theorem k1 : (laidOutB (Tryz.prog)) = true := by kernel_rfl
theorem k2 : (mapsRowed (Tryz.prog)) = true := by kernel_rfl
theorem k3 : ((Tryz.f10).params.all ((Tryz.prog).readableRec ·)) = true := by kernel_rfl
theorem k4 : (namedTie (Tryz.prog) (Rows.lifeNoneRow).named (Rows.lifeNoneSpec).vars) = true := by kernel_rfl
theorem k5 : (((Rows.lifeNoneRow).stops == [])) = true := by kernel_rfl
theorem k6 : (((Tryz.prog).stops == [])) = true := by kernel_rfl
theorem k7 : (((Rows.lifeNoneRow).knobs == [])) = true := by kernel_rfl
theorem k8 : (((Tryz.prog).stopKnobs == [])) = true := by kernel_rfl
theorem k9 : (((Rows.lifeNoneRow).inPlace == (Tryz.prog).inPlace 10)) = true := by kernel_rfl
theorem k10 : (((Rows.lifeNoneRow).unfollowed == (Tryz.prog).unfollowed 10)) = true := by kernel_rfl
theorem k11 : (((Rows.lifeNoneRow).recurses == (Tryz.prog).recurses 10)) = true := by kernel_rfl
theorem k12 : (((Rows.lifeNoneRow).named == (Tryz.prog).varsNamed 10)) = true := by kernel_rfl
theorem k13 : (((Rows.lifeNoneRow).maps == ((Tryz.f10).params.toList ++ (Rows.lifeNoneSpec).plain.varTypes (Tryz.prog)).any ((Tryz.prog).mapsRec ·))) = true := by kernel_rfl
theorem k14 : (((Rows.lifeNoneRow).ifaces == ((Tryz.f10).params.toList ++ (Rows.lifeNoneSpec).plain.varTypes (Tryz.prog)).any ((Tryz.prog).ifacesRec ·))) = true := by kernel_rfl
theorem k15 : (((Rows.lifeNoneRow).mapsOut == (Tryz.prog).mapsAmong (Tryz.f10).resultTypes.toList)) = true := by kernel_rfl
theorem k16 : (((Rows.lifeNoneRow).loops == ((Tryz.f10).params.toList ++ (Rows.lifeNoneSpec).plain.varTypes (Tryz.prog)).any ((Tryz.prog).loopsFrom ·))) = true := by kernel_rfl
theorem k17 : (((Rows.lifeNoneRow).wideKeys == ((Tryz.f10).params.toList ++ (Rows.lifeNoneSpec).plain.varTypes (Tryz.prog) ++ (Tryz.f10).resultTypes.toList).any ((Tryz.prog).wideKeysFrom ·))) = true := by kernel_rfl
theorem k18 : ((Rows.lifeNoneSpec).vars.all ((Tryz.prog).varReadable ·)) = true := by kernel_rfl
theorem k19 : ((Tryz.f10).resultTypes.all (fun t => (Tryz.prog).readableRec t && decide (t < (Tryz.prog).types.size))) = true := by kernel_rfl
theorem k20 : (((Rows.lifeNoneRow).ifacesOut == (Tryz.f10).resultTypes.toList.any ((Tryz.prog).ifacesRec ·))) = true := by kernel_rfl
theorem k21 : (((Rows.lifeNoneRow).loopsOut == (Tryz.f10).resultTypes.toList.any ((Tryz.prog).loopsFrom ·))) = true := by kernel_rfl
theorem k22 : (((Rows.lifeNoneRow).plainKeys == (Tryz.prog).plainKeys)) = true := by kernel_rfl
theorem k23 : ((Rows.lifeNoneRow).shortTexts.isNone) = true := by kernel_rfl
theorem k24 : ((Tryz.prog).stopsHeard) = true := by kernel_rfl
theorem k25 : ((Tryz.prog).mayEnter) = true := by kernel_rfl
theorem k26 : (((Rows.lifeNoneRow).lifted == (Tryz.prog).liftsFinal)) = true := by kernel_rfl
theorem k27 : (((Tryz.prog).make == some (Rows.lifeNoneRow).make)) = true := by kernel_rfl
theorem k29 : (((Rows.lifeNoneRow).pinned == (Rows.lifeNoneRow).pinnedBy)) = true := by kernel_rfl
theorem k30 : (((Rows.lifeNoneRow).veiled == ((Tryz.f10).params.toList ++ (Rows.lifeNoneSpec).plain.varTypes (Tryz.prog) ++ (Tryz.f10).resultTypes.toList).any ((Tryz.prog).veiledRec ·))) = true := by kernel_rfl
theorem k31 : ((Rows.lifeNoneRow).veiledFits (Tryz.prog) (Tryz.f10).params.toList ((Tryz.f10).params.toList ++ (Rows.lifeNoneSpec).plain.varTypes (Tryz.prog) ++ (Tryz.f10).resultTypes.toList)) = true := by kernel_rfl
theorem closed : joinedFacts Tryz.prog 10 Tryz.f10 Rows.lifeNoneSpec Rows.lifeNoneRow = true := by
  unfold joinedFacts
  rw [k0, k1, k2, k3, k4, k5, k6, k7, k8, k9, k10, k11, k12, k13, k14, k15, k16, k17, k18, k19, k20, k21, k22, k23, k24, k25, k26, k27, k29, k30, k31]
  kernel_rfl
end Go.Proofs.YtblpmmociahklaaGreatDoor.lifeNone
