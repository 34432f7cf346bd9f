/- The law clevislaw05.HelperMixes holds of the given program: for every input it returns true. -/
import Derived.Test.YtkgoajomlglkcaaRows
import Derived.Test.YtkgoajomlglkcaaLawM
import Derived.JoinedOf
import Derived.Handed
set_option maxRecDepth 100000
namespace Go.Proofs.Ytkgoajomlglkcaa.helperMixes
open Go Go.Eng Go.RowKit
theorem own : ownKnob Try.prog.godebug = none := by kernel_rfl
theorem lifted (os : Os) (started : os.Started) (H : Type) (enc : TypeId × Value → H) :
    ReturnsInHanded {} Try.checked os 3 .any (Rows.helperMixesSpec.pre6 enc Try.prog Try.f3 Rows.helperMixesRow.domain false) (Rows.helperMixesSpec.post enc Try.prog Try.f3 false true false false) := by
  refine returnsInHanded_of_change_sized (C := Try.checked) own started (by kernel_rfl) Try.func3
    (ChangeSpec.witness6 (enc := enc) (C := Try.checked) false ⟨#[], #[.int .u64 0, .int .u64 0, .int .u64 0, .int .u64 0], []⟩ 12 (by kernel_rfl) (by kernel_rfl) (by kernel_rfl) (by kernel_rfl)) ?_
  intro W base args ds gs before hval hW _ hz _
  exact law_contract (P := Try.prog) (fn := Try.f3) (s := Rows.helperMixesSpec) (ps := ps_clevislaw05HelperMixes) (rt := 4) (n := 20) (by kernel_rfl) (by kernel_rfl) Try.underlying4 (by kernel_rfl) (by kernel_rfl) rfl
    (fun H ds h => by
      match ds, h with
      | [_, _, _, _], _ => rfl) (fun x hw hz => HelperMixes_law x hw hz) W base args ds gs before hval hW hz
theorem over : Rows.helperMixesRow.holds Try.pinned (OpenSpec.ofChange Rows.helperMixesSpec) :=
  OpenClaim.holds_of_wide 3 Try.f3 rfl rfl rfl rfl rfl rfl rfl ⟨rfl, rfl, rfl, rfl, rfl⟩ rfl rfl rfl rfl rfl (by kernel_rfl) Try.func3 (by kernel_rfl)
    (of_decide_eq_true (by kernel_rfl)) (by unfold Func.isWrapper; first | (rw [if_pos (by decide +kernel)]; kernel_rfl) | (rw [if_neg (by decide +kernel)]; exact ⟨rfl, rfl⟩))
    (fun os started H enc _ => lifted os started H enc)
end Go.Proofs.Ytkgoajomlglkcaa.helperMixes
namespace Go.Proofs.Ytkgoajomlglkcaa
theorem helperMixes_holds : Rows.HelperMixesSaid := helperMixes.over
#print axioms helperMixes_holds
end Go.Proofs.Ytkgoajomlglkcaa
