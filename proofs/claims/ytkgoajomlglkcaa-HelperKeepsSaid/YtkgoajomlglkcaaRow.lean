/- The law clevislaw05.HelperKeeps holds of the given program: for every input it returns true. -/
import Derived.Test.YtkgoajomlglkcaaRows
import Derived.Test.YtkgoajomlglkcaaLawO
import Derived.JoinedOf
import Derived.Handed
set_option maxRecDepth 100000
namespace Go.Proofs.Ytkgoajomlglkcaa.helperKeeps
open Go Go.Eng Go.RowKit
theorem own : ownKnob Try.prog.godebug = none := by kernel_rfl
theorem lifted (os : Os) (started : os.Started) (H : Type) (enc : TypeId × Value → H) :
    ReturnsInHanded {} Try.checked os 6 .any (Rows.helperKeepsSpec.pre6 enc Try.prog Try.f6 Rows.helperKeepsRow.domain false) (Rows.helperKeepsSpec.post enc Try.prog Try.f6 false true false false) := by
  refine returnsInHanded_of_change_sized (C := Try.checked) own started (by kernel_rfl) Try.func6
    (ChangeSpec.witness6 (enc := enc) (C := Try.checked) false ⟨#[], #[.agg #[.int .i64 0, .bool false, .slice none 0 0], .slice none 0 0, .int .i64 0, .slice none 0 0, .slice none 0 0, .int .u64 0], []⟩ 12 (by kernel_rfl) (by kernel_rfl) (by kernel_rfl) (by kernel_rfl)) ?_
  intro W base args ds gs before hval hW _ hz _
  exact law_contract (P := Try.prog) (fn := Try.f6) (s := Rows.helperKeepsSpec) (ps := ps_clevislaw05HelperKeeps) (rt := 4) (n := 20) (by kernel_rfl) (by kernel_rfl) Try.underlying4 (by kernel_rfl) (by kernel_rfl) rfl
    (fun H ds h => by
      match ds, h with
      | [_, _, _, _, _, _], _ => rfl) (fun x hw hz => HelperKeeps_law x hw hz) W base args ds gs before hval hW hz
theorem over : Rows.helperKeepsRow.holds Try.pinned (OpenSpec.ofChange Rows.helperKeepsSpec) :=
  OpenClaim.holds_of_wide 6 Try.f6 rfl rfl rfl rfl rfl rfl rfl ⟨rfl, rfl, rfl, rfl, rfl⟩ rfl rfl rfl rfl rfl (by kernel_rfl) Try.func6 (by kernel_rfl)
    (of_decide_eq_true (by kernel_rfl)) (by unfold Func.isWrapper; first | (rw [if_pos (by decide +kernel)]; kernel_rfl) | (rw [if_neg (by decide +kernel)]; exact ⟨rfl, rfl⟩))
    (fun os started H enc _ => lifted os started H enc)
end Go.Proofs.Ytkgoajomlglkcaa.helperKeeps
namespace Go.Proofs.Ytkgoajomlglkcaa
theorem helperKeeps_holds : Rows.HelperKeepsSaid := helperKeeps.over
#print axioms helperKeeps_holds
end Go.Proofs.Ytkgoajomlglkcaa
