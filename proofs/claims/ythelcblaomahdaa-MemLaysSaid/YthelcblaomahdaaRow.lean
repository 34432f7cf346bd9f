/- The law clevislaw02.MemLays holds of the given program: for every input it returns true. -/
import Derived.Test.YthelcblaomahdaaRows
import Derived.Test.YthelcblaomahdaaLaws
import Derived.JoinedOf
import Derived.Handed
set_option maxRecDepth 100000
namespace Go.Proofs.Ythelcblaomahdaa.memLays
open Go Go.Eng Go.RowKit
theorem own : ownKnob Try.prog.godebug = none := by kernel_rfl
theorem lifted (os : Os) (started : os.Started) (H : Type) (enc : TypeId × Value → H) :
    ReturnsInHanded {} Try.checked os 4 .any (Rows.memLaysSpec.pre6 enc Try.prog Try.f4 Rows.memLaysRow.domain false) (Rows.memLaysSpec.post enc Try.prog Try.f4 false true false false) := by
  refine returnsInHanded_of_change_sized (C := Try.checked) own started (by kernel_rfl) Try.func4
    (ChangeSpec.witness6 (enc := enc) (C := Try.checked) false ⟨#[], #[.agg #[.int .i64 0, .bool false, .slice none 0 0], .slice none 0 0, .int .u64 0, .int .i64 0], []⟩ 12 (by kernel_rfl) (by kernel_rfl) (by kernel_rfl) (by kernel_rfl)) ?_
  intro W base args ds gs before hval hW _ hz _
  exact law_contract (P := Try.prog) (fn := Try.f4) (s := Rows.memLaysSpec) (ps := ps_clevislaw02MemLays) (rt := 4) (n := 20) (by kernel_rfl) (by kernel_rfl) Try.underlying4 (by kernel_rfl) (by kernel_rfl) rfl
    (fun H ds h => by
      match ds, h with
      | [_, _, _, _], _ => rfl) (fun x hw hz => MemLays_law x hw hz) W base args ds gs before hval hW hz
theorem over : Rows.memLaysRow.holds Try.pinned (OpenSpec.ofChange Rows.memLaysSpec) :=
  OpenClaim.holds_of_wide 4 Try.f4 rfl rfl rfl rfl rfl rfl rfl ⟨rfl, rfl, rfl, rfl, rfl⟩ rfl rfl rfl rfl rfl (by kernel_rfl) Try.func4 (by kernel_rfl)
    (of_decide_eq_true (by kernel_rfl)) (by unfold Func.isWrapper; first | (rw [if_pos (by decide +kernel)]; kernel_rfl) | (rw [if_neg (by decide +kernel)]; exact ⟨rfl, rfl⟩))
    (fun os started H enc _ => lifted os started H enc)
end Go.Proofs.Ythelcblaomahdaa.memLays
namespace Go.Proofs.Ythelcblaomahdaa
theorem memLays_holds : Rows.MemLaysSaid := memLays.over
#print axioms memLays_holds
end Go.Proofs.Ythelcblaomahdaa
