/- The law clevislaw08.BoundMoves holds of the given program: for every input it returns true. -/
import Derived.Test.YtflkcceicgaipaaRows
import Derived.Test.YtflkcceicgaipaaPureMoves
import Derived.JoinedOf
import Derived.Handed
set_option maxRecDepth 100000
namespace Go.Proofs.Ytflkcceicgaipaa.boundMoves
open Go Go.Eng Go.RowKit
theorem own : ownKnob Try.prog.godebug = none := by kernel_rfl
theorem lifted (os : Os) (started : os.Started) (H : Type) (enc : TypeId × Value → H) :
    ReturnsInHanded {} Try.checked os 9 .any (Rows.boundMovesSpec.pre6 enc Try.prog Try.f9 Rows.boundMovesRow.domain false) (Rows.boundMovesSpec.post enc Try.prog Try.f9 false true false false) := by
  refine returnsInHanded_of_change_sized (C := Try.checked) own started (by kernel_rfl) Try.func9
    (ChangeSpec.witness6 (enc := enc) (C := Try.checked) false ⟨#[], #[.agg #[.int .u64 0, .int .u64 0, .int .i64 0, .int .i64 0, .int .u64 0, .int .u64 0], .agg #[.int .u64 0, .int .u64 0, .int .i64 0, .int .i64 0, .int .u64 0, .int .u64 0]], []⟩ 12 (by kernel_rfl) (by kernel_rfl) (by kernel_rfl) (by kernel_rfl)) ?_
  intro W base args ds gs before hval hW _ _ _
  exact law_contract (P := Try.prog) (fn := Try.f9) (s := Rows.boundMovesSpec) (ps := ps_clevislaw08BoundMoves) (rt := 4) (n := 20) (by kernel_rfl) (by kernel_rfl) Try.underlying4 (by kernel_rfl) (by kernel_rfl) rfl
    (fun H ds h => by
      match ds, h with
      | [_, _], _ => rfl) (fun x hw => boundMoves_law x hw) W base args ds gs before hval hW
theorem over : Rows.boundMovesRow.holds Try.pinned (OpenSpec.ofChange Rows.boundMovesSpec) :=
  OpenClaim.holds_of_wide 9 Try.f9 rfl rfl rfl rfl rfl rfl rfl ⟨rfl, rfl, rfl, rfl, rfl⟩ rfl rfl rfl rfl rfl (by kernel_rfl) Try.func9 (by kernel_rfl)
    (of_decide_eq_true (by kernel_rfl)) (by unfold Func.isWrapper; first | (rw [if_pos (by decide +kernel)]; kernel_rfl) | (rw [if_neg (by decide +kernel)]; exact ⟨rfl, rfl⟩))
    (fun os started H enc _ => lifted os started H enc)
end Go.Proofs.Ytflkcceicgaipaa.boundMoves
namespace Go.Proofs.Ytflkcceicgaipaa
theorem boundMoves_holds : Rows.BoundMovesSaid := boundMoves.over
#print axioms boundMoves_holds
end Go.Proofs.Ytflkcceicgaipaa
