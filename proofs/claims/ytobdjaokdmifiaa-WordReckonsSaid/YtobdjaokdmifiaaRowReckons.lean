/- The law clevislaw01.WordReckons holds of the given program: for every input it returns true. -/
import Derived.Test.YtobdjaokdmifiaaRows
import Derived.Test.YtobdjaokdmifiaaPureReckons
import Derived.JoinedOf
import Derived.Handed
set_option maxRecDepth 100000
namespace Go.Proofs.Ytobdjaokdmifiaa.wordReckons
open Go Go.Eng Go.RowKit
theorem own : ownKnob Try.prog.godebug = none := by kernel_rfl
theorem lifted (os : Os) (started : os.Started) (H : Type) (enc : TypeId × Value → H) :
    ReturnsInHanded {} Try.checked os 3 .any (Rows.wordReckonsSpec.pre6 enc Try.prog Try.f3 Rows.wordReckonsRow.domain false) (Rows.wordReckonsSpec.post enc Try.prog Try.f3 false true false false) := by
  refine returnsInHanded_of_change_sized (C := Try.checked) own started (by kernel_rfl) Try.func3
    (ChangeSpec.witness6 (enc := enc) (C := Try.checked) false ⟨#[], #[.int .i64 0, .int .u64 0, .int .u64 0, .bool false], []⟩ 12 (by kernel_rfl) (by kernel_rfl) (by kernel_rfl) (by kernel_rfl)) ?_
  intro W base args ds gs before hval hW _ _ _
  exact law_contract (P := Try.prog) (fn := Try.f3) (s := Rows.wordReckonsSpec) (ps := ps_clevislaw01WordReckons) (rt := 4) (n := 20) (by kernel_rfl) (by kernel_rfl) Try.underlying4 (by kernel_rfl) (by kernel_rfl) rfl
    (fun H ds h => by
      match ds, h with
      | [_, _, _, _], _ => rfl) (fun x hw => WordReckons_law x hw) W base args ds gs before hval hW
theorem over : Rows.wordReckonsRow.holds Try.pinned (OpenSpec.ofChange Rows.wordReckonsSpec) :=
  OpenClaim.holds_of_wide 3 Try.f3 rfl rfl rfl rfl rfl rfl rfl ⟨rfl, rfl, rfl, rfl, rfl⟩ rfl rfl rfl rfl rfl (by kernel_rfl) Try.func3 (by kernel_rfl)
    (of_decide_eq_true (by kernel_rfl)) (by unfold Func.isWrapper; first | (rw [if_pos (by decide +kernel)]; kernel_rfl) | (rw [if_neg (by decide +kernel)]; exact ⟨rfl, rfl⟩))
    (fun os started H enc _ => lifted os started H enc)
end Go.Proofs.Ytobdjaokdmifiaa.wordReckons
namespace Go.Proofs.Ytobdjaokdmifiaa
theorem wordReckons_holds : Rows.WordReckonsSaid := wordReckons.over
#print axioms wordReckons_holds
end Go.Proofs.Ytobdjaokdmifiaa
