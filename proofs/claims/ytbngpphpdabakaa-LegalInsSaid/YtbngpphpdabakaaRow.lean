/- The law clevislaw04.LegalIns holds of the given program: for every input it returns true. -/
import Derived.Test.YtbngpphpdabakaaRows
import Derived.Test.YtbngpphpdabakaaLawG
import Derived.JoinedOf
import Derived.Handed
set_option maxRecDepth 100000
namespace Go.Proofs.Ytbngpphpdabakaa.legalIns
open Go Go.Eng Go.RowKit
theorem own : ownKnob Try.prog.godebug = none := by kernel_rfl
theorem lifted (os : Os) (started : os.Started) (H : Type) (enc : TypeId × Value → H) :
    ReturnsInHanded {} Try.checked os 5 .any (Rows.legalInsSpec.pre6 enc Try.prog Try.f5 Rows.legalInsRow.domain false) (Rows.legalInsSpec.post enc Try.prog Try.f5 false true false false) := by
  refine returnsInHanded_of_change_sized (C := Try.checked) own started (by kernel_rfl) Try.func5
    (ChangeSpec.witness6 (enc := enc) (C := Try.checked) false ⟨#[], #[.slice none 0 0, .int .i64 0, .agg #[.int .i64 0, .int .i64 0, .int .i64 0, .int .i64 0, .int .i64 0, .int .u64 0]], []⟩ 12 (by kernel_rfl) (by kernel_rfl) (by kernel_rfl) (by kernel_rfl)) ?_
  intro W base args ds gs before hval hW _ hz _
  exact law_contract (P := Try.prog) (fn := Try.f5) (s := Rows.legalInsSpec) (ps := ps_clevislaw04LegalIns) (rt := 4) (n := 20) (by kernel_rfl) (by kernel_rfl) Try.underlying4 (by kernel_rfl) (by kernel_rfl) rfl
    (fun H ds h => by
      match ds, h with
      | [_, _, _], _ => rfl) (fun x hw hz => LegalIns_law x hw hz) W base args ds gs before hval hW hz
theorem over : Rows.legalInsRow.holds Try.pinned (OpenSpec.ofChange Rows.legalInsSpec) :=
  OpenClaim.holds_of_wide 5 Try.f5 rfl rfl rfl rfl rfl rfl rfl ⟨rfl, rfl, rfl, rfl, rfl⟩ rfl rfl rfl rfl rfl (by kernel_rfl) Try.func5 (by kernel_rfl)
    (of_decide_eq_true (by kernel_rfl)) (by unfold Func.isWrapper; first | (rw [if_pos (by decide +kernel)]; kernel_rfl) | (rw [if_neg (by decide +kernel)]; exact ⟨rfl, rfl⟩))
    (fun os started H enc _ => lifted os started H enc)
end Go.Proofs.Ytbngpphpdabakaa.legalIns
namespace Go.Proofs.Ytbngpphpdabakaa
theorem legalIns_holds : Rows.LegalInsSaid := legalIns.over
#print axioms legalIns_holds
end Go.Proofs.Ytbngpphpdabakaa
