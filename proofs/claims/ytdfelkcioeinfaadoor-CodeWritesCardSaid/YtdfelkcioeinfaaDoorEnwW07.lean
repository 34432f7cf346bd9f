/- Plain laws of strings: numerals, and what is joined. -/
import Derived.Test.YtdfelkcioeinfaaDoorEnwW06
import Derived.Test.YtdfelkcioeinfaaDoorEnwZ6
import Derived.Test.YtdfelkcioeinfaaDoorEnwW04
set_option linter.unusedVariables false
set_option linter.unusedSimpArgs false
set_option maxHeartbeats 4000000
set_option maxRecDepth 100000
namespace Go.Eng
open Go
theorem cat_data (a b : ByteArray) : (W.cat a b).data.toList = a.data.toList ++ b.data.toList := by
  unfold W.cat
  simp
theorem ba_ext {a b : ByteArray} (h : a.data.toList = b.data.toList) : a = b := by
  cases a; cases b
  simp only at h
  congr 1
  exact Array.toList_inj.1 h
theorem cat_size (a b : ByteArray) : W.size (W.cat a b) = W.size a + W.size b := by
  unfold W.size W.cat; simp
theorem join_data (a : ByteArray) : ∀ (l : List ByteArray) (s : ByteArray), (joinS (a :: l) s).data.toList = a.data.toList ++ (l.map fun b => s.data.toList ++ b.data.toList).flatten
  | [], s => by simp [joinS, Lib.join, List.intercalate]
  | b :: l, s => by
    have h := join_data b l s
    simp only [joinS, Lib.join, List.map_cons] at h ⊢
    simp only [List.intercalate, List.intersperse_cons_cons, List.flatten_cons] at h ⊢
    rw [h]
    simp [List.append_assoc]
theorem eqS_refl (a : ByteArray) : W.eqS a a = true := by unfold W.eqS; simp
theorem size_le (s : ByteArray) : W.size s = s.data.toList.length := by
  unfold W.size
  show s.data.size = _
  simp only [Array.length_toList]
end Go.Eng
