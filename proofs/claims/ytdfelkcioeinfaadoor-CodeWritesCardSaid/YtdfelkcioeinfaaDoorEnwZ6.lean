/- The engine, part Z6: library functions that answer a string, told out of the kit's contracts: what a contract must give. -/
import Derived.Test.YtdfelkcioeinfaaDoorEnwZ5
import Derived.Lib.Join
import Derived.Lib.ItoaLen
import Derived.Lib.LaidTab
set_option linter.unusedVariables false
set_option linter.unusedSimpArgs false
namespace Go.Eng
open Go Go.RowKit
theorem callTo_str {P : Program} {g : FuncId} {args : List V} {s : ByteArray}
    (h : ∀ (F : Fz) (w : World) (cargs : Array Value), FzOk F w → BaseOk w → VRL (lend F w) (fun _ => none) args cargs.toList → s.size ≤ maxLen ∧ Calls P g cargs w fun e w' => e = .returned (.string s) ∧ Below w.heap.size w w') :
    CallTo P g args (.str s) [] := by
  refine ⟨rfl, fun F w cargs hz hB ha => ?_⟩
  obtain ⟨hs, hc⟩ := h F w cargs hz hB ha
  refine hc.mono ?_
  rintro e w' ⟨rfl, hb⟩
  have hfz : ∀ y, FzOk (only F y) w' := by
    intro y
    cases y with
    | false => exact hz.below hb
    | true => intro g off u hu; simp [only] at hu
  refine ⟨_, F, fun _ => none, rfl, ⟨Fr.le_refl _, fun y g off u hu => .inl hu⟩, ⟨hfz, hb, hB, fun _ _ => rfl, fun b blk h => by simp at h, fun b blk A h => by simp at h, fun b b' blk blk' A A' h => by simp at h⟩, ?_⟩
  show Value.string s = Value.string s ∧ s.size ≤ maxLen
  exact ⟨rfl, hs⟩
/-- A library function that answers a string, where 'c' holds of its arguments. -/
theorem specOk_str {P : Program} {g : FuncId} {ps : List PT} {f : PTs.D ps → ByteArray} (c : PTs.D ps → Bool)
    (h : ∀ (x : PTs.D ps) (F : Fz) (w : World) (cargs : Array Value), c x = true → FzOk F w → BaseOk w → VRL (lend F w) (fun _ => none) (encL true ps x) cargs.toList →
      (f x).size ≤ maxLen ∧ Calls P g cargs w fun e w' => e = .returned (.string (f x)) ∧ Below w.heap.size w w') :
    SpecOk P g (mkS ps [.one .str] (fun R x k => br (c x) (k (f x)) none)) := by
  intro R args k r hr
  simp only [mkS] at hr
  split at hr
  · rename_i x hx
    rcases br_some hr with ⟨hc, hr⟩ | ⟨_, hr⟩
    rotate_left
    · cases hr
    refine ⟨_, _, hr, callTo_str fun F w cargs hz hB ha => ?_⟩
    have hle : (lend F w false).le (lend F w true) := fun g off u hu => hz g off u hu
    exact h x F w cargs hc hz hB (decL_sound (ps := ps) (π' := fun _ => none) (fun _ : true = true => hle) hx ha)
  · cases hr
/-- A number's decimal numeral. -/
def itoaS (n : Int) : ByteArray := ⟨(Lib.itoa n).toArray⟩
def utoaS (n : Int) : ByteArray := ⟨(Lib.decDigits n.toNat).toArray⟩
def joinS (xs : List ByteArray) (sep : ByteArray) : ByteArray := ⟨(Lib.join (xs.map (·.data.toList)) sep.data.toList).toArray⟩
theorem itoaS_size (n : Int) (h0 : -9223372036854775808 ≤ n) (h1 : n ≤ 9223372036854775807) : (itoaS n).size ≤ 21 := by
  have := Lib.itoa_length_le n h0 h1
  simpa [itoaS, ByteArray.size] using this
theorem utoaS_size (u : Nat) (h : u < 18446744073709551616) : (utoaS u).size ≤ 20 := by
  have h1 : (utoaS u).size = Lib.nDigits u := by simp [utoaS, ByteArray.size, Lib.decDigits_length]
  rw [h1]
  rcases Nat.eq_zero_or_pos u with h0 | h0
  · subst h0; rw [Lib.nDigits_small (by omega)]; omega
  · have := Lib.numDigits_eq u h0 h; split at this <;> omega
theorem tab_of_base {P : Program} {name : String} {g : Nat} {w : World} (hg : P.globalNamed name = some g) (hs : Base g = some (Lib.pow10Tab.map fun z => Value.int .u64 z).toArray) (hB : BaseOk w) : Lib.TabIs P w name .u64 Lib.pow10Tab := by
  obtain ⟨t, fr, h⟩ := hB g _ hs
  unfold Lib.TabIs World.var?
  rw [hg]
  simp [h]
theorem grow_below (w : World) (k : Nat) (os : Array Obj) : Below w.heap.size w (Sort.grow (w.drewN k) os) := by
  refine ⟨rfl, rfl, rfl, ?_, fun i hi => ?_⟩
  · simp [Sort.grow, World.drewN]
  · simp [Sort.grow, World.drewN, Array.getElem?_append_left hi]
end Go.Eng
