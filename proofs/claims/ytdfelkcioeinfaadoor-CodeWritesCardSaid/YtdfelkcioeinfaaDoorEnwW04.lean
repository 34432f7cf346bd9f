/- Plain laws of memories: layouts, regions, bytes; with no program in sight. -/
import Derived.Test.YtdfelkcioeinfaaDoorEnwW03
set_option linter.unusedVariables false
set_option linter.unusedSimpArgs false
set_option maxHeartbeats 4000000
set_option maxRecDepth 100000
namespace Go.Eng
open Go
open Classical
/-! ### strings of bytes -/
theorem ba_loop (bs : ByteArray) : ∀ (m i : Nat) (r : List UInt8), bs.size - i = m → ByteArray.toList.loop bs i r = r.reverse ++ bs.data.toList.drop i
  | 0, i, r, h => by
    unfold ByteArray.toList.loop
    have hs : bs.data.toList.length = bs.size := bs.data.length_toList
    rw [if_neg (by omega), List.drop_eq_nil_of_le (by omega)]
    simp
  | m + 1, i, r, h => by
    unfold ByteArray.toList.loop
    have hi : i < bs.data.size := by have : bs.data.size = bs.size := rfl; omega
    rw [if_pos (show i < bs.size from hi), ba_loop bs m (i + 1) _ (by omega)]
    have hl : i < bs.data.toList.length := by simpa using hi
    rw [List.drop_eq_getElem_cons hl]
    have : bs.get! i = bs.data.toList[i] := by
      cases bs with
      | mk d =>
        show d[i]! = _
        rw [getElem!_pos d i hi]; rfl
    rw [this]
    simp
theorem ba_toList (bs : ByteArray) : bs.toList = bs.data.toList := by
  unfold ByteArray.toList
  rw [ba_loop bs _ 0 [] rfl]; simp
theorem u8_inj {a b : Int} (ha : 0 ≤ a ∧ a < 256) (hb : 0 ≤ b ∧ b < 256) (h : UInt8.ofNat a.toNat = UInt8.ofNat b.toNat) : a = b := by
  have := congrArg UInt8.toNat h
  simp only [UInt8.toNat_ofNat'] at this
  omega
theorem btOk_cons {a : Int} {l : List Int} (h : BtOk (a :: l)) : (0 ≤ a ∧ a < 256) ∧ BtOk l :=
  ⟨h 0, fun i => h (i + 1)⟩
theorem bytes_inj : ∀ {a b : List Int}, BtOk a → BtOk b → (a.map fun n => UInt8.ofNat n.toNat) = (b.map fun n => UInt8.ofNat n.toNat) → a = b
  | [], [], _, _, _ => rfl
  | [], _ :: _, _, _, h => by simp at h
  | _ :: _, [], _, _, h => by simp at h
  | x :: a, y :: b, ha, hb, h => by
    simp only [List.map_cons, List.cons.injEq] at h
    obtain ⟨h1, h2⟩ := h
    rw [u8_inj (btOk_cons ha).1 (btOk_cons hb).1 h1, bytes_inj (btOk_cons ha).2 (btOk_cons hb).2 h2]
theorem eqS_bytes {a b : List Int} (ha : BtOk a) (hb : BtOk b) : W.eqS (W.bytes a) (W.bytes b) = decide (a = b) := by
  unfold W.eqS
  rw [ba_toList, ba_toList, Bool.eq_iff_iff, beq_iff_eq, decide_eq_true_eq]
  exact ⟨fun h => bytes_inj ha hb h, fun h => by rw [h]⟩

/-! ### layouts and memories -/
abbrev Ar := Int × Bool
abbrev La := Ar × List Ar
abbrev Me := List (List Int)
noncomputable def arOk (a : Ar) : Prop := 1 ≤ a.1 ∧ a.1 ≤ 4096
noncomputable def layOK (l : La) : Prop := (0 ≤ l.1.1 ∧ l.1.1 ≤ 4096) ∧ l.2.length ≤ 8 ∧ ∀ i, i < l.2.length → arOk (l.2.getD i (0, false))
noncomputable def areasP (l : La) : List Ar := if layOK l then l.1 :: (512, true) :: l.2 else []
noncomputable def areaP (l : La) (r : Int) : Ar × Bool := if 1 ≤ r ∧ r ≤ (areasP l).length then ((areasP l).getD (r - 1).toNat (0, false), true) else ((0, false), false)
noncomputable def mayP (l : La) (m : Me) : Prop := areasP l ≠ [] ∧ (areasP l).length = m.length ∧ ∀ i, i < m.length → ((m.getD i []).length : Int) = ((areasP l).getD i (0, false)).1
noncomputable def freshP (l : La) : Me := (areasP l).map fun a => List.replicate a.1.toNat 0
noncomputable def chkLP (l : La) : Int := if layOK l then 0 else 22
noncomputable def accP (l : La) (a n : Int) (w : Bool) : Int :=
  if n < 1 ∨ 4096 < n then 2 else
  if (areaP l (a / 4294967296)).2 = false ∨ (areaP l (a / 4294967296)).1.1 - n < a % 4294967296 then 20 else
  if w = true ∧ (areaP l (a / 4294967296)).1.2 = false then 21 else 0
def adrP (r o : Int) : Int := (r * 4294967296 + o) % 18446744073709551616
noncomputable def rowOf (m : Me) (a : Int) : List Int := m.getD (a / 4294967296 - 1).toNat []
noncomputable def bytesP (l : La) (m : Me) (a n : Int) : List Int × Int :=
  if ¬ mayP l m then ([], 2) else if accP l a n false ≠ 0 then ([], accP l a n false) else
  (((rowOf m a).drop (a % 4294967296).toNat).take n.toNat, 0)
noncomputable def putRow (m : Me) (a : Int) (b : List Int) : Me := m.set (a / 4294967296 - 1).toNat (W.over (rowOf m a) (a % 4294967296).toNat b)
noncomputable def fillP (l : La) (m : Me) (a : Int) (b : List Int) : Me × Int :=
  if ¬ mayP l m then ([], 2) else if accP l a b.length true ≠ 0 then ([], accP l a b.length true) else (putRow m a b, 0)
noncomputable def loadP (l : La) (m : Me) (a n : Int) : Int × Int := if sz n = true then (hg (bytesP l m a n).1 8, (bytesP l m a n).2) else (0, 2)
noncomputable def storeP (l : La) (m : Me) (a n x : Int) : Me × Int := if sz n = true then fillP l m a (bytesN x n) else ([], 2)
/-- A memory's numbers are bytes. -/
def meOk (m : Me) : Prop := ∀ i, BtOk (m.getD i [])
/-- A memory for which there is room. -/
def meSz (m : Me) : Prop := m.length * 24 ≤ 140737488351232 ∧ ∀ i, (m.getD i []).length ≤ 140737488351232

theorem layOK_areas {l : La} (h : layOK l) : areasP l = l.1 :: (512, true) :: l.2 := if_pos h
theorem not_layOK_areas {l : La} (h : ¬ layOK l) : areasP l = [] := if_neg h
theorem areas_len {l : La} : (areasP l).length ≤ 10 := by
  by_cases h : layOK l
  · rw [layOK_areas h]; have := h.2.1; simp; omega
  · rw [not_layOK_areas h]; simp
theorem areas_get {l : La} (i : Nat) : 0 ≤ ((areasP l).getD i (0, false)).1 ∧ ((areasP l).getD i (0, false)).1 ≤ 4096 := by
  by_cases h : layOK l
  · rw [layOK_areas h]
    match i with
    | 0 => exact h.1
    | 1 => simp
    | i + 2 =>
      simp only [List.getD_cons_succ]
      by_cases hi : i < l.2.length
      · have := h.2.2 i hi; unfold arOk at this; omega
      · rw [List.getD_eq_getElem?_getD, List.getElem?_eq_none (by omega)]; simp
  · rw [not_layOK_areas h]; simp
theorem area_sz {l : La} {r : Int} : 0 ≤ (areaP l r).1.1 ∧ (areaP l r).1.1 ≤ 4096 := by
  unfold areaP
  split
  · exact areas_get _
  · simp
theorem may_lay {l : La} {m : Me} (h : mayP l m) : layOK l := by
  false_or_by_contra
  rename_i h'
  exact h.1 (not_layOK_areas h')
theorem may_sz {l : La} {m : Me} (h : mayP l m) : meSz m := by
  refine ⟨?_, fun i => ?_⟩
  · have := h.2.1; have := areas_len (l := l); omega
  · by_cases hi : i < m.length
    · have h1 := h.2.2 i hi
      have h2 := areas_get (l := l) i
      omega
    · rw [List.getD_eq_getElem?_getD, List.getElem?_eq_none (by omega)]; simp
/-- What an access that may be means. -/
theorem acc_ok {l : La} {m : Me} {a n : Int} {w : Bool} (hm : mayP l m) (ha : 0 ≤ a) (h : accP l a n w = 0) :
    1 ≤ n ∧ n ≤ 4096 ∧ 1 ≤ a / 4294967296 ∧ (a / 4294967296 - 1).toNat < m.length ∧ 0 ≤ a % 4294967296 ∧ a % 4294967296 + n ≤ (rowOf m a).length ∧
      (areaP l (a / 4294967296)).1.1 = (rowOf m a).length ∧ (w = true → (areaP l (a / 4294967296)).1.2 = true) := by
  unfold accP at h
  by_cases h1 : n < 1 ∨ 4096 < n
  · rw [if_pos h1] at h; omega
  rw [if_neg h1] at h
  by_cases h2 : (areaP l (a / 4294967296)).2 = false ∨ (areaP l (a / 4294967296)).1.1 - n < a % 4294967296
  · rw [if_pos h2] at h; omega
  rw [if_neg h2] at h
  by_cases h3 : w = true ∧ (areaP l (a / 4294967296)).1.2 = false
  · rw [if_pos h3] at h; omega
  have hr : 1 ≤ a / 4294967296 ∧ a / 4294967296 ≤ (areasP l).length := by
    false_or_by_contra
    rename_i hc
    exact h2 (.inl (by unfold areaP; rw [if_neg hc]))
  have he : areaP l (a / 4294967296) = ((areasP l).getD (a / 4294967296 - 1).toNat (0, false), true) := by unfold areaP; rw [if_pos hr]
  have hl := hm.2.1
  have hlt : (a / 4294967296 - 1).toNat < m.length := by omega
  have hrow := hm.2.2 _ hlt
  have hrow' : ((rowOf m a).length : Int) = (areaP l (a / 4294967296)).1.1 := by rw [he]; exact hrow
  refine ⟨by omega, by omega, hr.1, hlt, by omega, by omega, hrow'.symm, fun hw => ?_⟩
  cases hb : (areaP l (a / 4294967296)).1.2 with
  | true => rfl
  | false => exact absurd ⟨hw, hb⟩ h3
theorem acc_cases {l : La} {a n : Int} {w : Bool} : accP l a n w = 0 ∨ accP l a n w = 2 ∨ accP l a n w = 20 ∨ accP l a n w = 21 := by
  unfold accP; split
  · simp
  split
  · simp
  split <;> simp
/-! ### rows overwritten -/
theorem over_len {l b : List Int} {i : Nat} (h : i + b.length ≤ l.length) : (W.over l i b).length = l.length := by
  unfold W.over; simp; omega
theorem over_bt {l b : List Int} {i j : Nat} (h : i + b.length ≤ l.length) : bt (W.over l i b) j = if i ≤ j ∧ j < i + b.length then bt b (j - i) else bt l j := by
  unfold bt W.over
  simp only [List.getD_eq_getElem?_getD]
  rw [List.getElem?_append]
  simp only [List.length_take]
  by_cases h1 : j < i
  · rw [if_pos (by omega), if_neg (by omega), List.getElem?_take, if_pos h1]
  · rw [if_neg (by omega), show min i l.length = i by omega, List.getElem?_append]
    by_cases h2 : j < i + b.length
    · rw [if_pos (by omega), if_pos (by omega)]
    · rw [if_neg (by omega), if_neg (by omega), List.getElem?_drop]
      congr 2; omega
theorem over_ok {l b : List Int} {i : Nat} (h : i + b.length ≤ l.length) (hl : BtOk l) (hb : BtOk b) : BtOk (W.over l i b) := by
  intro j
  rw [over_bt h]
  split
  · exact hb _
  · exact hl _
theorem bt_drop_take {l : List Int} {i n j : Nat} : bt ((l.drop i).take n) j = if j < n then bt l (i + j) else 0 := by
  unfold bt
  simp only [List.getD_eq_getElem?_getD, List.getElem?_take, List.getElem?_drop]
  split <;> rfl
theorem take_ok {l : List Int} {i n : Nat} (h : BtOk l) : BtOk ((l.drop i).take n) := by
  intro j; rw [bt_drop_take]; split
  · exact h _
  · simp
theorem btOk_nil : BtOk [] := by intro i; simp [bt]
theorem btOk_rep (n : Nat) : BtOk (List.replicate n 0) := by
  intro i; unfold bt
  rw [List.getD_eq_getElem?_getD, List.getElem?_replicate]; split <;> simp
theorem bytesP_ok {l : La} {m : Me} {a n : Int} (hm : meOk m) : BtOk (bytesP l m a n).1 := by
  unfold bytesP
  split
  · exact btOk_nil
  split
  · exact btOk_nil
  · exact take_ok (hm _)
theorem bt_ext {a b : List Int} (hl : a.length = b.length) (h : ∀ i, i < a.length → bt a i = bt b i) : a = b := by
  apply List.ext_getElem hl
  intro i h1 h2
  have := h i h1
  unfold bt at this
  rw [List.getD_eq_getElem?_getD, List.getD_eq_getElem?_getD, List.getElem?_eq_getElem h1, List.getElem?_eq_getElem h2] at this
  simpa using this
end Go.Eng
namespace Go.Eng
open Go
/-! ### copies -/
/-- A memory of which the first rows are copied. -/
def halfM (m : Me) (t : Nat) : Me := m.take t ++ List.replicate (m.length - t) []
theorem half_len (m : Me) {t : Nat} (h : t ≤ m.length) : (halfM m t).length = m.length := by simp [halfM]; omega
theorem half_zero (m : Me) : halfM m 0 = List.replicate m.length [] := by simp [halfM]
theorem half_all (m : Me) : halfM m m.length = m := by simp [halfM]
theorem half_set (m : Me) {t : Nat} (h : t < m.length) : (halfM m t).set t (m.getD t []) = halfM m (t + 1) := by
  apply List.ext_getElem?
  intro i
  unfold halfM
  rw [List.getElem?_set, List.getElem?_append, List.getElem?_append]
  simp only [List.length_append, List.length_take, List.length_replicate, List.getElem?_take, List.getElem?_replicate]
  rw [List.getD_eq_getElem?_getD, List.getElem?_eq_getElem h]
  repeat' split
  all_goals first
    | rfl
    | (exfalso; omega)
    | (rename_i h1 _ _; subst h1; rw [List.getElem?_eq_getElem h]; rfl)
    | (subst t; rw [List.getElem?_eq_getElem h]; rfl)
    | skip
theorem get_set_eq {α : Type} (l : List α) {i : Nat} (h : i < l.length) (x d : α) : (l.set i x).getD i d = x := by
  rw [List.getD_eq_getElem?_getD, List.getElem?_set, if_pos rfl, if_pos h]; rfl
theorem get_set_ne {α : Type} (l : List α) {i j : Nat} (h : i ≠ j) (x d : α) : (l.set i x).getD j d = l.getD j d := by
  rw [List.getD_eq_getElem?_getD, List.getD_eq_getElem?_getD, List.getElem?_set, if_neg h]
theorem slice_all' {α : Type} (l : List α) {n : Nat} (h : l.length ≤ n) : W.slice l 0 n = l := by unfold W.slice; simp; exact List.take_of_length_le h
theorem minN_self (n : Nat) : W.minN n n = n := by unfold W.minN; simp
theorem minN_le' {n m : Nat} (h : n ≤ m) : W.minN n m = n := by unfold W.minN; rw [if_pos h]
theorem minN_ge {n m : Nat} (h : m ≤ n) : W.minN n m = m := by unfold W.minN; split <;> omega
theorem over_all {α : Type} (l s : List α) (h : s.length = l.length) : W.over l 0 s = s := by
  unfold W.over; simp [h]
theorem take_succ_D {α : Type} {l : List α} {t : Nat} (h : t < l.length) (d : α) : (l.take (t + 1)) = l.take t ++ [l.getD t d] := by
  rw [List.take_add_one, List.getD_eq_getElem?_getD, List.getElem?_eq_getElem h]; rfl
theorem over_take {l b : List Int} {i t : Nat} (h : i + b.length ≤ l.length) (ht : t < b.length) : (W.over l i (b.take t)).set (i + t) (b.getD t 0) = W.over l i (b.take (t + 1)) := by
  apply bt_ext
  · rw [List.length_set, over_len (by simp; omega), over_len (by simp; omega)]
  · intro j hj
    rw [List.length_set, over_len (by simp; omega)] at hj
    rw [over_bt (by simp; omega)]
    by_cases hij : i + t = j
    · subst hij
      unfold bt
      rw [get_set_eq _ (by rw [over_len (by simp; omega)]; omega), if_pos (by simp; omega)]
      rw [show i + t - i = t by omega, List.getD_eq_getElem?_getD, List.getD_eq_getElem?_getD, List.getElem?_take, if_pos (by omega)]
    · have : bt ((W.over l i (b.take t)).set (i + t) (b.getD t 0)) j = bt (W.over l i (b.take t)) j := by unfold bt; exact get_set_ne _ hij _ _
      rw [this, over_bt (by simp; omega)]
      simp only [List.length_take]
      by_cases hc : i ≤ j ∧ j < i + min t b.length
      · rw [if_pos hc, if_pos (by omega)]
        unfold bt
        simp only [List.getD_eq_getElem?_getD, List.getElem?_take]
        rw [if_pos (by omega), if_pos (by omega)]
      · rw [if_neg hc, if_neg (by omega)]
theorem over_nil (l : List Int) (i : Nat) : W.over l i [] = l := by unfold W.over; simp
end Go.Eng
namespace Go.Eng
open Go
open Classical
/-! ### what comes of right memories is right -/
theorem meOk_nil : meOk [] := by intro i; simp; exact btOk_nil
theorem meSz_nil : meSz [] := by refine ⟨by simp, fun i => by simp⟩
theorem meOk_fresh (l : La) : meOk (freshP l) := by
  intro i
  unfold freshP
  rw [List.getD_eq_getElem?_getD, List.getElem?_map]
  cases h : (areasP l)[i]? with
  | none => simp; exact btOk_nil
  | some a => simp; exact btOk_rep _
theorem meSz_fresh (l : La) : meSz (freshP l) := by
  refine ⟨?_, fun i => ?_⟩
  · unfold freshP; have := areas_len (l := l); simp; omega
  · unfold freshP
    rw [List.getD_eq_getElem?_getD, List.getElem?_map]
    have h1 := areas_get (l := l) i
    rw [List.getD_eq_getElem?_getD] at h1
    cases h : (areasP l)[i]? with
    | none => simp
    | some a => rw [h] at h1; simp at h1 ⊢; omega
theorem put_row_same {l : La} {m : Me} {a : Int} {b : List Int} (hm : mayP l m) (ha : 0 ≤ a) (h : accP l a b.length true = 0) :
    (putRow m a b).length = m.length ∧ (∀ i, ((putRow m a b).getD i []).length = (m.getD i []).length) := by
  obtain ⟨q1, q2, q3, q4, q5, q6, q7, _⟩ := acc_ok hm ha h
  unfold putRow
  refine ⟨by simp, fun i => ?_⟩
  by_cases hi : (a / 4294967296 - 1).toNat = i
  · subst hi; rw [get_set_eq _ q4, over_len (by omega)]; rfl
  · rw [get_set_ne _ hi]
theorem may_put {l : La} {m : Me} {a : Int} {b : List Int} (hm : mayP l m) (ha : 0 ≤ a) (h : accP l a b.length true = 0) : mayP l (putRow m a b) := by
  obtain ⟨h1, h2⟩ := put_row_same hm ha h
  refine ⟨hm.1, by rw [h1]; exact hm.2.1, fun i hi => ?_⟩
  rw [h2 i]; exact hm.2.2 i (by omega)
theorem meOk_put {l : La} {m : Me} {a : Int} {b : List Int} (hm : mayP l m) (ha : 0 ≤ a) (h : accP l a b.length true = 0) (ho : meOk m) (hb : BtOk b) : meOk (putRow m a b) := by
  obtain ⟨q1, q2, q3, q4, q5, q6, q7, _⟩ := acc_ok hm ha h
  intro i
  unfold putRow
  by_cases hi : (a / 4294967296 - 1).toNat = i
  · subst hi; rw [get_set_eq _ q4]; exact over_ok (by omega) (ho _) hb
  · rw [get_set_ne _ hi]; exact ho i
theorem meOk_fill {l : La} {m : Me} {a : Int} {b : List Int} (ha : 0 ≤ a) (ho : meOk m) (hb : BtOk b) : meOk (fillP l m a b).1 := by
  unfold fillP
  by_cases h1 : mayP l m
  · rw [if_neg (by simpa using h1)]
    by_cases h2 : accP l a b.length true = 0
    · rw [if_neg (by simpa using h2)]; exact meOk_put h1 ha h2 ho hb
    · rw [if_pos h2]; exact meOk_nil
  · rw [if_pos h1]; exact meOk_nil
theorem meSz_fill {l : La} {m : Me} {a : Int} {b : List Int} (ha : 0 ≤ a) : meSz (fillP l m a b).1 := by
  unfold fillP
  by_cases h1 : mayP l m
  · rw [if_neg (by simpa using h1)]
    by_cases h2 : accP l a b.length true = 0
    · rw [if_neg (by simpa using h2)]; exact may_sz (may_put h1 ha h2)
    · rw [if_pos h2]; exact meSz_nil
  · rw [if_pos h1]; exact meSz_nil
theorem meOk_store {l : La} {m : Me} {a n x : Int} (ha : 0 ≤ a) (ho : meOk m) : meOk (storeP l m a n x).1 := by
  unfold storeP
  split
  · exact meOk_fill ha ho (bytes_ok x n)
  · exact meOk_nil
theorem meSz_store {l : La} {m : Me} {a n x : Int} (ha : 0 ≤ a) : meSz (storeP l m a n x).1 := by
  unfold storeP
  split
  · exact meSz_fill ha
  · exact meSz_nil
end Go.Eng
namespace Go.Eng
open Go
namespace W
theorem eq_self (a : Int) : W.eq a a = true := W.eq_t.2 rfl
theorem ne_self (a : Int) : W.ne a a = false := by simp [W.ne]
theorem eqB_self (a : Bool) : W.eqB a a = true := W.eqB_t.2 rfl
theorem pick_tf (y : Bool) : W.pick true y false = y := rfl
theorem pick_ft (y : Bool) : W.pick false true y = y := rfl
theorem pick_tt (y : Bool) : W.pick true true y = true := rfl
theorem pick_ff (y : Bool) : W.pick false y false = false := rfl
theorem not_ff : W.not false = true := rfl
theorem not_tt : W.not true = false := rfl
theorem and2_tt : W.and2 true true = true := rfl
end W
theorem meSz_of {m : Me} (h : SzT (.slice (.slice (.int .u8))) m) : meSz m := by
  obtain ⟨h1, h2⟩ := h
  refine ⟨h1, fun i => ?_⟩
  by_cases hi : i < m.length
  · rw [List.getD_eq_getElem?_getD, List.getElem?_eq_getElem hi]
    have := (h2 _ (List.getElem_mem hi)).1
    have e : (Ty.int IntKind.u8).bytes = 1 := rfl
    rw [e] at this
    simp only [Option.getD_some]
    have e2 : reachBytes = 140737488351232 := rfl
    rw [e2] at this
    exact Nat.le_trans (Nat.le_of_eq (Nat.mul_one _).symm) this
  · rw [List.getD_eq_getElem?_getD, List.getElem?_eq_none (by omega)]; simp
theorem meOk_of {m : Me} (h : WfT (.slice (.slice (.int .u8))) m) : meOk m := by
  intro i
  by_cases hi : i < m.length
  · rw [List.getD_eq_getElem?_getD, List.getElem?_eq_getElem hi]
    exact btOk_wf (h.2 _ (List.getElem_mem hi)).2
  · rw [List.getD_eq_getElem?_getD, List.getElem?_eq_none (by omega)]; exact btOk_nil
theorem meSz_le {m : Me} (h : meSz m) : m.length ≤ 140737488351232 := by have := h.1; omega
end Go.Eng
namespace Go.Eng
open Go
open Classical
/-! ### what is stored is loaded; fresh memories -/
theorem bytesN_len {x n : Int} (h : sz n = true) : ((bytesN x n).length : Int) = n := by
  have := sz_le h
  unfold bytesN; rw [if_pos h]; simp; omega
theorem store_err {l : La} {m : Me} {a n x : Int} (h : (storeP l m a n x).2 ≠ 0) : (storeP l m a n x).1 = [] := by
  unfold storeP at h ⊢
  split
  · rename_i hs
    rw [if_pos hs] at h
    unfold fillP at h ⊢
    split
    · rfl
    split
    · rfl
    · rename_i h1 h2; rw [if_neg h1, if_neg h2] at h; exact absurd rfl h
  · rfl
theorem store_is {l : La} {m : Me} {a n x : Int} (h : (storeP l m a n x).2 = 0) : sz n = true ∧ mayP l m ∧ accP l a (bytesN x n).length true = 0 ∧ (storeP l m a n x).1 = putRow m a (bytesN x n) := by
  unfold storeP at h ⊢
  by_cases hs : sz n = true
  · rw [if_pos hs] at h ⊢
    unfold fillP at h ⊢
    by_cases h1 : mayP l m
    · rw [if_neg (by simpa using h1)] at h ⊢
      by_cases h2 : accP l a (bytesN x n).length true = 0
      · rw [if_neg (by simpa using h2)]; exact ⟨hs, h1, h2, rfl⟩
      · rw [if_pos h2] at h; exact absurd h h2
    · rw [if_pos h1] at h; simp at h
  · rw [if_neg hs] at h; simp at h
theorem acc_rd {l : La} {a n : Int} (h : accP l a n true = 0) : accP l a n false = 0 := by
  unfold accP at h ⊢
  by_cases h1 : n < 1 ∨ 4096 < n
  · rw [if_pos h1] at h; omega
  rw [if_neg h1] at h ⊢
  by_cases h2 : (areaP l (a / 4294967296)).2 = false ∨ (areaP l (a / 4294967296)).1.1 - n < a % 4294967296
  · rw [if_pos h2] at h; omega
  rw [if_neg h2, if_neg (by simp)]
theorem row_put {m : Me} {a : Int} {b : List Int} (h : (a / 4294967296 - 1).toNat < m.length) : rowOf (putRow m a b) a = W.over (rowOf m a) (a % 4294967296).toNat b := by
  unfold putRow; exact get_set_eq _ h _ _
theorem bytes_put {l : La} {m : Me} {a : Int} {b : List Int} (hm : mayP l m) (ha : 0 ≤ a) (h : accP l a b.length true = 0) : bytesP l (putRow m a b) a b.length = (b, 0) := by
  obtain ⟨q1, q2, q3, q4, q5, q6, q7, _⟩ := acc_ok hm ha h
  unfold bytesP
  rw [if_neg (by simpa using may_put hm ha h), if_neg (by simpa using acc_rd h), row_put q4]
  congr 1
  have hl : (W.over (rowOf m a) (a % 4294967296).toNat b).length = (rowOf m a).length := over_len (by omega)
  apply bt_ext
  · simp only [List.length_take, List.length_drop]; omega
  · intro i hi
    simp only [List.length_take, List.length_drop] at hi
    rw [bt_drop_take, if_pos (by omega), over_bt (by omega), if_pos (by omega)]
    congr 1; omega
theorem bytes_other {l : La} {m : Me} {a t : Int} {b : List Int} (hm : mayP l m) (ha : 0 ≤ a) (ht : 0 ≤ t) (h : accP l a b.length true = 0) (ho : ¬ (a ≤ t ∧ t - a < b.length)) : bytesP l (putRow m a b) t 1 = bytesP l m t 1 := by
  obtain ⟨q1, q2, q3, q4, q5, q6, q7, _⟩ := acc_ok hm ha h
  unfold bytesP
  rw [if_neg (show ¬¬ mayP l (putRow m a b) by simpa using may_put hm ha h), if_neg (show ¬¬ mayP l m by simpa using hm)]
  by_cases h2 : accP l t 1 false = 0
  · obtain ⟨r1, r2, r3, r4, r5, r6, r7, _⟩ := acc_ok hm ht h2
    rw [if_neg (by simpa using h2), if_neg (by simpa using h2)]
    congr 1
    by_cases hi : (a / 4294967296 - 1).toNat = (t / 4294967296 - 1).toNat
    · have hreg : a / 4294967296 = t / 4294967296 := by omega
      have e1 : rowOf (putRow m a b) t = W.over (rowOf m t) (a % 4294967296).toNat b := by
        have := row_put (b := b) q4
        unfold rowOf at this ⊢
        rw [hreg] at this; exact this
      have e2 : rowOf m a = rowOf m t := by unfold rowOf; rw [hreg]
      rw [e2] at q6 q7
      rw [e1]
      have hl : (W.over (rowOf m t) (a % 4294967296).toNat b).length = (rowOf m t).length := over_len (by omega)
      apply bt_ext
      · simp only [List.length_take, List.length_drop, hl]
      · intro i hi
        simp only [List.length_take, List.length_drop] at hi
        rw [bt_drop_take, bt_drop_take, if_pos (by omega), if_pos (by omega), over_bt (by omega), if_neg (by omega)]
    · have e1 : rowOf (putRow m a b) t = rowOf m t := by
        unfold putRow; exact get_set_ne _ hi _ _
      rw [e1]
  · rw [if_pos h2, if_pos h2]
theorem back_ok {l : La} {m : Me} {a n x : Int} (ha : p64 a) (ho : meOk m) (h : (storeP l m a n x).2 = 0) :
    mayP l (storeP l m a n x).1 ∧ loadP l (storeP l m a n x).1 a n = (hg (bytesN x n) 8, 0) ∧ mayP l m ∧ sz n = true := by
  obtain ⟨h1, h2, h3, h4⟩ := store_is h
  rw [h4]
  refine ⟨may_put h2 ha.1 h3, ?_, h2, h1⟩
  unfold loadP
  have := bytes_put h2 ha.1 h3
  rw [bytesN_len h1] at this
  rw [if_pos h1, this]
theorem load_other {l : La} {m : Me} {a n x t : Int} (ha : p64 a) (ht : p64 t) (h : (storeP l m a n x).2 = 0) (ho : ¬ (a ≤ t ∧ t - a < n)) : loadP l (storeP l m a n x).1 t 1 = loadP l m t 1 := by
  obtain ⟨h1, h2, h3, h4⟩ := store_is h
  rw [h4]
  unfold loadP
  rw [bytes_other h2 ha.1 ht.1 h3 (by rw [bytesN_len h1]; exact ho)]
theorem load_err {l : La} {m m' : Me} {t : Int} (hm : mayP l m) (hm' : mayP l m') : (loadP l m t 1).2 = (loadP l m' t 1).2 ∧ True := by
  refine ⟨?_, trivial⟩
  unfold loadP bytesP
  split
  · simp only [hm, hm', not_true, if_false]; split <;> rfl
  · rfl
theorem may_fresh {l : La} (h : layOK l) : mayP l (freshP l) := by
  refine ⟨by rw [layOK_areas h]; simp, by unfold freshP; simp, fun i hi => ?_⟩
  unfold freshP at hi ⊢
  have hi : i < (areasP l).length := by simpa using hi
  have h1 := areas_get (l := l) i
  rw [List.getD_eq_getElem?_getD, List.getElem?_map, List.getD_eq_getElem?_getD] at *
  rw [List.getElem?_eq_getElem hi] at *
  simp only [Option.map_some, Option.getD_some, List.length_replicate] at *
  omega
theorem fresh_bytes {l : La} {a r o : Int} (h : layOK l) (e1 : a / 4294967296 = r) (e2 : a % 4294967296 = o) (h2 : (areaP l r).2 = true) (h3 : 0 ≤ o) (h4 : o < (areaP l r).1.1) :
    bytesP l (freshP l) a ((areaP l r).1.1 - o) = (List.replicate ((areaP l r).1.1 - o).toNat 0, 0) := by
  have hs := area_sz (l := l) (r := r)
  have hacc : accP l a ((areaP l r).1.1 - o) false = 0 := by
    unfold accP
    rw [e1, e2, if_neg (by omega), if_neg (by rw [h2]; simp; omega), if_neg (by simp)]
  have hr : 1 ≤ r ∧ r ≤ (areasP l).length := by
    false_or_by_contra
    rename_i hc
    unfold areaP at h2
    rw [if_neg hc] at h2; cases h2
  have ea : areaP l r = ((areasP l).getD (r - 1).toNat (0, false), true) := by unfold areaP; rw [if_pos hr]
  have er : rowOf (freshP l) a = List.replicate (areaP l r).1.1.toNat 0 := by
    unfold rowOf freshP
    rw [e1, ea, List.getD_eq_getElem?_getD, List.getElem?_map, List.getD_eq_getElem?_getD, List.getElem?_eq_getElem (by omega)]; rfl
  unfold bytesP
  rw [if_neg (by simpa using may_fresh h), if_neg (by simpa using hacc), er, e2, List.drop_replicate, List.take_replicate]
  congr 2; omega
end Go.Eng
