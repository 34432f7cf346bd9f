/- The engine, part I: slices that are made, grown, copied. -/
import Derived.Test.YtdfelkcioeinfaaDoorEnwH
import Derived.Laws.BytesArg
import Derived.Laws.Append
import Derived.Laws.AppendOwn
set_option linter.unusedVariables false
set_option linter.unusedSimpArgs false
namespace Go.Eng
open Go Go.RowKit

section
variable {Φ : Fr} {w w' w1 : World} {π : Pi} {P : Program} {h : List Blk} {slot : Nat} {v : V} {u : Upd}

theorem TR.flat {F F' : Fz} : ∀ {t : Ty} {x : t.D} {cs : List Value}, t.flat = true → TR F t x cs → TR F' t x cs
  | .int k, x, cs, _, h => by simpa only [TR] using h
  | .bool, x, cs, _, h => by simpa only [TR] using h
  | .str, x, cs, _, h => by simpa only [TR] using h
  | .unit, x, cs, _, h => by simpa only [TR] using h
  | .prod a b, x, cs, hf, h => by
    simp only [Ty.flat, Bool.and_eq_true] at hf
    simp only [TR] at h ⊢
    obtain ⟨c1, c2, e, h1, h2⟩ := h
    exact ⟨c1, c2, e, TR.flat hf.1 h1, TR.flat hf.2 h2⟩
  | .slice t, l, cs, hf, h => by simp [Ty.flat] at hf
theorem TR.one {F : Fz} {t : Ty} {x : t.D} {cs : List Value} (h : TR F t x cs) : ∀ c ∈ cs, c.oneCell' = true := by
  intro c hc
  have hv := TR.vs (Φ := fun _ => F) (π := fun _ => none) (w := false) h
  obtain ⟨i, hi⟩ := List.mem_iff_getElem?.1 hc
  have hl := VRL.length hv
  have hi' : i < (toVs false t x).length := by have := (List.getElem?_eq_some_iff.1 hi).1; omega
  obtain ⟨u, hu, hv'⟩ := VRL.get hv (List.getElem?_eq_getElem hi')
  rw [hi] at hu; cases hu
  exact VR.oneCell hv' (toVs_scalar false t x _ (List.getElem_mem hi'))

/-- Elements of a known type, their cells in a row. -/
def Seg (F : Fz) (t : Ty) (ys : List t.D) (cs : List Value) : Prop :=
  cs.length = ys.length * t.size ∧ ∀ i (h : i < ys.length), ∃ ds, TR F t ys[i] ds ∧ ∀ j u, ds[j]? = some u → cs[i * t.size + j]? = some u
theorem Seg.nil {F : Fz} {t : Ty} : Seg F t [] [] := ⟨by simp, fun i h => by simp at h⟩
theorem Seg.els {F : Fz} {t : Ty} {ys : List t.D} {cs : List Value} {g o : Nat} (hs : Seg F t ys cs) (hw : ∀ j u, cs[j]? = some u → wcell w g (o + j) = some u) : Els F w g o t ys := by
  intro i hi
  obtain ⟨ds, h1, h2⟩ := hs.2 i hi
  exact ⟨ds, h1, fun j u hu => hw _ _ (h2 j u hu)⟩
theorem Seg.append {F : Fz} {t : Ty} {ys zs : List t.D} {cs ds : List Value} (h : Seg F t ys cs) (k : Seg F t zs ds) : Seg F t (ys ++ zs) (cs ++ ds) := by
  refine ⟨by simp [h.1, k.1, Nat.add_mul], fun i hi => ?_⟩
  rcases Nat.lt_or_ge i ys.length with hl | hl
  · obtain ⟨d, h1, h2⟩ := h.2 i hl
    refine ⟨d, by rw [List.getElem_append_left hl]; exact h1, fun j u hu => ?_⟩
    have := h2 j u hu
    rw [List.getElem?_append_left (List.getElem?_eq_some_iff.1 this).1]; exact this
  · obtain ⟨d, h1, h2⟩ := k.2 (i - ys.length) (by simp at hi; omega)
    refine ⟨d, by rw [List.getElem_append_right hl]; exact h1, fun j u hu => ?_⟩
    have := h2 j u hu
    have e : ys.length * t.size + (i - ys.length) * t.size = i * t.size := by rw [← Nat.add_mul]; congr 1; omega
    rw [List.getElem?_append_right (by rw [h.1]; omega), h.1]
    rw [show i * t.size + j - ys.length * t.size = (i - ys.length) * t.size + j by omega]
    exact this
theorem Seg.one' {F : Fz} {t : Ty} {ys : List t.D} {cs : List Value} (hs : Seg F t ys cs) (ht : 0 < t.size) : ∀ c ∈ cs, c.oneCell' = true := by
  intro c hc
  obtain ⟨q, hq⟩ := List.mem_iff_getElem?.1 hc
  have hlt := (List.getElem?_eq_some_iff.1 hq).1
  rw [hs.1] at hlt
  have hi : q / t.size < ys.length := by rw [Nat.div_lt_iff_lt_mul ht]; exact hlt
  obtain ⟨ds, h1, h2⟩ := hs.2 (q / t.size) hi
  have hj : q % t.size < ds.length := by rw [TR.length h1]; exact Nat.mod_lt _ ht
  have := h2 (q % t.size) _ (List.getElem?_eq_getElem hj)
  have e : q / t.size * t.size + q % t.size = q := by rw [Nat.mul_comm]; exact Nat.div_add_mod q t.size
  rw [e, hq] at this
  cases this
  exact TR.one h1 _ (List.getElem_mem hj)
theorem Seg.slice {F : Fz} {t : Ty} {ys : List t.D} {cs : List Value} (hs : Seg F t ys cs) {i k : Nat} (h : i + k ≤ ys.length) : Seg F t (W.slice ys i k) ((cs.drop (i * t.size)).take (k * t.size)) := by
  have hle : (i + k) * t.size ≤ ys.length * t.size := Nat.mul_le_mul_right _ h
  rw [Nat.add_mul] at hle
  refine ⟨by rw [slice_length h]; simp [hs.1]; omega, fun j hj => ?_⟩
  have hj' := hj
  rw [slice_length h] at hj'
  obtain ⟨ds, h1, h2⟩ := hs.2 (i + j) (by omega)
  refine ⟨ds, by rw [slice_get h hj]; exact h1, fun q u hu => ?_⟩
  have h3 := h2 q u hu
  have hq : q < t.size := by rw [← TR.length h1]; exact (List.getElem?_eq_some_iff.1 hu).1
  have := el_lt hj' hq
  rw [List.getElem?_take, if_pos this, List.getElem?_drop]
  rw [Nat.add_mul] at h3
  rw [show i * t.size + (j * t.size + q) = i * t.size + j * t.size + q by omega]; exact h3
theorem els_seg {g o : Nat} {t : Ty} {F : Fz} {C : Nat → Nat → Option Value} : ∀ {xs : List t.D} {o : Nat}, (∀ i (h : i < xs.length), ∃ ds, TR F t xs[i] ds ∧ ∀ j u, ds[j]? = some u → C g (o + (i * t.size + j)) = some u) →
    ∃ cs, Seg F t xs cs ∧ ∀ j u, cs[j]? = some u → C g (o + j) = some u
  | [], o, _ => ⟨[], Seg.nil, fun j u hu => by simp at hu⟩
  | x :: xs, o, he => by
    obtain ⟨ds, h1, h2⟩ := he 0 (by simp)
    obtain ⟨cs, h3, h4⟩ := els_seg (xs := xs) (o := o + t.size) (by
      intro i hi
      obtain ⟨ds, h3, h4⟩ := he (i + 1) (by simpa using hi)
      refine ⟨ds, by simpa using h3, fun j u hu => ?_⟩
      have := h4 j u hu
      rw [Nat.add_mul, Nat.one_mul] at this
      rw [show o + t.size + (i * t.size + j) = o + (i * t.size + t.size + j) by omega]
      exact this)
    have hl := TR.length h1
    have hx : Seg F t [x] ds := ⟨by simp [hl], fun i hi => by
      have : i = 0 := by simp at hi; omega
      subst this
      exact ⟨ds, by simpa using h1, fun j u hu => by simpa using hu⟩⟩
    refine ⟨ds ++ cs, hx.append h3, fun j u hu => ?_⟩
    rcases Nat.lt_or_ge j ds.length with hj | hj
    · rw [List.getElem?_append_left hj] at hu
      have := h2 j u hu
      simpa using this
    · rw [List.getElem?_append_right hj] at hu
      have := h4 _ u hu
      rw [show o + t.size + (j - ds.length) = o + j by omega] at this
      exact this

/-- What a slice holds. -/
def Holds' (F : Fz) (w : World) (t : Ty) (ys : List t.D) (c : Value) : Prop :=
  ∃ a cap, c = .slice a ys.length cap ∧ ys.length ≤ cap ∧ cap ≤ maxLen ∧ ∃ cs, Seg F t ys cs ∧ (0 < ys.length → ∃ g o, a = some ⟨g, o, none⟩ ∧ ∀ j u, cs[j]? = some u → w.cell? ⟨g, o + j, none⟩ = some u)
theorem Seg.of_flat {F F' : Fz} {t : Ty} {ys : List t.D} {cs : List Value} (hf : t.flat = true) (hs : Seg F t ys cs) : Seg F' t ys cs :=
  ⟨hs.1, fun i hi => by obtain ⟨ds, h1, h2⟩ := hs.2 i hi; exact ⟨ds, TR.flat hf h1, h2⟩⟩
theorem slice_all {α : Type} {l : List α} {n : Nat} (h : n = l.length) : W.slice l 0 n = l := by subst h; simp [W.slice]
theorem elems_sound {T : Ty} {x : V} {ys : List T.D} {c : Value} (hr : HR Φ w1 π h w) (hx : VR Φ π x c) (he : elems T x h = some ys) : Holds' (Φ false) w T ys c ∧ ∀ n, sliceLen x = some n → n = ys.length := by
  unfold elems at he
  split at he
  · rename_i wb t l
    split at he
    · rename_i hT; subst hT
      split at he
      · cases he
      · rename_i hfl
        cases he
        simp only [VR, TR] at hx
        obtain ⟨a, cap, hc, h1, h2, h3⟩ := hx
        simp only [List.cons.injEq, and_true] at hc
        subst hc
        refine ⟨⟨a, cap, rfl, h1, h2, ?_⟩, fun n hn => by simp only [sliceLen, Option.some.injEq] at hn; exact hn.symm⟩
        rcases Nat.eq_zero_or_pos l.length with h0 | h0
        · have : l = [] := List.length_eq_zero_iff.1 h0
          subst this
          exact ⟨[], Seg.nil, fun h => by simp at h⟩
        · obtain ⟨g, o, rfl, h4⟩ := h3 h0
          obtain ⟨cs, h5, h6⟩ := els_seg (C := Φ wb) (o := o) h4
          refine ⟨cs, ?_, fun _ => ⟨g, o, rfl, fun j u hu => hr.fz wb _ _ _ (h6 j u hu)⟩⟩
          cases wb
          · exact h5
          · exact h5.of_flat (by simpa using hfl)
    · cases he
  · rename_i b sz n
    simp only [VR] at hx
    obtain ⟨A, a, cap, hA, e1, e2, rfl, e4, e5, e6, e7⟩ := hx
    split at he
    · rename_i t xs hb
      split at he
      · rename_i hT; subst hT
        cases he
        obtain ⟨A', hA', hlk⟩ := resB_sound hr 1000 b A hA
        have h4 := hr.get hb (by simp) hA'
        simp only [BR] at h4
        obtain ⟨g1, g2, g3, g4, g5, g6, g7⟩ := h4
        have hn : n = xs.length := by rw [← g2, hlk.len, e2]
        subst hn
        obtain ⟨cs, h5, h6⟩ := els_seg (C := fun g o => wcell w g o) (o := A'.o) g7
        refine ⟨⟨a, cap, rfl, e4, e5, cs, h5, fun h0 => ⟨A.g, A.o, e7 (by have h0' : 0 < xs.length := h0; omega), fun j u hu => ?_⟩⟩, fun n hn => by simp only [sliceLen, Option.some.injEq] at hn; exact hn.symm⟩
        have := h6 j u hu
        rw [hlk.g, hlk.o] at this
        exact wcell_cell this
      · cases he
    · cases he
  · rename_i b sz i n
    simp only [VR] at hx
    obtain ⟨A, a, cap, hA, e1, e2, rfl, e4, e5, e7⟩ := hx
    split at he
    · rename_i t xs hb
      split at he
      · rename_i hT; subst hT
        cases he
        have h4 := hr.get hb (by simp) hA
        simp only [BR] at h4
        obtain ⟨g1, g2, g3, g4, g5, g6, g7⟩ := h4
        have hin : i + n ≤ xs.length := by omega
        obtain ⟨cs, h5, h6⟩ := els_seg (C := fun g o => wcell w g o) (o := A.o) g7
        have hsl := slice_length (l := xs) hin
        refine ⟨⟨a, cap, by dsimp only; rw [hsl], by dsimp only; rw [hsl]; exact e4, e5, _, h5.slice hin, fun h0 => ?_⟩, fun n hn => by simp only [sliceLen, Option.some.injEq] at hn; dsimp only; rw [hsl]; exact hn.symm⟩
        dsimp only at h0
        rw [hsl] at h0
        obtain ⟨_, rfl⟩ := e7 (by omega)
        refine ⟨A.g, _, rfl, fun j u hu => ?_⟩
        rw [List.getElem?_take] at hu
        split at hu
        · rw [List.getElem?_drop] at hu
          have := h6 _ u hu
          rw [← e1, g3, Nat.add_assoc]
          exact wcell_cell this
        · cases hu
      · cases he
    · cases he
  · rename_i b sz i o n
    simp only [VR] at hx
    obtain ⟨A, r, m, a, cap, hA, e1, e2, e3, rfl, e4, e5, e7⟩ := hx
    split at he
    · rename_i t xs hb
      split at he
      · rename_i hT; subst hT
        cases he
        have h4 := hr.get hb (by simp) hA
        simp only [BR] at h4
        obtain ⟨g1, g2, g3, g4, g5, g6, g7, g8, g9⟩ := h4
        have hi' : i < xs.length := by rw [← g6]; exact (List.getElem?_eq_some_iff.1 e2).1
        obtain ⟨r', c, g10, g11, a', cap', g12, g13, g14, g15⟩ := g9 i hi'
        rw [e2] at g10
        simp only [Option.some.injEq, Prod.mk.injEq] at g10
        obtain ⟨rfl, rfl⟩ := g10
        dsimp only
        rw [get_lt hi']
        have hsl := slice_length (l := xs[i]) e3
        refine ⟨⟨a, cap, by rw [hsl], by rw [hsl]; exact e4, e5, ?_⟩, fun n hn => by simp only [sliceLen, Option.some.injEq] at hn; rw [hsl]; exact hn.symm⟩
        rcases Nat.eq_zero_or_pos n with h0 | h0
        · subst h0
          have : W.slice xs[i] o 0 = [] := by simp [W.slice]
          rw [this]
          exact ⟨[], Seg.nil, fun h => by simp at h⟩
        · obtain ⟨q, rfl, rfl⟩ := e7 h0
          obtain ⟨q', hq, f2, f3, f4⟩ := g15 (by omega)
          cases hq
          obtain ⟨cs, h5, h6⟩ := els_seg (C := fun g o => wcell w g o) (o := q.o) f4
          refine ⟨_, h5.slice e3, fun _ => ⟨q.g, _, rfl, fun j u hu => ?_⟩⟩
          rw [List.getElem?_take] at hu
          split at hu
          · rw [List.getElem?_drop] at hu
            have := h6 _ u hu
            rw [← e1, g3, Nat.add_assoc]
            exact wcell_cell this
          · cases hu
      · cases he
    · cases he
  · simp only [Option.some.injEq] at he; subst he
    simp only [VR] at hx; subst hx
    exact ⟨⟨none, 0, rfl, by simp, by simp, [], Seg.nil, fun h => by simp at h⟩, fun n hn => by simp only [sliceLen, Option.some.injEq] at hn; simpa using hn.symm⟩
  · simp only [Option.some.injEq] at he; subst he
    simp only [VR] at hx; obtain ⟨a, rfl⟩ := hx
    exact ⟨⟨a, 0, rfl, by simp, by simp, [], Seg.nil, fun h => by simp at h⟩, fun n hn => by simp only [sliceLen, Option.some.injEq] at hn; simpa using hn.symm⟩
  · simp only [Option.some.injEq] at he; subst he
    simp only [VR] at hx; obtain ⟨A, cap, _, rfl, h1, h2⟩ := hx
    exact ⟨⟨_, cap, rfl, by simp, h2, [], Seg.nil, fun h => by simp at h⟩, fun n hn => by simp only [sliceLen, Option.some.injEq] at hn; simpa using hn.symm⟩
  · cases he

/-! ### strings of bytes -/
theorem conv_sound {a b : TypeId} {x : V} {c : Value} (hr : HR Φ w1 π h w) (hx : VR Φ π x c) (he : EffTo P slot h (convAct P a b x h) v u) :
    u = .no ∧ ∃ cv, (convert a b c).run P w = .ok cv w ∧ VR Φ π v cv := by
  unfold convAct at he
  split at he
  · rename_i k1 k2 h1 h2
    split at he
    · simp only [VR] at hx; obtain ⟨rfl, hw⟩ := hx
      obtain ⟨rfl, rfl⟩ := he
      exact ⟨rfl, _, by simp [convert, run_underlying h1, run_underlying h2, Conv.intToInt, W.wrap], VR.int' (wfI_wrap _ _)⟩
    · exact he.elim
  · rename_i e h1 h2
    split at he
    · rename_i l h3 h4
      rcases he with ⟨hb, rfl, rfl⟩ | ⟨_, hf⟩
      · obtain ⟨⟨a', cap, rfl, g1, g2, cs, g3, g4⟩, _⟩ := elems_sound hr hx h4
        have hstr : W.bytes l = strOfNums l := rfl
        refine ⟨rfl, .string (strOfNums l), ?_, ?_⟩
        · rcases Nat.eq_zero_or_pos l.length with h0 | h0
          · have : l = [] := List.length_eq_zero_iff.1 h0
            subst this
            rw [run_convert_bytes_string w a b e _ _ _ h1 h3 h2]
            cases a' with
            | none => rfl
            | some ad =>
              have := run_bytesToString (P := P) w ad 0 cap []
              simp only [List.map_nil, List.foldl_nil] at this
              exact (this (by simp [loadCells, loadCellsFrom])).trans rfl
          · obtain ⟨g, o, rfl, g5⟩ := g4 h0
            refine run_convert_bytes_arg w a e h1 h3 g o _ cap l rfl (fun i hi => ?_) b h2
            obtain ⟨ds, q1, q2⟩ := g3.2 i hi
            simp only [TR] at q1
            obtain ⟨rfl, _⟩ := q1
            have := g5 _ _ (q2 0 _ rfl)
            simpa [Ty.size, List.getD, List.getElem?_eq_getElem hi] using this
        · simp only [VR]
          refine ⟨by rw [hstr], ?_⟩
          rw [hstr, strOfNums_size]; omega
      · exact hf.elim
    · exact he.elim
  · rename_i h1 h2
    split at he
    · simp only [VR] at hx
      obtain ⟨rfl, rfl⟩ := he
      refine ⟨rfl, c, ?_, by simp only [VR]; exact hx⟩
      rw [hx.1]
      simp [convert, run_underlying h1, run_underlying h2]
    · exact he.elim
  · exact he.elim
end
end Go.Eng
