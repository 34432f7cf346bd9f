/- The engine, part E: addresses of elements, parts of slices, lengths. -/
import Derived.Test.YtdfelkcioeinfaaDoorEnwD
set_option linter.unusedVariables false
set_option linter.unusedSimpArgs false
namespace Go.Eng
open Go Go.RowKit

section
variable {Φ : Fr} {w : World} {π : Pi} {P : Program} {slot : Nat} {h : List Blk} {v : V} {u : Upd}

theorem sliceLen_VR {x : V} {n : Nat} {c : Value} (hs : sliceLen x = some n) (hx : VR Φ π x c) : ∃ a cap, c = .slice a n cap ∧ n ≤ cap ∧ cap ≤ maxLen := by
  cases x <;> simp only [sliceLen, Option.some.injEq, reduceCtorEq] at hs <;> simp only [VR] at hx
  case ro w t l => simp only [TR] at hx; obtain ⟨a, cap, hc, h1, h2, _⟩ := hx; simp at hc; subst hc; subst hs; exact ⟨a, cap, rfl, h1, h2⟩
  case sl => subst hs; obtain ⟨A, a, cap, _, _, _, rfl, h1, h2, _⟩ := hx; exact ⟨a, cap, rfl, h1, h2⟩
  case sv => subst hs; obtain ⟨A, a, cap, _, _, _, rfl, h1, h2, _⟩ := hx; exact ⟨a, cap, rfl, h1, h2⟩
  case sl2 => subst hs; obtain ⟨A, r, m, a, cap, _, _, _, _, rfl, h1, h2, _⟩ := hx; exact ⟨a, cap, rfl, h1, h2⟩
  case csl => subst hs; obtain ⟨A, cap, _, rfl, h1, h2⟩ := hx; exact ⟨_, cap, rfl, h1, h2⟩
  case esl => subst hs; obtain ⟨a, rfl⟩ := hx; exact ⟨a, 0, rfl, by simp, by simp⟩
  case nsl => subst hs; subst hx; exact ⟨none, 0, rfl, by simp, by simp⟩

theorem idx_slice {t e : TypeId} {sz : Nat} (hu : P.underlying t = some (.slice e)) (hs : sizeB P e = some sz) {g o len cap : Nat} {k : IntKind} {n : Int} (h0 : 0 ≤ n) (h1 : n < len) (w : World) :
    (Instr.indexAt t (.slice (some ⟨g, o, none⟩) len cap) (.int k n)).run P w = .ok (pv g (o + n.toNat * sz)) w := by
  simp [Instr.indexAt, asIntOf, run_underlying hu, h0, h1, sizeB_run hs, Addr.add, pv]
theorem idx_array {t e : TypeId} {m sz : Nat} (hu : P.underlying t = some (.array m e)) (hs : sizeB P e = some sz) {g o : Nat} {k : IntKind} {n : Int} (h0 : 0 ≤ n) (h1 : n < m) (w : World) :
    (Instr.indexAt t (pv g o) (.int k n)).run P w = .ok (pv g (o + n.toNat * sz)) w := by
  simp [Instr.indexAt, asIntOf, run_underlying hu, Instr.sureAddr, h0, h1, sizeB_run hs, Addr.add, pv]
theorem inB_t {n : Int} {len : Nat} : inB n len = true ↔ 0 ≤ n ∧ n < len := by
  simp only [inB, W.and2_t, W.le_t, W.lt_t, W.ofNat]

theorem index_sound {t : TypeId} {x i : V} {cx ci : Value} (hx : VR Φ π x cx) (hi : VR Φ π i ci) (he : EffTo P slot h (indexAct P t x i) v u) : u = .no ∧ Gives P Φ π (Instr.indexAt t cx ci) v := by
  unfold indexAct at he
  split at he
  · rename_i e w tt l k n hu
    simp only [VR] at hi
    obtain ⟨rfl, hw⟩ := hi
    split at he
    · exact he.elim
    · rename_i hs
      have hs' : sizeB P e = some tt.size := by simpa using hs
      rcases he with ⟨hb, rfl, rfl⟩ | ⟨_, hf⟩
      · obtain ⟨h0, h1⟩ := inB_t.1 hb
        refine ⟨rfl, fun w => ?_⟩
        simp only [VR, TR] at hx
        simp only [W.len] at h1
        obtain ⟨a, cap, hc, hl, hm, hrow⟩ := hx
        simp at hc; subst hc
        have hlt : n.toNat < l.length := by omega
        obtain ⟨g, off, rfl, hcells⟩ := hrow (by omega)
        obtain ⟨ds, hds, hcell⟩ := hcells n.toNat hlt
        refine ⟨_, idx_slice hu hs' h0 h1 w, ?_⟩
        simp only [VR]
        refine ⟨g, off + n.toNat * tt.size, ds, rfl, ?_, fun j u hj => ?_⟩
        · simp only [W.get, W.toNat]
          rw [List.getD_eq_getElem?_getD, List.getElem?_eq_getElem hlt]
          exact hds
        · rw [Nat.add_assoc]; exact hcell j u hj
      · exact hf.elim
  · rename_i e b sz len k n hu
    simp only [VR] at hi
    obtain ⟨rfl, hw⟩ := hi
    split at he
    · exact he.elim
    · rename_i hs
      have hs' : sizeB P e = some sz := by simpa using hs
      rcases he with ⟨hb, rfl, rfl⟩ | ⟨_, hf⟩
      · obtain ⟨h0, h1⟩ := inB_t.1 hb
        simp only [VR] at hx
        obtain ⟨A, a, cap, hA, e1, e2, rfl, h2, h3, h4, h5⟩ := hx
        obtain rfl := h5 (by omega)
        refine ⟨rfl, fun w => ⟨_, idx_slice hu hs' h0 h1 w, ?_⟩⟩
        split
        · simp only [VR, W.toNat]; exact ⟨A, hA, by omega, by rw [e1]⟩
        · simp only [VR, W.toNat]; exact ⟨A, hA, by omega, by rw [e1]; rfl⟩
      · exact hf.elim
  · rename_i e b sz o len k n hu
    simp only [VR] at hi
    obtain ⟨rfl, hw⟩ := hi
    split at he
    · exact he.elim
    · rename_i hs
      have hs' : sizeB P e = some sz := by
        simp only [Bool.or_eq_true, not_or] at hs; simpa using hs.1
      rcases he with ⟨hb, rfl, rfl⟩ | ⟨_, hf⟩
      · obtain ⟨h0, h1⟩ := inB_t.1 hb
        simp only [VR] at hx
        obtain ⟨A, a, cap, hA, e1, e2, rfl, h2, h3, h5⟩ := hx
        obtain ⟨h4, rfl⟩ := h5 (by omega)
        refine ⟨rfl, fun w => ⟨_, idx_slice hu hs' h0 h1 w, ?_⟩⟩
        simp only [VR, W.toNat, W.addN]; exact ⟨A, hA, by omega, by rw [e1, Nat.add_mul, Nat.add_zero, Nat.add_assoc]⟩
      · exact hf.elim
  · rename_i e b sz i o len k n hu
    simp only [VR] at hi
    obtain ⟨rfl, hw⟩ := hi
    split at he
    · exact he.elim
    · rename_i hs
      have hs' : sizeB P e = some sz := by simpa using hs
      rcases he with ⟨hb, rfl, rfl⟩ | ⟨_, hf⟩
      · obtain ⟨h0, h1⟩ := inB_t.1 hb
        simp only [VR] at hx
        obtain ⟨A, r, m, a, cap, hA, e1, e2, e3, rfl, h2, h3, h5⟩ := hx
        obtain ⟨q, rfl, rfl⟩ := h5 (by omega)
        refine ⟨rfl, fun w => ⟨_, idx_slice hu hs' h0 h1 w, ?_⟩⟩
        simp only [VR, W.toNat, W.addN]; exact ⟨A, q, m, hA, e2, by omega, by rw [e1, Nat.add_mul, Nat.add_zero, Nat.add_assoc]⟩
      · exact hf.elim
  · rename_i e b off sz len k n hu
    simp only [VR] at hi
    obtain ⟨rfl, hw⟩ := hi
    split at he
    · exact he.elim
    · rename_i hs
      have hs' : sizeB P e = some sz := by simpa using hs
      rcases he with ⟨hb, rfl, rfl⟩ | ⟨_, hf⟩
      · obtain ⟨h0, h1⟩ := inB_t.1 hb
        simp only [VR] at hx
        obtain ⟨A, cap, hA, rfl, h2, h3⟩ := hx
        refine ⟨rfl, fun w => ⟨_, idx_slice hu hs' h0 h1 w, ?_⟩⟩
        simp only [VR]; exact ⟨A, hA, by rw [Nat.add_assoc]⟩
      · exact hf.elim
  · rename_i m e b off k n hu
    simp only [VR] at hi hx
    obtain ⟨rfl, hw⟩ := hi
    obtain ⟨A, hA, rfl⟩ := hx
    split at he
    · rename_i s hs
      rcases he with ⟨hb, rfl, rfl⟩ | ⟨_, hf⟩
      · obtain ⟨h0, h1⟩ := inB_t.1 hb
        exact ⟨rfl, fun w => ⟨_, idx_array hu hs h0 h1 w, by simp only [VR]; exact ⟨A, hA, by rw [Nat.add_assoc]⟩⟩⟩
      · exact hf.elim
    · exact he.elim
  · rename_i m e b len sz k n hu
    simp only [VR] at hi hx
    obtain ⟨rfl, hw⟩ := hi
    obtain ⟨A, hA, e1, e2, _, _, rfl⟩ := hx
    split at he
    · exact he.elim
    · rename_i hs
      simp only [Bool.or_eq_true, not_or, bne_iff_ne, ne_eq, Decidable.not_not] at hs
      obtain ⟨hs', rfl⟩ := hs
      rcases he with ⟨hb, rfl, rfl⟩ | ⟨_, hf⟩
      · obtain ⟨h0, h1⟩ := inB_t.1 hb
        exact ⟨rfl, fun w => ⟨_, idx_array hu hs' h0 h1 w, by simp only [VR, W.toNat]; exact ⟨A, hA, by omega, by rw [e2]; rfl⟩⟩⟩
      · exact hf.elim
  · exact he.elim

theorem max2_sound {x y z : V} {cx cy : Value} (hx : VR Φ π x cx) (hy : VR Φ π y cy) (hz : max2V x y = some z) : ∃ c, (∀ w, (Builtin.max2 cx cy).run P w = .ok c w) ∧ VR Φ π z c := by
  unfold max2V at hz
  split at hz
  · simp only [VR] at hx hy; obtain ⟨rfl, ha⟩ := hx; obtain ⟨rfl, hb⟩ := hy
    split at hz
    · rename_i hk; subst hk; cases hz
      refine ⟨_, fun w => rfl, ?_⟩
      simp only [VR, W.max]
      exact ⟨trivial, by split <;> assumption⟩
    · cases hz
  · cases hz
theorem min2_sound {x y z : V} {cx cy : Value} (hx : VR Φ π x cx) (hy : VR Φ π y cy) (hz : min2V x y = some z) : ∃ c, (∀ w, (Builtin.min2 cx cy).run P w = .ok c w) ∧ VR Φ π z c := by
  unfold min2V at hz
  split at hz
  · simp only [VR] at hx hy; obtain ⟨rfl, ha⟩ := hx; obtain ⟨rfl, hb⟩ := hy
    split at hz
    · rename_i hk; subst hk; cases hz
      refine ⟨_, fun w => rfl, ?_⟩
      simp only [VR, W.min]
      exact ⟨trivial, by split <;> assumption⟩
    · cases hz
  · cases hz
theorem fold_sound {f : V → V → Option V} {F : Value → Value → Sem Value} (hf : ∀ {x y z : V} {cx cy : Value}, VR Φ π x cx → VR Φ π y cy → f x y = some z → ∃ c, (∀ w, (F cx cy).run P w = .ok c w) ∧ VR Φ π z c) :
    ∀ {l : List V} {m : List Value} {x z : V} {cx : Value}, VR Φ π x cx → VRL Φ π l m → foldV f x l = some z → ∃ c, (∀ w, (m.foldlM F cx).run P w = .ok c w) ∧ VR Φ π z c
  | [], m, x, z, cx, hx, hl, hz => by
    simp [foldV] at hz; subst hz
    have := VRL.nil hl; subst this
    exact ⟨cx, fun w => by simp, hx⟩
  | y :: l, m, x, z, cx, hx, hl, hz => by
    obtain ⟨cy, m', rfl, hy, hl'⟩ := VRL.cons hl
    simp only [foldV] at hz
    cases hr : f x y with
    | none => simp [hr] at hz
    | some q =>
      simp only [hr, Option.bind_some] at hz
      obtain ⟨c, hc, hv⟩ := hf hx hy hr
      obtain ⟨c2, hc2, hv2⟩ := fold_sound hf hv hl' hz
      exact ⟨c2, fun w => by simp [List.foldlM_cons, hc, hc2], hv2⟩


/-! ### parts of slices -/
theorem num_VR {x : V} {n : Int} {c : Value} (hs : x.num? = some n) (hx : VR Φ π x c) : ∃ k, c = .int k n := by
  cases x <;> simp [V.num?] at hs
  subst hs
  simp only [VR] at hx
  exact ⟨_, hx.1⟩
theorem bound_run {k : IntKind} {n : Int} {y : Nat} {code : BoundsCode} (h0 : 0 ≤ n) (h1 : n ≤ y) (w : World) : (Instr.sliceBound (.int k n) y code).run P w = .ok n.toNat w := by
  simp [Instr.sliceBound, asIntOf, h0, h1]
theorem cut_run {ρ : Operand → V} {ρ' : Operand → Value} {n len cap i k : Nat} {lo hi mx : Option Operand} (hn : n = len) (hcap : len ≤ cap)
    (h1 : ∀ x, lo = some x → VR Φ π (ρ x) (ρ' x)) (h2 : ∀ x, hi = some x → VR Φ π (ρ x) (ρ' x)) (h3 : ∀ x, mx = some x → VR Φ π (ρ x) (ρ' x))
    {c : Bool} (hc : cutB n (lo.map ρ) (hi.map ρ) (mx.map ρ) = some (c, i, k)) (ht : c = true) (sl : Bool) (w : World) :
    ∃ m, (Instr.sliceBounds sl len cap (lo.map ρ') (hi.map ρ') (mx.map ρ')).run P w = .ok (i, i + k, m) w ∧ i + k ≤ len ∧ i + k ≤ m ∧ m ≤ cap ∧ (mx = none → m = cap) := by
  subst hn
  cases mx with
  | none =>
    cases lo with
    | none =>
      cases hi with
      | none =>
        simp only [Option.map_none, cutB, Option.some.injEq, Prod.mk.injEq] at hc
        obtain ⟨_, rfl, rfl⟩ := hc
        exact ⟨cap, by simp [Instr.sliceBounds], by omega, by omega, by omega, fun _ => rfl⟩
      | some y =>
        simp only [Option.map_none, Option.map_some, cutB] at hc
        split at hc
        · rename_i b hb
          obtain ⟨kk, e⟩ := num_VR hb (h2 y rfl)
          simp only [Option.some.injEq, Prod.mk.injEq] at hc
          obtain ⟨rfl, rfl, rfl⟩ := hc
          simp only [W.and2_t, W.le_t, W.ofNat] at ht
          refine ⟨cap, ?_, by simp only [W.toNat]; omega, by simp only [W.toNat]; omega, by omega, fun _ => rfl⟩
          simp [Instr.sliceBounds, e, bound_run ht.1 (show b ≤ cap by omega), W.toNat]
        · cases hc
    | some x =>
      cases hi with
      | none =>
        simp only [Option.map_none, Option.map_some, cutB] at hc
        split at hc
        · rename_i a ha
          obtain ⟨kk, e⟩ := num_VR ha (h1 x rfl)
          simp only [Option.some.injEq, Prod.mk.injEq] at hc
          obtain ⟨rfl, rfl, rfl⟩ := hc
          simp only [W.and2_t, W.le_t, W.ofNat] at ht
          refine ⟨cap, ?_, by simp only [W.toNat, W.subN]; omega, by simp only [W.toNat, W.subN]; omega, by omega, fun _ => rfl⟩
          simp [Instr.sliceBounds, e, bound_run ht.1 ht.2, W.toNat, W.subN]
          omega
        · cases hc
      | some y =>
        simp only [Option.map_none, Option.map_some, cutB] at hc
        split at hc
        · rename_i a b ha hb
          obtain ⟨kk, e⟩ := num_VR ha (h1 x rfl)
          obtain ⟨kk', e'⟩ := num_VR hb (h2 y rfl)
          simp only [Option.some.injEq, Prod.mk.injEq] at hc
          obtain ⟨rfl, rfl, rfl⟩ := hc
          simp only [W.and2_t, W.le_t, W.ofNat] at ht
          refine ⟨cap, ?_, by simp only [W.toNat, W.subN]; omega, by simp only [W.toNat, W.subN]; omega, by omega, fun _ => rfl⟩
          simp [Instr.sliceBounds, e, e', bound_run (show 0 ≤ b by omega) (show b ≤ cap by omega), bound_run ht.1 (show a ≤ (b.toNat : Int) by omega), W.toNat, W.subN]
          omega
        · cases hc
  | some z =>
    cases lo with
    | none =>
      cases hi with
      | none => simp [cutB] at hc
      | some y =>
        simp only [Option.map_none, Option.map_some, cutB] at hc
        split at hc
        · rename_i b m hb hm
          obtain ⟨kk, e⟩ := num_VR hb (h2 y rfl)
          obtain ⟨kk', e'⟩ := num_VR hm (h3 z rfl)
          simp only [Option.some.injEq, Prod.mk.injEq] at hc
          obtain ⟨rfl, rfl, rfl⟩ := hc
          simp only [W.and2_t, W.le_t, W.ofNat] at ht
          refine ⟨m.toNat, ?_, by simp only [W.toNat]; omega, by simp only [W.toNat]; omega, by omega, fun h => by cases h⟩
          simp [Instr.sliceBounds, e, e', bound_run (show 0 ≤ m by omega) (show m ≤ cap by omega), bound_run ht.1 (show b ≤ (m.toNat : Int) by omega), W.toNat]
        · cases hc
    | some x =>
      cases hi with
      | none => simp [cutB] at hc
      | some y =>
        simp only [Option.map_some, cutB] at hc
        split at hc
        · rename_i a b m ha hb hm
          obtain ⟨kk, e⟩ := num_VR ha (h1 x rfl)
          obtain ⟨kk', e'⟩ := num_VR hb (h2 y rfl)
          obtain ⟨kk'', e''⟩ := num_VR hm (h3 z rfl)
          simp only [Option.some.injEq, Prod.mk.injEq] at hc
          obtain ⟨rfl, rfl, rfl⟩ := hc
          simp only [W.and2_t, W.le_t, W.ofNat] at ht
          refine ⟨m.toNat, ?_, by simp only [W.toNat, W.subN]; omega, by simp only [W.toNat, W.subN]; omega, by omega, fun h => by cases h⟩
          simp [Instr.sliceBounds, e, e', e'', bound_run (show 0 ≤ m by omega) (show m ≤ cap by omega), bound_run (show 0 ≤ b by omega) (show b ≤ (m.toNat : Int) by omega), bound_run ht.1 (show a ≤ (b.toNat : Int) by omega), W.toNat, W.subN]
          omega
        · cases hc

theorem slice_length {α : Type} {l : List α} {i k : Nat} (h : i + k ≤ l.length) : (W.slice l i k).length = k := by
  simp [W.slice]; omega
theorem slice_get {α : Type} {l : List α} {i k j : Nat} (h : i + k ≤ l.length) (hj : j < (W.slice l i k).length) : (W.slice l i k)[j] = l[i + j]'(by rw [slice_length h] at hj; omega) := by
  simp [W.slice]
theorem TR.cut {F : Fz} {t : Ty} {l : List t.D} {a : Option Addr} {len cap i k m : Nat} (hx : TR F (.slice t) l [.slice a len cap]) (h1 : i + k ≤ l.length) (h2 : i + k ≤ m) (h3 : m ≤ cap) :
    TR F (.slice t) (W.slice l i k) [.slice (if m = i then a else a.map (·.add (i * t.size))) k (m - i)] := by
  simp only [TR] at hx ⊢
  obtain ⟨a', cap', hc, hl, hm, hrow⟩ := hx
  simp only [List.cons.injEq, Value.slice.injEq, and_true] at hc
  obtain ⟨rfl, rfl, rfl⟩ := hc
  refine ⟨_, m - i, by rw [slice_length h1], by rw [slice_length h1]; omega, by omega, fun h0 => ?_⟩
  rw [slice_length h1] at h0
  obtain ⟨g, off, rfl, hcells⟩ := hrow (by omega)
  refine ⟨g, off + i * t.size, ?_, fun j hj => ?_⟩
  · rw [if_neg (by omega)]
    simp [Addr.add]
  · have hj' := hj
    rw [slice_length h1] at hj'
    obtain ⟨ds, h4, h5⟩ := hcells (i + j) (by omega)
    refine ⟨ds, by rw [slice_get h1 hj]; exact h4, fun q u hu => ?_⟩
    have := h5 q u hu
    rw [Nat.add_mul] at this
    rw [show off + i * t.size + (j * t.size + q) = off + (i * t.size + j * t.size + q) by omega]
    exact this

theorem sliceAt_slice {t e : TypeId} {size : Nat} (hu : P.underlying t = some (.slice e)) (hs : sizeB P e = some size) {a : Option Addr} {len cap l hh m : Nat} {lo hi mx : Option Value} {w : World}
    (hb : (Instr.sliceBounds true len cap lo hi mx).run P w = .ok (l, hh, m) w) : (Instr.sliceAt t (.slice a len cap) lo hi mx).run P w = .ok (.slice (if m = l then a else a.map (·.add (l * size))) (hh - l) (m - l)) w := by
  simp [Instr.sliceAt, Instr.slice, run_underlying hu, hb, sizeB_run hs]
theorem slice_sound {t : TypeId} {x : Operand} {lo hi mx : Option Operand} {ρ : Operand → V} {ρ' : Operand → Value} (hx : VR Φ π (ρ x) (ρ' x))
    (h1 : ∀ x, lo = some x → VR Φ π (ρ x) (ρ' x)) (h2 : ∀ x, hi = some x → VR Φ π (ρ x) (ρ' x)) (h3 : ∀ x, mx = some x → VR Φ π (ρ x) (ρ' x))
    (he : EffTo P slot h (sliceAct P t (ρ x) (lo.map ρ) (hi.map ρ) (mx.map ρ)) v u) : u = .no ∧ Gives P Φ π (Instr.sliceAt t (ρ' x) (lo.map ρ') (hi.map ρ') (mx.map ρ')) v := by
  unfold sliceAct at he
  split at he
  · rename_i e hu
    split at he
    · exact he.elim
    rename_i hsz0
    obtain ⟨sz0, hsz⟩ : ∃ z, sizeB P e = some z := by
      cases hq : sizeB P e with
      | none => rw [hq] at hsz0; exact absurd rfl hsz0
      | some z => exact ⟨z, rfl⟩
    split at he
    · exact he.elim
    rename_i n hn
    obtain ⟨a0, cap0, hv, hnc, hmc⟩ := sliceLen_VR hn hx
    split at he
    · rename_i hz
      simp only [Bool.and_eq_true] at hz
      obtain ⟨⟨z1, z3⟩, z2⟩ := hz
      obtain ⟨rfl, rfl⟩ := he
      have hlo : lo = none := by cases lo <;> simp at z1; rfl
      subst hlo
      have key : ∀ (q : Option Operand), (∀ x, q = some x → VR Φ π (ρ x) (ρ' x)) → zeroV (q.map ρ) = true → ∃ y k, q = some y ∧ ρ' y = .int k 0 := by
        intro q hq hzq
        cases q with
        | none => simp [zeroV] at hzq
        | some y =>
          simp only [Option.map_some] at hzq
          unfold zeroV at hzq
          split at hzq
          · rename_i k n' hy
            simp only [Option.some.injEq] at hy
            split at hzq
            · have := hq y rfl
              rw [hy] at this
              simp only [VR] at this
              exact ⟨y, k, rfl, this.1⟩
            · cases hzq
          · cases hzq
      obtain ⟨y1, k1, rfl, e1⟩ := key hi h2 z2
      obtain ⟨y2, k2, rfl, e2⟩ := key mx h3 z3
      refine ⟨rfl, fun w => ⟨.slice a0 0 0, ?_, by simp only [VR]; exact ⟨_, rfl⟩⟩⟩
      rw [hv]
      have hb : (Instr.sliceBounds true n cap0 (Option.map ρ' none) ((some y1).map ρ') ((some y2).map ρ')).run P w = .ok (0, 0, 0) w := by
        simp only [Option.map_none, Option.map_some, Instr.sliceBounds, e1, e2, Sem.run_bind, bound_run (Int.le_refl 0) (show (0 : Int) ≤ cap0 by omega), Result.andThen_ok, Int.toNat_zero, bound_run (Int.le_refl 0) (show (0 : Int) ≤ (0 : Nat) by omega), Sem.run_pure]
      rw [sliceAt_slice hu hsz hb]
      simp
    · split at he
      · exact he.elim
      rename_i c i k hcut
      have hrun := fun ht => fun w => cut_run (P := P) rfl hnc h1 h2 h3 hcut ht true w
      cases hq : ρ x <;> rw [hq] at he hx hn <;> simp only [sliceLen, Option.some.injEq, reduceCtorEq] at hn <;> simp only [] at he <;> (try exact he.elim)
      case ro wb tt l =>
        subst hn
        split at he
        · exact he.elim
        rename_i hs
        have hs' : sizeB P e = some tt.size := by simpa using hs
        rcases he with ⟨hc, rfl, rfl⟩ | ⟨_, hf⟩
        · refine ⟨rfl, fun w => ?_⟩
          obtain ⟨m, hb, g1, g2, g3, _⟩ := hrun hc w
          rw [hv]
          refine ⟨_, sliceAt_slice hu hs' hb, ?_⟩
          rw [hv] at hx
          simp only [VR] at hx ⊢
          rw [Nat.add_sub_cancel_left]
          exact TR.cut hx g1 g2 g3
        · exact hf.elim
      case sl b sz n' =>
        subst hn
        split at he
        · exact he.elim
        rename_i hs
        have hs' : sizeB P e = some sz := by simpa using hs
        simp only [VR] at hx
        obtain ⟨A, a, cap, hA, e1, e2, e3, e4, e5, e6, e7⟩ := hx
        rw [hv] at e3
        simp only [Value.slice.injEq, true_and] at e3
        obtain ⟨rfl, rfl⟩ := e3
        split at he
        · rename_i hz
          simp only [Bool.and_eq_true] at hz
          obtain ⟨rfl, rfl⟩ := he
          have hlo : lo = none := by cases lo <;> simp at hz; rfl
          have hhi : hi = none := by cases hi <;> simp at hz; rfl
          subst hlo; subst hhi
          have hmx : mx = none := by cases mx with
            | none => rfl
            | some z => simp [cutB] at hcut
          subst hmx
          simp only [Option.map_none, cutB, Option.some.injEq, Prod.mk.injEq] at hcut
          obtain ⟨hc, rfl, rfl⟩ := hcut
          refine ⟨rfl, fun w => ?_⟩
          obtain ⟨m, hb, g1, g2, g3, g4⟩ := hrun hc.symm w
          rw [hv]
          refine ⟨_, sliceAt_slice hu hs' hb, ?_⟩
          simp only [VR]
          refine ⟨A, _, _, hA, e1, e2, by rw [Nat.zero_add, Nat.sub_zero], by omega, by omega, ?_, fun h0 => ?_⟩
          · rw [g4 rfl, Nat.sub_zero]; exact e6
          · have := g4 rfl
            rw [if_neg (by omega), e7 (by omega)]
            simp [Addr.add]
        · rcases he with ⟨hc, rfl, rfl⟩ | ⟨_, hf⟩
          · refine ⟨rfl, fun w => ?_⟩
            obtain ⟨m, hb, g1, g2, g3, _⟩ := hrun hc w
            rw [hv]
            refine ⟨_, sliceAt_slice hu hs' hb, ?_⟩
            simp only [VR]
            refine ⟨A, _, _, hA, e1, by omega, by rw [Nat.add_sub_cancel_left], by omega, by omega, fun h0 => ⟨?_, ?_⟩⟩
            · refine Nat.le_trans (Nat.mul_le_mul_right _ (show i + (m - i) ≤ _ by omega)) e6
            · rw [if_neg (by omega), e7 (by omega)]
              simp [Addr.add]
          · exact hf.elim
      case sv b sz o n' =>
        subst hn
        split at he
        · exact he.elim
        rename_i hs
        have hs' : sizeB P e = some sz := by simpa using hs
        simp only [VR] at hx
        obtain ⟨A, a, cap, hA, e1, e2, e3, e4, e5, e7⟩ := hx
        rw [hv] at e3
        simp only [Value.slice.injEq, true_and] at e3
        obtain ⟨rfl, rfl⟩ := e3
        rcases he with ⟨hc, rfl, rfl⟩ | ⟨_, hf⟩
        · refine ⟨rfl, fun w => ?_⟩
          obtain ⟨m, hb, g1, g2, g3, _⟩ := hrun hc w
          rw [hv]
          refine ⟨_, sliceAt_slice hu hs' hb, ?_⟩
          simp only [VR, W.addN]
          refine ⟨A, _, _, hA, e1, by omega, by rw [Nat.add_sub_cancel_left], by omega, by omega, fun h0 => ⟨?_, ?_⟩⟩
          · refine Nat.le_trans (Nat.mul_le_mul_right _ (show o + i + (m - i) ≤ o + _ by omega)) (e7 (by omega)).1
          · rw [if_neg (by omega), (e7 (by omega)).2]
            simp [Addr.add, Nat.add_mul, Nat.add_assoc]
        · exact hf.elim
      case sl2 b sz j o n' =>
        subst hn
        split at he
        · exact he.elim
        rename_i hs
        have hs' : sizeB P e = some sz := by simpa using hs
        simp only [VR] at hx
        obtain ⟨A, r, q, a, cap, hA, e1, e2, e3, e4, e5, e6, e7⟩ := hx
        rw [hv] at e4
        simp only [Value.slice.injEq, true_and] at e4
        obtain ⟨rfl, rfl⟩ := e4
        rcases he with ⟨hc, rfl, rfl⟩ | ⟨_, hf⟩
        · refine ⟨rfl, fun w => ?_⟩
          obtain ⟨m, hb, g1, g2, g3, _⟩ := hrun hc w
          rw [hv]
          refine ⟨_, sliceAt_slice hu hs' hb, ?_⟩
          simp only [VR, W.addN]
          refine ⟨A, r, q, _, _, hA, e1, e2, by omega, by rw [Nat.add_sub_cancel_left], by omega, by omega, fun h0 => ?_⟩
          obtain ⟨z, rfl, e8⟩ := e7 (by omega)
          refine ⟨z, rfl, ?_⟩
          rw [if_neg (by omega), e8]
          simp [Addr.add, Nat.add_mul, Nat.add_assoc]
        · exact hf.elim
      case esl =>
        subst hn
        rcases he with ⟨hc, rfl, rfl⟩ | ⟨_, hf⟩
        · refine ⟨rfl, fun w => ?_⟩
          obtain ⟨m, hb, g1, g2, g3, _⟩ := hrun hc w
          simp only [VR] at hx
          obtain ⟨a, e1⟩ := hx
          rw [hv] at e1
          simp only [Value.slice.injEq, true_and] at e1
          obtain ⟨rfl, rfl⟩ := e1
          rw [hv]
          refine ⟨_, sliceAt_slice hu hsz hb, ?_⟩
          simp only [VR]
          rw [show i + k - i = 0 by omega, show m - i = 0 by omega]
          exact ⟨_, rfl⟩
        · exact hf.elim
      case nsl =>
        subst hn
        rcases he with ⟨hc, rfl, rfl⟩ | ⟨_, hf⟩
        · refine ⟨rfl, fun w => ?_⟩
          obtain ⟨m, hb, g1, g2, g3, _⟩ := hrun hc w
          simp only [VR] at hx
          rw [hv] at hx
          simp only [Value.slice.injEq, true_and] at hx
          obtain ⟨rfl, rfl⟩ := hx
          rw [hv]
          refine ⟨_, sliceAt_slice hu hsz hb, ?_⟩
          simp only [VR]
          rw [show i + k - i = 0 by omega, show m - i = 0 by omega]
          simp
        · exact hf.elim
  · rename_i hu
    split at he
    · rename_i s hs hm
      have hmx : mx = none := by cases mx <;> simp at hm; rfl
      subst hmx
      rw [hs] at hx
      simp only [VR] at hx
      split at he
      · rename_i c i k hcut
        rcases he with ⟨hc, rfl, rfl⟩ | ⟨_, hf⟩
        · refine ⟨rfl, fun w => ?_⟩
          obtain ⟨m, hb, g1, g2, g3, _⟩ := cut_run (P := P) (mx := none) (len := s.size) rfl (Nat.le_refl _) h1 h2 h3 hcut hc false w
          refine ⟨.string (s.extract i (i + k)), ?_, ?_⟩
          · simp only [Option.map_none] at hb
            simp [Instr.sliceAt, Instr.slice, run_underlying hu, hx.1, hb]
          · simp only [VR, W.cut, true_and]
            have := hx.2
            simp
            omega
        · exact hf.elim
      · exact he.elim
    · exact he.elim
  · rename_i m e hu
    split at he
    · rename_i b n sz hq
      rw [hq] at hx
      simp only [VR] at hx
      obtain ⟨A, hA, e1, e2, e3, e4, hv⟩ := hx
      split at he
      · exact he.elim
      rename_i hs
      simp only [Bool.or_eq_true, not_or, bne_iff_ne, ne_eq, Decidable.not_not] at hs
      obtain ⟨hs', rfl⟩ := hs
      split at he
      · rename_i c i k hcut
        have hrun := fun ht => fun w => cut_run (P := P) rfl (Nat.le_refl _) h1 h2 h3 hcut ht false w
        have hat : ∀ {l hh q : Nat} {w : World}, (Instr.sliceBounds false m m (lo.map ρ') (hi.map ρ') (mx.map ρ')).run P w = .ok (l, hh, q) w →
            (Instr.sliceAt t (ρ' x) (lo.map ρ') (hi.map ρ') (mx.map ρ')).run P w = .ok (.slice (some (if q = l then ⟨A.g, A.o, none⟩ else (⟨A.g, A.o, none⟩ : Addr).add (l * sz))) (hh - l) (q - l)) w := by
          intro l hh q w hb
          simp [Instr.sliceAt, run_underlying hu, hv, pv, Instr.sureAddr, hb, sizeB_run hs']
        split at he
        · rename_i hz
          simp only [Bool.and_eq_true] at hz
          obtain ⟨⟨z1, z2⟩, z3⟩ := hz
          obtain ⟨rfl, rfl⟩ := he
          have hlo : lo = none := by cases lo <;> simp at z1; rfl
          have hhi : hi = none := by cases hi <;> simp at z2; rfl
          have hmx : mx = none := by cases mx <;> simp at z3; rfl
          subst hlo; subst hhi; subst hmx
          simp only [Option.map_none, cutB, Option.some.injEq, Prod.mk.injEq] at hcut
          obtain ⟨hc, rfl, rfl⟩ := hcut
          refine ⟨rfl, fun w => ?_⟩
          obtain ⟨q, hb, g1, g2, g3, g4⟩ := hrun hc.symm w
          refine ⟨_, hat hb, ?_⟩
          simp only [VR]
          have := g4 rfl
          subst this
          refine ⟨A, _, _, hA, e2, e1, by rw [Nat.zero_add, Nat.sub_zero], by omega, by omega, by simpa using e3, fun h0 => ?_⟩
          rw [if_neg (by omega)]
          simp [Addr.add]
        · rcases he with ⟨hc, rfl, rfl⟩ | ⟨_, hf⟩
          · refine ⟨rfl, fun w => ?_⟩
            obtain ⟨q, hb, g1, g2, g3, g4⟩ := hrun hc w
            refine ⟨_, hat hb, ?_⟩
            simp only [VR]
            refine ⟨A, _, _, hA, e2, by omega, by rw [Nat.add_sub_cancel_left], by omega, by omega, fun h0 => ⟨?_, ?_⟩⟩
            · refine Nat.le_trans (Nat.mul_le_mul_right _ (show i + (q - i) ≤ m by omega)) e3
            · rw [if_neg (by omega)]
              simp [Addr.add]
          · exact hf.elim
      · exact he.elim
    · exact he.elim
  · exact he.elim

theorem len_sound {t ty : TypeId} {x : V} {c : Value} {ts : Array TypeId} (ht : ts[0]? = some t) (hx : VR Φ π x c) (he : EffTo P slot h (lenAct P t x) v u) :
    u = .no ∧ Gives P Φ π (Builtin.len_ ts ty #[c]) v := by
  unfold lenAct at he
  split at he
  · rename_i e hu
    split at he
    · rename_i n hn
      obtain ⟨rfl, rfl⟩ := he
      obtain ⟨a, cap, rfl, h1, h2⟩ := sliceLen_VR hn hx
      exact ⟨rfl, fun w => ⟨_, by simp [Builtin.len_, ht, run_underlying hu, goInt, W.ofNat], VR.int' (wfI_nat _ (by omega))⟩⟩
    · exact he.elim
  · rename_i hu
    split at he
    · obtain ⟨rfl, rfl⟩ := he
      simp only [VR] at hx; obtain ⟨rfl, hs⟩ := hx
      exact ⟨rfl, fun w => ⟨_, by simp [Builtin.len_, ht, run_underlying hu, goInt, W.ofNat, W.size], VR.int' (wfI_nat _ hs)⟩⟩
    · exact he.elim
  · rename_i n e hu
    split at he
    · rename_i hn
      obtain ⟨rfl, rfl⟩ := he
      exact ⟨rfl, fun w => ⟨_, by simp [Builtin.len_, ht, run_underlying hu, goInt, W.ofNat], VR.int' (wfI_nat _ (by simp [maxLen]; omega))⟩⟩
    · exact he.elim
  · exact he.elim

theorem stringIndex_sound {t : TypeId} {s : ByteArray} {k : IntKind} {n : Int} (hu : P.underlying t = some .string) (h0 : 0 ≤ n) (h1 : n < s.size) (w : World) :
    (Instr.index t (.string s) (.int k n)).run P w = .ok (.int .u8 (W.byte s (W.toNat n))) w := by
  have hlt : n.toNat < s.size := by omega
  simp [Instr.index, asIntOf, run_underlying hu, h0, W.byte, W.toNat, hlt, getElem?_pos]
end
end Go.Eng
