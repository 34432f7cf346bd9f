/- The engine, part P: what is lent and what is given away; calls; every operation. -/
import Derived.Test.YtdfelkcioeinfaaDoorEnwO
set_option linter.unusedVariables false
set_option linter.unusedSimpArgs false
namespace Go.Eng
open Go Go.RowKit

section
variable {Φ Ψ : Fr} {w w' w1 : World} {π : Pi} {P : Program} {h : List Blk} {slot : Nat} {v : V} {u : Upd}

theorem eqI_int {t a : TypeId} {ms : Array (String × TypeId)} {i : TypeInfo} {q k : IntKind} {n m : Int} (hu : P.underlying t = some (.interface ms)) (hi : P.info? a = some i) (hc : i.comparable = true) (hua : P.underlying a = some (.int q)) (d : Nat) (w : World) :
    (Op.equalIn (d + 2) t (.iface a (.int k n)) (.iface a (.int k m))).run P w = .ok (n == m) w := by
  have h1 : ∀ w, (Op.equalIn (d + 1) a (.int k n) (.int k m)).run P w = .ok (n == m) w := by
    intro w
    rw [Op.equalIn]
    simp only [Sem.run_bind, run_underlying hua, Result.andThen_ok, if_true, Sem.run_pure]
  rw [Op.equalIn]
  simp only [Sem.run_bind, run_underlying hu, Result.andThen_ok, ne_eq, not_true_eq_false, if_false, typeInfo, run_program, hi, Sem.run_pure, hc, Bool.not_true, Bool.false_eq_true, h1]
theorem eqI_ne {t a b : TypeId} {ms : Array (String × TypeId)} {x y : Value} (hu : P.underlying t = some (.interface ms)) (hne : a ≠ b) (d : Nat) (w : World) :
    (Op.equalIn (d + 1) t (.iface a x) (.iface b y)).run P w = .ok false w := by
  rw [Op.equalIn]
  simp only [Sem.run_bind, run_underlying hu, Result.andThen_ok, if_pos hne, Sem.run_pure]
set_option maxHeartbeats 1000000 in
theorem same_sound {op : BinOp} (hop : op = .eql ∨ op = .neq) {t : TypeId} {x y : V} {cx cy : Value} {xo yo : Operand} {c : Bool} (hx : VR Φ π x cx) (hy : VR Φ π y cy) (hs : sameAct P (isConstO xo || isConstO yo) t x y = some c) :
    Gives P Φ π (do eqGuard op t xo yo cx cy; binOp op t cx cy) (.bool (if op = .eql then c else !c)) := by
  have fin : (∀ w, (eqGuard op t xo yo cx cy).run P w = .ok () w) → (∀ d w, (Op.equalIn (d + 2) t cx cy).run P w = .ok c w) → (∀ k a, cx ≠ .int k a) → (∀ k a, cx ≠ .float k a) → (∀ k a b, cx ≠ .complex k a b) → (∀ a, cx ≠ .string a) →
      Gives P Φ π (do eqGuard op t xo yo cx cy; binOp op t cx cy) (.bool (if op = .eql then c else !c)) := by
    intro hg he0 n1 n2 n3 n4 w
    have he : ∀ w, (Op.equal t cx cy).run P w = .ok c w := fun w => he0 9998 w
    refine ⟨.bool (if op = .eql then c else !c), ?_, VR.bool'⟩
    simp only [Sem.run_bind, hg, Result.andThen_ok]
    rcases hop with rfl | rfl
    · cases cx <;> first
        | exact absurd rfl (n1 _ _)
        | exact absurd rfl (n2 _ _)
        | exact absurd rfl (n3 _ _ _)
        | exact absurd rfl (n4 _)
        | simp [binOp, he]
    · cases cx <;> first
        | exact absurd rfl (n1 _ _)
        | exact absurd rfl (n2 _ _)
        | exact absurd rfl (n3 _ _ _)
        | exact absurd rfl (n4 _)
        | simp [binOp, he]
  unfold sameAct at hs
  split at hs
  · rename_i ms hu
    simp only [VR] at hx hy; subst hx; subst hy
    split at hs
    · rename_i hl
      cases hs
      refine fin (fun w => ?_) (fun d w => by simp [Op.equalIn, run_underlying hu]) (by simp) (by simp) (by simp) (by simp)
      have : ((match xo with | .const _ => true | _ => false) || (match yo with | .const _ => true | _ => false)) = true := by
        revert hl; unfold isConstO; cases xo <;> cases yo <;> simp
      rcases hop with rfl | rfl <;> simp only [eqGuard]
      · revert this; cases xo <;> cases yo <;> simp
      · revert this; cases xo <;> cases yo <;> simp
    · cases hs
  · rename_i ms d z hu
    simp only [VR] at hx hy; subst hx; obtain ⟨cz, rfl, _⟩ := hy
    cases hs
    refine fin (fun w => by rcases hop with rfl | rfl <;> simp [eqGuard]) (fun d w => by simp [Op.equalIn, run_underlying hu]) (by simp) (by simp) (by simp) (by simp)
  · rename_i ms d z hu
    simp only [VR] at hx hy; subst hy; obtain ⟨cz, rfl, _⟩ := hx
    cases hs
    refine fin (fun w => by rcases hop with rfl | rfl <;> simp [eqGuard]) (fun d w => by simp [Op.equalIn, run_underlying hu]) (by simp) (by simp) (by simp) (by simp)
  · rename_i ms a z b y' hu
    simp only [VR] at hx hy; obtain ⟨cz, rfl, hz⟩ := hx; obtain ⟨cy', rfl, hy'⟩ := hy
    split at hs
    · rename_i hne
      cases hs
      refine fin (fun w => by rcases hop with rfl | rfl <;> simp [eqGuard]) (fun d w => eqI_ne hu hne _ w) (by simp) (by simp) (by simp) (by simp)
    · rename_i heq
      have heq : a = b := by simpa using heq
      subst heq
      split at hs
      · rename_i i q k n k' m hi hua
        split at hs
        · rename_i hc
          simp only [Bool.and_eq_true, decide_eq_true_eq] at hc
          obtain ⟨hcmp, rfl⟩ := hc
          cases hs
          simp only [VR] at hz hy'; obtain ⟨rfl, _⟩ := hz; obtain ⟨rfl, _⟩ := hy'
          refine fin (fun w => by rcases hop with rfl | rfl <;> simp [eqGuard]) (fun d w => eqI_int hu hi hcmp hua d w) (by simp) (by simp) (by simp) (by simp)
        · cases hs
      · cases hs
  · rename_i e hu
    simp only [VR] at hx hy; subst hx; subst hy
    cases hs
    refine fin (fun w => by rcases hop with rfl | rfl <;> simp [eqGuard]) (fun d w => by simp [Op.equalIn, run_underlying hu]) (by simp) (by simp) (by simp) (by simp)
  · rename_i e b o hu
    simp only [VR, pv] at hx hy; subst hx; obtain ⟨A, hA, rfl⟩ := hy
    cases hs
    refine fin (fun w => by rcases hop with rfl | rfl <;> simp [eqGuard]) (fun d w => by simp [Op.equalIn, run_underlying hu]) (by simp) (by simp) (by simp) (by simp)
  · rename_i e b o hu
    simp only [VR, pv] at hx hy; subst hy; obtain ⟨A, hA, rfl⟩ := hx
    cases hs
    refine fin (fun w => by rcases hop with rfl | rfl <;> simp [eqGuard]) (fun d w => by simp [Op.equalIn, run_underlying hu]) (by simp) (by simp) (by simp) (by simp)
  · rename_i e ss ps o hu
    simp only [VR, pv] at hx hy; subst hx; obtain ⟨g, o', rfl, _⟩ := hy
    cases hs
    refine fin (fun w => by rcases hop with rfl | rfl <;> simp [eqGuard]) (fun d w => by simp [Op.equalIn, run_underlying hu]) (by simp) (by simp) (by simp) (by simp)
  · rename_i e ss ps o hu
    simp only [VR, pv] at hx hy; subst hy; obtain ⟨g, o', rfl, _⟩ := hx
    cases hs
    refine fin (fun w => by rcases hop with rfl | rfl <;> simp [eqGuard]) (fun d w => by simp [Op.equalIn, run_underlying hu]) (by simp) (by simp) (by simp) (by simp)
  · cases hs

/-! ### own memory seen as what it holds -/
theorem tr_of_els {F G : Fz} (hF : F.le G) {T : Ty} {xs : List T.D} {g o : Nat} {c : Value} {a : Option Addr} {cap : Nat} (hc : c = .slice a xs.length cap) (h1 : xs.length ≤ cap) (h2 : cap ≤ maxLen) (ha : 0 < xs.length → a = some ⟨g, o, none⟩ ∧ Els F w g o T xs)
    (hG : ∀ off u, o ≤ off → off < o + xs.length * T.size → wcell w g off = some u → G g off = some u) : TR G (.slice T) xs [c] := by
  simp only [TR]
  refine ⟨a, cap, by rw [hc], h1, h2, fun h0 => ?_⟩
  obtain ⟨h3, h4⟩ := ha h0
  refine ⟨g, o, h3, fun i hi => ?_⟩
  obtain ⟨ds, h5, h6⟩ := h4 i hi
  refine ⟨ds, TR.mono hF h5, fun j u hu => ?_⟩
  have hj : j < T.size := by rw [← TR.length h5]; exact (List.getElem?_eq_some_iff.1 hu).1
  have := el_lt hi hj
  exact hG _ u (by omega) (by omega) (h6 j u hu)
theorem resB_id : ∀ (n : Nat) {b : Nat} {blk : Blk}, h[b]? = some blk → (∀ b', blk ≠ .fwd b') → resB h n b = b
  | 0, b, blk, _, _ => rfl
  | n + 1, b, blk, hb, hn => by
    simp only [resB, hb]
    cases blk <;> first | rfl | exact absurd rfl (hn _)
/-- The cells of blocks of K are told by G. -/
def Told (G : Fz) (w : World) (π : Pi) (h : List Blk) (K : Nat → Prop) : Prop :=
  ∀ b blk A, K b → h[b]? = some blk → blk.isRow = true → π b = some A → ∀ g off u, A.has g off → wcell w g off = some u → G g off = some u
mutual
theorem view_sound {wb : Bool} (hr : HR Φ w1 π h w) (hle : Φ.le Ψ) (hF : (Φ false).le (Ψ wb)) {K : Nat → Prop} (hK : Told (Ψ wb) w π h K) : ∀ {x : V} {c : Value}, (∀ b ∈ V.refs x, K (resB h 1000 b)) → VR Φ π x c → VR Ψ π (V.view wb h x) c
  | .any, _, _, _ => by simp [VR, V.view]
  | .bool b, v, _, hv => by simpa [VR, V.view] using hv
  | .int k n, v, _, hv => by simpa [VR, V.view] using hv
  | .str s, v, _, hv => by simpa [VR, V.view] using hv
  | .ptr b off, v, _, hv => by simpa only [V.view] using VR.mono hle (Pi.le_refl _) hv
  | .parr b n sz, v, _, hv => by simpa only [V.view] using VR.mono hle (Pi.le_refl _) hv
  | .cptr ss ps off, v, _, hv => by simpa only [V.view] using VR.mono hle (Pi.le_refl _) hv
  | .elp b i off, v, _, hv => by simpa only [V.view] using VR.mono hle (Pi.le_refl _) hv
  | .elr b i, v, _, hv => by simpa only [V.view] using VR.mono hle (Pi.le_refl _) hv
  | .el2 b i j off, v, _, hv => by simpa only [V.view] using VR.mono hle (Pi.le_refl _) hv
  | .nilp, v, _, hv => by simpa [VR, V.view] using hv
  | .ro _ t l, v, _, hv => by simpa only [V.view] using VR.mono hle (Pi.le_refl _) hv
  | .rop _ t x off, v, _, hv => by simpa only [V.view] using VR.mono hle (Pi.le_refl _) hv
  | .sl b sz n, v, hk, hv => by
    simp only [V.view]
    have hk' := hk b (by simp [V.refs])
    split
    · rename_i T xs hb
      simp only [VR] at hv ⊢
      obtain ⟨A, a, cap, hA, e1, e2, e3, e4, e5, e6, e7⟩ := hv
      obtain ⟨A', hA', hlk⟩ := resB_sound hr 1000 b A hA
      have hB := hr.get hb (by simp) hA'
      have hB' := hB
      simp only [BR] at hB
      obtain ⟨g1, g2, g3, g4, g5, g6, g7⟩ := hB
      have hn : n = xs.length := by rw [← g2, hlk.len, e2]
      subst hn
      refine tr_of_els hF e3 e4 e5 (fun h0 => ⟨by rw [e7 (by omega), hlk.g, hlk.o], g7⟩) (fun off u h1 h2 h3 => ?_)
      exact hK _ _ A' hk' hb rfl hA' A'.g off u (.inl ⟨rfl, h1, by simp only [At.main]; omega⟩) h3
    · rename_i T xs hb
      simp only [VR] at hv ⊢
      obtain ⟨A, a, cap, hA, e1, e2, e3, e4, e5, e6, e7⟩ := hv
      obtain ⟨A', hA', hlk⟩ := resB_sound hr 1000 b A hA
      have hB := hr.get hb (by simp) hA'
      simp only [BR] at hB
      obtain ⟨g1, g2, g3, g4, g5, g6, g7, g8, g9⟩ := hB
      have hn : n = xs.length := by rw [← g1, hlk.len, e2]
      subst hn
      show TR (Ψ wb) (.slice (.slice T)) xs [v]
      rw [TR]
      refine ⟨a, cap, by rw [e3], e4, e5, fun h0 => ⟨A.g, A.o, e7 (by omega), fun i hi => ?_⟩⟩
      obtain ⟨r, c, q1, q2, ai, capi, q3, q4, q5, q6⟩ := g9 i hi
      refine ⟨[c], ?_, fun j u hu => ?_⟩
      · obtain ⟨q, hq⟩ : ∃ q : Rng, 0 < xs[i].length → r = some q ∧ ai = some ⟨q.g, q.o, none⟩ ∧ xs[i].length * T.size ≤ q.n ∧ Els (Φ false) w q.g q.o T xs[i] := by
          rcases Nat.eq_zero_or_pos xs[i].length with h0 | h0
          · exact ⟨⟨0, 0, 0⟩, fun h => by omega⟩
          · obtain ⟨q, h1⟩ := q6 h0; exact ⟨q, fun _ => h1⟩
        refine tr_of_els (w := w) (g := q.g) (o := q.o) hF q3 q4 q5 (fun h0 => ⟨(hq h0).2.1, (hq h0).2.2.2⟩) (fun off u h1 h2 h3 => ?_)
        rcases Nat.eq_zero_or_pos xs[i].length with h0 | h0
        · rw [h0] at h2; omega
        · obtain ⟨rfl, _, p3, _⟩ := hq h0
          exact hK _ _ A' hk' hb rfl hA' q.g off u (.inr ⟨i, q, _, q1, rfl, h1, by omega⟩) h3
      · cases j with
        | succ j => simp at hu
        | zero =>
          simp at hu; subst hu
          have hsz : (Ty.slice T).size = 1 := rfl
          rw [hsz, Nat.mul_one, Nat.add_zero, ← hlk.g, ← hlk.o]
          exact hK _ _ A' hk' hb rfl hA' A'.g _ c (.inl ⟨rfl, by simp [At.main], by simp only [At.main]; omega⟩) q2
    · exact VR.mono hle (Pi.le_refl _) hv
  | .sv b sz i n, v, hk, hv => by
    simp only [V.view]
    split
    · rename_i T xs hb
      have hk' := hk b (by simp [V.refs])
      rw [resB_id 1000 hb (by simp)] at hk'
      simp only [VR] at hv ⊢
      obtain ⟨A, a, cap, hA, e1, e2, e3, e4, e5, e7⟩ := hv
      have hB := hr.get hb (by simp) hA
      simp only [BR] at hB
      obtain ⟨g1, g2, g3, g4, g5, g6, g7⟩ := hB
      have hin : i + n ≤ xs.length := by omega
      have hsl := slice_length (l := xs) hin
      have hmul : (i + n) * T.size ≤ xs.length * T.size := Nat.mul_le_mul_right _ hin
      rw [Nat.add_mul] at hmul
      refine tr_of_els (w := w) (g := A.g) (o := A.o + i * T.size) hF (by rw [hsl]; exact e3) (by rw [hsl]; exact e4) e5 (fun h0 => ⟨?_, fun j hj => ?_⟩) (fun off u h1 h2 h3 => ?_)
      · rw [hsl] at h0
        rw [(e7 (by omega)).2, ← e1, g3]
      · have hj' := hj
        rw [hsl] at hj'
        obtain ⟨ds, h5, h6⟩ := g7 (i + j) (by omega)
        refine ⟨ds, by rw [slice_get hin hj]; exact h5, fun q u hu => ?_⟩
        have := h6 q u hu
        rw [Nat.add_mul] at this
        rw [show A.o + i * T.size + (j * T.size + q) = A.o + (i * T.size + j * T.size + q) by omega]; exact this
      · rw [hsl] at h2
        exact hK _ _ A hk' hb rfl hA A.g off u (.inl ⟨rfl, by simp only [At.main]; omega, by simp only [At.main]; omega⟩) h3
    · exact VR.mono hle (Pi.le_refl _) hv
  | .sl2 b sz i o n, v, hk, hv => by
    simp only [V.view]
    split
    · rename_i T xs hb
      have hk' := hk b (by simp [V.refs])
      rw [resB_id 1000 hb (by simp)] at hk'
      simp only [VR] at hv ⊢
      obtain ⟨A, r, m, a, cap, hA, e1, e2, e3, e4, e5, e6, e7⟩ := hv
      have hB := hr.get hb (by simp) hA
      simp only [BR] at hB
      obtain ⟨g1, g2, g3, g4, g5, g6, g7, g8, g9⟩ := hB
      have hi' : i < xs.length := by rw [← g6]; exact (List.getElem?_eq_some_iff.1 e2).1
      obtain ⟨r', c, g10, g11, a', cap', g12, g13, g14, g15⟩ := g9 i hi'
      have g10' := g10
      rw [e2] at g10
      simp only [Option.some.injEq, Prod.mk.injEq] at g10
      obtain ⟨rfl, rfl⟩ := g10
      rw [get_lt hi']
      have hsl := slice_length (l := xs[i]) e3
      have hmul : (o + n) * T.size ≤ xs[i].length * T.size := Nat.mul_le_mul_right _ e3
      rw [Nat.add_mul] at hmul
      obtain ⟨q, hq⟩ : ∃ q : Rng, 0 < n → r = some q ∧ a = some ⟨q.g, q.o + o * T.size, none⟩ ∧ xs[i].length * T.size ≤ q.n ∧ Els (Φ false) w q.g q.o T xs[i] := by
        rcases Nat.eq_zero_or_pos n with h0 | h0
        · exact ⟨⟨0, 0, 0⟩, fun h => by omega⟩
        · obtain ⟨q, p1, p2⟩ := e7 h0
          obtain ⟨q', p3, p4, p5, p6⟩ := g15 (by omega)
          rw [p1] at p3; cases p3
          exact ⟨q, fun _ => ⟨p1, by rw [p2, ← e1, g3], p5, p6⟩⟩
      refine tr_of_els (w := w) (g := q.g) (o := q.o + o * T.size) hF (by rw [hsl]; exact e4) (by rw [hsl]; exact e5) e6 (fun h0 => ?_) (fun off u h1 h2 h3 => ?_)
      · rw [hsl] at h0
        obtain ⟨p1, p2, p3, p4⟩ := hq h0
        refine ⟨p2, fun j hj => ?_⟩
        have hj' := hj
        rw [hsl] at hj'
        obtain ⟨ds, h5, h6⟩ := p4 (o + j) (by omega)
        refine ⟨ds, by rw [slice_get e3 hj]; exact h5, fun y u hu => ?_⟩
        have := h6 y u hu
        rw [Nat.add_mul] at this
        rw [show q.o + o * T.size + (j * T.size + y) = q.o + (o * T.size + j * T.size + y) by omega]; exact this
      · rw [hsl] at h2
        rcases Nat.eq_zero_or_pos n with h0 | h0
        · rw [h0] at h2; omega
        · obtain ⟨rfl, p2, p3, p4⟩ := hq h0
          exact hK _ _ A hk' hb rfl hA q.g off u (.inr ⟨i, q, _, g10', rfl, by omega, by omega⟩) h3
    · exact VR.mono hle (Pi.le_refl _) hv
  | .csl b off sz n, v, _, hv => by simpa only [V.view] using VR.mono hle (Pi.le_refl _) hv
  | .esl, v, _, hv => by simpa [VR, V.view] using hv
  | .nsl, v, _, hv => by simpa [VR, V.view] using hv
  | .fn f c, v, _, hv => by simpa only [V.view] using VR.mono hle (Pi.le_refl _) hv
  | .mexp t n, v, _, hv => by simpa [VR, V.view] using hv
  | .nilf, v, _, hv => by simpa [VR, V.view] using hv
  | .iface t x, v, _, hv => by simpa only [V.view] using VR.mono hle (Pi.le_refl _) hv
  | .nili, v, _, hv => by simpa [VR, V.view] using hv
  | .agg l, v, hk, hv => by
    simp only [VR, V.view] at hv ⊢
    obtain ⟨cs, e, hc⟩ := hv
    exact ⟨cs, e, views_sound hr hle hF hK (fun b hb => hk b (by simpa [V.refs] using hb)) hc⟩
  | .tup l, v, hk, hv => by
    simp only [VR, V.view] at hv ⊢
    obtain ⟨cs, e, hc⟩ := hv
    exact ⟨cs, e, views_sound hr hle hF hK (fun b hb => hk b (by simpa [V.refs] using hb)) hc⟩
  | .map b, v, _, hv => by simpa only [V.view] using VR.mono hle (Pi.le_refl _) hv
  | .hdl g t, v, _, hv => by simpa [VR, V.view] using hv
theorem views_sound {wb : Bool} (hr : HR Φ w1 π h w) (hle : Φ.le Ψ) (hF : (Φ false).le (Ψ wb)) {K : Nat → Prop} (hK : Told (Ψ wb) w π h K) : ∀ {l : List V} {m : List Value}, (∀ b ∈ V.refsL l, K (resB h 1000 b)) → VRL Φ π l m → VRL Ψ π (V.views wb h l) m
  | [], [], _, _ => by simp [VRL, V.views]
  | x :: l, v :: m, hk, hv => by
    simp only [VRL, V.views] at hv ⊢
    exact ⟨view_sound hr hle hF hK (fun b hb => hk b (by simp [V.refsL, hb])) hv.1, views_sound hr hle hF hK (fun b hb => hk b (by simp [V.refsL, hb])) hv.2⟩
  | [], _ :: _, _, hv => by simp [VRL] at hv
  | _ :: _, [], _, hv => by simp [VRL] at hv
end

mutual
theorem VR.noRefs {π' : Pi} : ∀ {x : V} {c : Value}, V.refs x = [] → VR Φ π x c → VR Φ π' x c
  | .any, _, _, _ => by simp [VR]
  | .bool b, v, _, hv => by simpa [VR] using hv
  | .int k n, v, _, hv => by simpa [VR] using hv
  | .str s, v, _, hv => by simpa [VR] using hv
  | .ptr b off, v, hn, hv => by simp [V.refs] at hn
  | .parr b n sz, v, hn, hv => by simp [V.refs] at hn
  | .cptr ss ps off, v, hn, hv => by simp only [VR, V.refs] at hn hv ⊢; obtain ⟨g, o, e, hc⟩ := hv; exact ⟨g, o, e, VRL.noRefs hn hc⟩
  | .elp b i off, v, hn, hv => by simp [V.refs] at hn
  | .elr b i, v, hn, hv => by simp [V.refs] at hn
  | .el2 b i j off, v, hn, hv => by simp [V.refs] at hn
  | .nilp, v, _, hv => by simpa [VR] using hv
  | .ro w t l, v, _, hv => by simpa only [VR] using hv
  | .rop w t x off, v, _, hv => by simpa only [VR] using hv
  | .sl _ _ _, v, hn, hv => by simp [V.refs] at hn
  | .sv _ _ _ _, v, hn, hv => by simp [V.refs] at hn
  | .sl2 _ _ _ _ _, v, hn, hv => by simp [V.refs] at hn
  | .csl _ _ _ _, v, hn, hv => by simp [V.refs] at hn
  | .esl, v, _, hv => by simpa [VR] using hv
  | .nsl, v, _, hv => by simpa [VR] using hv
  | .fn f c, v, hn, hv => by simp only [VR, V.refs] at hn hv ⊢; obtain ⟨cs, e, hc⟩ := hv; exact ⟨cs, e, VRL.noRefs hn hc⟩
  | .mexp t n, v, _, hv => by simpa [VR] using hv
  | .nilf, v, _, hv => by simpa [VR] using hv
  | .iface t x, v, hn, hv => by simp only [VR, V.refs] at hn hv ⊢; obtain ⟨u, e, hc⟩ := hv; exact ⟨u, e, VR.noRefs hn hc⟩
  | .nili, v, _, hv => by simpa [VR] using hv
  | .agg l, v, hn, hv => by simp only [VR, V.refs] at hn hv ⊢; obtain ⟨cs, e, hc⟩ := hv; exact ⟨cs, e, VRL.noRefs hn hc⟩
  | .tup l, v, hn, hv => by simp only [VR, V.refs] at hn hv ⊢; obtain ⟨cs, e, hc⟩ := hv; exact ⟨cs, e, VRL.noRefs hn hc⟩
  | .map b, v, hn, hv => by simp [V.refs] at hn
  | .hdl g t, v, _, hv => by simpa [VR] using hv
theorem VRL.noRefs {π' : Pi} : ∀ {l : List V} {m : List Value}, V.refsL l = [] → VRL Φ π l m → VRL Φ π' l m
  | [], [], _, _ => by simp [VRL]
  | x :: l, v :: m, hn, hv => by
    simp only [V.refsL, List.append_eq_nil_iff] at hn
    simp only [VRL] at hv ⊢
    exact ⟨VR.noRefs hn.1 hv.1, VRL.noRefs hn.2 hv.2⟩
  | [], _ :: _, _, hv => by simp [VRL] at hv
  | _ :: _, [], _, hv => by simp [VRL] at hv
end
theorem HR.lend_le (hr : HR Φ w1 π h w) : Φ.le (lend (Φ false) w) := by
  intro x g off u hu
  cases x
  · exact hu
  · exact hr.fz true g off u hu
theorem lend_views {args : List V} {cargs : List Value} (hr : HR Φ w1 π h w) (ha : VRL Φ π args cargs) (hn : V.refsL (V.views true h args) = []) : VRL (lend (Φ false) w) (fun _ => none) (V.views true h args) cargs :=
  VRL.noRefs hn (views_sound (wb := true) (K := fun _ => True) hr hr.lend_le (fun g off u hu => hr.fz false g off u hu) (fun b blk A _ _ _ _ g off u _ hw => wcell_cell hw) (fun _ _ => trivial) ha)

/-! ### calls -/
mutual
theorem VR.shift {π' : Pi} {n : Nat} (hs : ∀ b A, π b = some A → π' (n + b) = some A) : ∀ {x : V} {c : Value}, VR Φ π x c → VR Φ π' (V.shift n x) c
  | .any, _, _ => by simp [VR, V.shift]
  | .bool b, v, hv => by simpa [VR, V.shift] using hv
  | .int k m, v, hv => by simpa [VR, V.shift] using hv
  | .str s, v, hv => by simpa [VR, V.shift] using hv
  | .ptr b off, v, hv => by simp only [VR, V.shift] at hv ⊢; obtain ⟨A, hA, e⟩ := hv; exact ⟨A, hs _ _ hA, e⟩
  | .parr b m sz, v, hv => by simp only [VR, V.shift] at hv ⊢; obtain ⟨A, hA, e⟩ := hv; exact ⟨A, hs _ _ hA, e⟩
  | .cptr ss ps off, v, hv => by simp only [VR, V.shift] at hv ⊢; obtain ⟨g, o, e, hc⟩ := hv; exact ⟨g, o, e, VRL.shift hs hc⟩
  | .elp b i off, v, hv => by simp only [VR, V.shift] at hv ⊢; obtain ⟨A, hA, e⟩ := hv; exact ⟨A, hs _ _ hA, e⟩
  | .elr b i, v, hv => by simp only [VR, V.shift] at hv ⊢; obtain ⟨A, hA, e⟩ := hv; exact ⟨A, hs _ _ hA, e⟩
  | .el2 b i j off, v, hv => by simp only [VR, V.shift] at hv ⊢; obtain ⟨A, r, m, hA, e⟩ := hv; exact ⟨A, r, m, hs _ _ hA, e⟩
  | .nilp, v, hv => by simpa [VR, V.shift] using hv
  | .ro w t l, v, hv => by simpa only [VR, V.shift] using hv
  | .rop w t x off, v, hv => by simpa only [VR, V.shift] using hv
  | .sl b sz m, v, hv => by simp only [VR, V.shift] at hv ⊢; obtain ⟨A, a, cap, hA, e⟩ := hv; exact ⟨A, a, cap, hs _ _ hA, e⟩
  | .sv b sz i m, v, hv => by simp only [VR, V.shift] at hv ⊢; obtain ⟨A, a, cap, hA, e⟩ := hv; exact ⟨A, a, cap, hs _ _ hA, e⟩
  | .sl2 b sz i o m, v, hv => by simp only [VR, V.shift] at hv ⊢; obtain ⟨A, r, k, a, cap, hA, e⟩ := hv; exact ⟨A, r, k, a, cap, hs _ _ hA, e⟩
  | .csl b off sz m, v, hv => by simp only [VR, V.shift] at hv ⊢; obtain ⟨A, cap, hA, e⟩ := hv; exact ⟨A, cap, hs _ _ hA, e⟩
  | .esl, v, hv => by simpa [VR, V.shift] using hv
  | .nsl, v, hv => by simpa [VR, V.shift] using hv
  | .fn f c, v, hv => by simp only [VR, V.shift] at hv ⊢; obtain ⟨cs, e, hc⟩ := hv; exact ⟨cs, e, VRL.shift hs hc⟩
  | .mexp t n, v, hv => by simpa [VR, V.shift] using hv
  | .nilf, v, hv => by simpa [VR, V.shift] using hv
  | .iface t x, v, hv => by simp only [VR, V.shift] at hv ⊢; obtain ⟨u, e, hc⟩ := hv; exact ⟨u, e, VR.shift hs hc⟩
  | .nili, v, hv => by simpa [VR, V.shift] using hv
  | .agg l, v, hv => by simp only [VR, V.shift] at hv ⊢; obtain ⟨cs, e, hc⟩ := hv; exact ⟨cs, e, VRL.shift hs hc⟩
  | .tup l, v, hv => by simp only [VR, V.shift] at hv ⊢; obtain ⟨cs, e, hc⟩ := hv; exact ⟨cs, e, VRL.shift hs hc⟩
  | .map b, v, hv => by simp only [VR, V.shift] at hv ⊢; obtain ⟨A, hA, e⟩ := hv; exact ⟨A, hs _ _ hA, e⟩
  | .hdl g t, v, hv => by simpa [VR, V.shift] using hv
theorem VRL.shift {π' : Pi} {n : Nat} (hs : ∀ b A, π b = some A → π' (n + b) = some A) : ∀ {l : List V} {m : List Value}, VRL Φ π l m → VRL Φ π' (V.shifts n l) m
  | [], [], _ => by simp [VRL, V.shifts]
  | x :: l, v :: m, hv => by simp only [VRL, V.shifts] at hv ⊢; exact ⟨VR.shift hs hv.1, VRL.shift hs hv.2⟩
  | [], _ :: _, hv => by simp [VRL] at hv
  | _ :: _, [], hv => by simp [VRL] at hv
end
end
end Go.Eng
