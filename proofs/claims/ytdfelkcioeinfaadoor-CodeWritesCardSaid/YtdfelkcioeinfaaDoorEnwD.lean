/- The engine, part D: what each operation on structs does, the model does too. -/
import Derived.Lib.SliceRun
import Derived.Test.YtdfelkcioeinfaaDoorEnwC
set_option linter.unusedVariables false
set_option linter.unusedSimpArgs false
namespace Go.Eng
open Go Go.RowKit

section
variable {Φ : Fr} {w : World} {π : Pi} {P : Program}

theorem isAggB_run {t : TypeId} {b : Bool} (h : isAggB P t = some b) (w : World) : (isAgg t).run P w = .ok b w := by
  unfold isAggB at h
  split at h
  · rename_i hd; simp at h; subst h; simp [isAgg, run_underlying hd]
  · rename_i hd; simp at h; subst h; simp [isAgg, run_underlying hd]
  · rename_i d h1 h2 hd; simp at h; subst h
    simp only [isAgg, Sem.run_bind, run_underlying hd, Result.andThen_ok]
    cases d <;> first | rfl | exact absurd rfl (h1 _) | exact absurd rfl (h2 _ _) | exact absurd hd (h1 _) | exact absurd hd (h2 _ _)
  · cases h
theorem sizeB_run {t : TypeId} {n : Nat} (h : sizeB P t = some n) (w : World) : (sizeOf t).run P w = .ok n w := by
  unfold sizeB at h
  cases hi : P.info? t with
  | none => simp [hi] at h
  | some i =>
    simp [hi] at h
    simp [sizeOf, typeInfo, hi, h]

/-- What a variable's cells read as: a struct, or the one cell. -/
def mkv (P : Program) (t : TypeId) (cs : List Value) : Value := if isAggB P t = some true then .agg cs.toArray else cs.headD undef
theorem part_run {t : TypeId} {b : Bool} {n off : Nat} {cs : List Value} (ha : isAggB P t = some b) (hs : sizeB P t = some n) (hl : off + n ≤ cs.length) (h1 : b = false → 0 < n) (w : World) :
    (part t cs.toArray off).run P w = .ok (mkv P t ((cs.drop off).take n)) w := by
  simp only [part, Sem.run_bind, isAggB_run ha, Result.andThen_ok]
  cases b with
  | true => simp [sizeB_run hs, mkv, ha]
  | false =>
    have : off < cs.length := by have := h1 rfl; omega
    have hd : ((cs.drop off).take n).headD undef = cs[off] := by
      rw [List.headD_eq_head?_getD]
      have : (List.take n (List.drop off cs)).head? = some cs[off] := by
        rw [List.head?_take, if_neg (by have := h1 rfl; omega), List.head?_drop]
        simp [this]
      rw [this]; rfl
    have hd' : (List.take n (List.drop off cs)).head?.getD undef = cs[off] := by rw [← List.headD_eq_head?_getD]; exact hd
    simp [mkv, ha, hd', this]

theorem eqCells_append : ∀ {k1 k2 : List Bool} {a b : List V} {c : Bool}, eqCells (k1 ++ k2) a b = some c →
    ∃ c1 c2, eqCells k1 (a.take k1.length) (b.take k1.length) = some c1 ∧ eqCells k2 (a.drop k1.length) (b.drop k1.length) = some c2 ∧ c = (c1 && c2)
  | [], k2, a, b, c, h => ⟨true, c, by simp [eqCells], by simpa using h, by simp⟩
  | k :: k1, k2, a, b, c, h => by
    cases k <;> cases a with
    | nil => simp [eqCells] at h
    | cons x a => cases b with
      | nil => cases x <;> simp [eqCells] at h
      | cons y b =>
        cases x <;> cases y <;> simp only [List.cons_append, eqCells] at h <;> (try (simp at h; done))
        all_goals (try (split at h; rotate_left; · cases h))
        all_goals
          cases hr : eqCells (k1 ++ k2) a b with
          | none => simp [hr] at h
          | some d =>
            obtain ⟨c1, c2, h1, h2, h3⟩ := eqCells_append hr
            simp only [hr, Option.map_some, Option.some.injEq] at h
            refine ⟨_, c2, by simp only [List.length_cons, List.take_succ_cons, eqCells, h1, Option.map_some, *, if_true]; rfl, by simpa using h2, by rw [← h, h3]; simp [W.and2, Bool.and_assoc]⟩
theorem eqCells_length : ∀ {ks : List Bool} {a b : List V} {c : Bool}, eqCells ks a b = some c → a.length = ks.length ∧ b.length = ks.length
  | [], a, b, c, h => by cases a <;> cases b <;> simp [eqCells] at h ⊢
  | k :: ks, a, b, c, h => by
    cases k <;> cases a with
    | nil => simp [eqCells] at h
    | cons x a => cases b with
      | nil => cases x <;> simp [eqCells] at h
      | cons y b =>
        cases x <;> cases y <;> simp only [eqCells] at h <;> (try (simp at h; done))
        all_goals (try (split at h; rotate_left; · cases h))
        all_goals
          cases hr : eqCells ks a b with
          | none => simp [hr] at h
          | some d => have := eqCells_length hr; simp [this]
theorem VRL.drop : ∀ {l : List V} {m : List Value} (n : Nat), VRL Φ π l m → VRL Φ π (l.drop n) (m.drop n)
  | l, m, 0, h => by simpa using h
  | [], [], n + 1, h => by simp [VRL]
  | x :: l, v :: m, n + 1, h => by simp only [VRL] at h; simpa using VRL.drop n h.2
  | [], _ :: _, _ + 1, h => by simp [VRL] at h
  | _ :: _, [], _ + 1, h => by simp [VRL] at h
theorem VRL.take : ∀ {l : List V} {m : List Value} (n : Nat), VRL Φ π l m → VRL Φ π (l.take n) (m.take n)
  | l, m, 0, h => by simp [VRL]
  | [], [], n + 1, h => by simp [VRL]
  | x :: l, v :: m, n + 1, h => by simp only [VRL] at h; simp only [List.take_succ_cons, VRL]; exact ⟨h.1, VRL.take n h.2⟩
  | [], _ :: _, _ + 1, h => by simp [VRL] at h
  | _ :: _, [], _ + 1, h => by simp [VRL] at h

theorem bool_one {ks : List Bool} {a b : List V} {c : Bool} (he : eqCells [false] a b = some c) : ∃ p q, a = [.bool p] ∧ b = [.bool q] ∧ c = (p == q) := by
  cases a with
  | nil => simp [eqCells] at he
  | cons x a => cases b with
    | nil => cases x <;> simp [eqCells] at he
    | cons y b =>
      cases x <;> cases y <;> simp only [eqCells] at he <;> (try (simp at he; done))
      cases a <;> cases b <;> simp [eqCells] at he
      exact ⟨_, _, rfl, rfl, by simpa [W.and2, W.eqB] using he.symm⟩
theorem int_one {a b : List V} {c : Bool} (he : eqCells [true] a b = some c) : ∃ k p q, a = [.int k p] ∧ b = [.int k q] ∧ c = (p == q) := by
  cases a with
  | nil => simp [eqCells] at he
  | cons x a => cases b with
    | nil => cases x <;> simp [eqCells] at he
    | cons y b =>
      cases x <;> cases y <;> simp only [eqCells] at he <;> (try (simp at he; done))
      split at he
      · rename_i hk; subst hk
        cases a <;> cases b <;> simp [eqCells] at he
        exact ⟨_, _, _, rfl, rfl, by simpa [W.and2, W.eq] using he.symm⟩
      · cases he

theorem plainKs_agg {d : Nat} {t : TypeId} {ks : List Bool} (h : plainKs P d t = some ks) : ∃ bb, isAggB P t = some bb ∧ (bb = false → 0 < ks.length) := by
  cases d with
  | zero => simp [plainKs] at h
  | succ d =>
    simp only [plainKs] at h
    split at h
    · rename_i k hu; cases h; exact ⟨false, by simp [isAggB, hu], by simp⟩
    · rename_i hu; cases h; exact ⟨false, by simp [isAggB, hu], by simp⟩
    · rename_i fs hu; exact ⟨true, by simp [isAggB, hu], by simp⟩
    · cases h

theorem equalIn_plain : ∀ (d : Nat) (t : TypeId) (ks : List Bool), plainKs P d t = some ks → ∀ D, d ≤ D → ∀ (a b : List V) (xs ys : List Value) (c : Bool), eqCells ks a b = some c →
    VRL Φ π a xs → VRL Φ π b ys → ∀ w, (Op.equalIn D t (mkv P t xs) (mkv P t ys)).run P w = .ok c w
  | 0, t, n, h, _, _, _, _, _, _, _, _, _, _, _ => by simp [plainKs] at h
  | d + 1, t, n, h, D, hD, a, b, xs, ys, c, he, hx, hy, w => by
    obtain ⟨D, rfl⟩ : ∃ E, D = E + 1 := ⟨D - 1, by omega⟩
    simp only [plainKs] at h
    split at h
    · rename_i k hu
      simp at h; subst h
      obtain ⟨k, p, q, rfl, rfl, rfl⟩ := int_one he
      obtain ⟨u, m1, rfl, hu1, h1⟩ := VRL.cons hx
      obtain ⟨v, m2, rfl, hv1, h2⟩ := VRL.cons hy
      simp only [VR] at hu1 hv1; obtain ⟨rfl, _⟩ := hu1; obtain ⟨rfl, _⟩ := hv1
      have hag : isAggB P t = some false := by simp [isAggB, hu]
      simp [Op.equalIn, run_underlying hu, mkv, hag]
    · rename_i hu
      simp at h; subst h
      obtain ⟨p, q, rfl, rfl, rfl⟩ := bool_one (ks := []) he
      obtain ⟨u, m1, rfl, hu1, h1⟩ := VRL.cons hx
      obtain ⟨v, m2, rfl, hv1, h2⟩ := VRL.cons hy
      simp only [VR] at hu1 hv1; subst hu1; subst hv1
      have hag : isAggB P t = some false := by simp [isAggB, hu]
      simp [Op.equalIn, run_underlying hu, mkv, hag]
    · rename_i fs hu
      split at h
      · cases h
      · rename_i hst
        have hag : isAggB P t = some true := by simp [isAggB, hu]
        have hst' : P.stoodInHeld t = false := by simpa using hst
        simp only [Op.equalIn, Sem.run_bind, run_underlying hu, mkv, hag, if_true, Result.andThen_ok, run_program]
        rw [hst']
        simp only [Bool.false_eq_true, if_false]
        have key : ∀ (l : List Field) (off : Nat) (ks : List Bool) (c : Bool), plainFs (fun u => (plainKs P d u).bind fun l => if sizeB P u == some l.length then some l else none) l off = some ks →
            eqCells ks (a.drop off) (b.drop off) = some c → (forIn l (none, ()) fun f (s : Option Bool × Unit) =>
              if f.name ≠ "_" then do
                let x ← part f.type xs.toArray f.offset
                let y ← part f.type ys.toArray f.offset
                let z ← Op.equalIn D f.type x y
                if (!z) = true then pure (ForInStep.done (some false, ())) else pure (ForInStep.yield (none, ()))
              else pure (ForInStep.yield (none, ())) : Sem (Option Bool × Unit)).run P w = .ok (if c then (none, ()) else (some false, ())) w := by
          have hg : ∀ u l, (fun u => (plainKs P d u).bind fun l => if sizeB P u == some l.length then some l else none) u = some l → plainKs P d u = some l ∧ sizeB P u = some l.length := by
            intro u l hu
            dsimp only at hu
            cases hk : plainKs P d u with
            | none => simp [hk] at hu
            | some k1 =>
              simp only [hk, Option.bind_some] at hu
              split at hu
              · rename_i hs; cases hu; exact ⟨rfl, by simpa using hs⟩
              · cases hu
          generalize (fun u => (plainKs P d u).bind fun l => if sizeB P u == some l.length then some l else none) = g at hg ⊢
          intro l
          induction l with
          | nil =>
            intro off ks c hp he
            simp [plainFs] at hp; subst hp
            cases hd1 : a.drop off <;> cases hd2 : b.drop off <;> simp [hd1, hd2, eqCells] at he
            subst he
            simp
          | cons f l ih =>
            intro off ks c hp he
            simp only [plainFs] at hp
            split at hp
            · rename_i hnm
              simp only [Bool.and_eq_true, bne_iff_ne, ne_eq, beq_iff_eq] at hnm
              cases hk : g f.type with
              | none => simp [hk] at hp
              | some k1 =>
                simp only [hk, Option.bind_some] at hp
                have hne1 : k1 ≠ [] := by intro e; subst e; simp at hp
                have hl1 : 0 < k1.length := List.length_pos_iff.2 hne1
                rw [if_neg (by simpa using hne1)] at hp
                cases hr : plainFs g l (off + k1.length) with
                | none => rw [hr] at hp; cases hp
                | some k2 =>
                  rw [hr] at hp
                  simp only [Option.map_some, Option.some.injEq] at hp
                  subst hp
                  obtain ⟨c1, c2, h1, h2, rfl⟩ := eqCells_append he
                  obtain ⟨hpk, hsz⟩ := hg _ _ hk
                  have hlen := eqCells_length h1
                  simp only [List.length_take, List.length_drop] at hlen
                  have hxl := VRL.length hx
                  have hyl := VRL.length hy
                  obtain ⟨hne, rfl⟩ := hnm
                  obtain ⟨bb, hbb, hpos⟩ := plainKs_agg hpk
                  have e1 := part_run (cs := xs) (off := f.offset) hbb hsz (by omega) (fun _ => hl1) w
                  have e2 := part_run (cs := ys) (off := f.offset) hbb hsz (by omega) (fun _ => hl1) w
                  have e3 := equalIn_plain d f.type k1 hpk D (by omega) _ _ _ _ c1 h1 (VRL.take _ (VRL.drop _ hx)) (VRL.take _ (VRL.drop _ hy)) w
                  simp only [List.forIn_cons, hne, ne_eq, not_false_eq_true, if_true, bind_assoc, Sem.run_bind, e1, e2, e3, Result.andThen_ok]
                  cases c1 with
                  | false => simp
                  | true =>
                    simp only [Bool.not_true, Bool.false_eq_true, if_false, Sem.run_pure, Result.andThen_ok, Bool.true_and]
                    exact ih _ _ _ hr (by simpa [List.drop_drop] using h2)
            · cases hp
        have hk := key fs.toList 0 n c h (by simpa using he)
        have hfor : ∀ (F : Field → Option Bool × Unit → Sem (ForInStep (Option Bool × Unit))), forIn fs (none, ()) F = forIn fs.toList (none, ()) F := by
          intro F; rw [← Array.forIn_toList]
        rw [hfor]
        simp only [Sem.run_bind]
        rw [hk]
        cases c <;> simp
    · cases h

theorem equalIn_bool (D : Nat) {t : TypeId} (a b : Bool) (h : P.underlying t = some .bool) (w : World) : (Op.equalIn (D + 1) t (.bool a) (.bool b)).run P w = .ok (a == b) w := by
  simp [Op.equalIn, run_underlying h]

section
variable {slot : Nat} {h : List Blk} {v : V} {u : Upd}

theorem agg_eq {t : TypeId} {a b : List V} {ca cb : Array Value} {c : Bool} (hag : isAggB P t = some true) (he : eqAgg P t a b = some c) (ha : VRL Φ π a ca.toList) (hb : VRL Φ π b cb.toList) (xo yo : Operand) (w : World) :
    (eqGuard .eql t xo yo (.agg ca) (.agg cb)).run P w = .ok () w ∧ (eqGuard .neq t xo yo (.agg ca) (.agg cb)).run P w = .ok () w ∧ (Op.equal t (.agg ca) (.agg cb)).run P w = .ok c w := by
  unfold eqAgg at he
  split at he
  · rename_i ks hk
    split at he
    · cases he
    · rename_i hg
      have hg' : P.eqGuardType P.depth t = false := by simpa using hg
      have key := equalIn_plain 20 t ks hk 10000 (by omega) a b _ _ c he ha hb w
      simp only [mkv, hag, if_true] at key
      exact ⟨by simp [eqGuard, hg'], by simp [eqGuard, hg'], key⟩
  · cases he

theorem eql_nil_run {t e : TypeId} (h : P.underlying t = some (.slice e)) (a : Option Addr) (n c n' c' : Nat) (w : World) : (binOp .eql t (.slice a n c) (.slice none n' c')).run P w = .ok (.bool a.isNone) w := Lib.run_eql_slice_nil w t e a n c n' c' h
theorem neq_nil_run {t e : TypeId} (h : P.underlying t = some (.slice e)) (a : Option Addr) (n c n' c' : Nat) (w : World) : (binOp .neq t (.slice a n c) (.slice none n' c')).run P w = .ok (.bool (!a.isNone)) w := by
  simp only [binOp]
  simp [Op.equal, Op.maxDepth, Lib.run_equalIn_slice_nil w 9999 t e a n c n' c' h]
theorem nilEq_sound {op : BinOp} {neg : Bool} (ho : (op = .eql ∧ neg = false) ∨ (op = .neq ∧ neg = true)) {t : TypeId} {x : V} {cx : Value} (hx : VR Φ π x cx) (he : EffTo P slot h (nilEq P t x neg) v u) (xo yo : Operand) :
    u = .no ∧ Gives P Φ π (do eqGuard op t xo yo cx (.slice none 0 0); binOp op t cx (.slice none 0 0)) v := by
  unfold nilEq at he
  split at he
  · rename_i e hu
    have key : ∀ (a : Option Addr) (n c : Nat), cx = .slice a n c → v = .bool (if a.isNone then !neg else neg) → u = .no → u = .no ∧ Gives P Φ π (do eqGuard op t xo yo cx (.slice none 0 0); binOp op t cx (.slice none 0 0)) v := by
      intro a n c h1 h2 h3
      subst h1; subst h2; subst h3
      refine ⟨rfl, fun w => ?_⟩
      rcases ho with ⟨rfl, rfl⟩ | ⟨rfl, rfl⟩
      · exact ⟨.bool a.isNone, by simp [eqGuard, eql_nil_run hu], by cases a <;> exact VR.bool'⟩
      · exact ⟨.bool (!a.isNone), by simp [eqGuard, neq_nil_run hu], by cases a <;> exact VR.bool'⟩
    split at he
    · rename_i wb tt l
      simp only [VR, TR] at hx
      obtain ⟨a, cap, hc, h1, h2, h3⟩ := hx
      simp only [List.cons.injEq, and_true] at hc
      rcases he with ⟨hz, rfl, rfl⟩ | ⟨_, hf⟩
      · have h0 : 0 < l.length := of_decide_eq_true (show decide (0 < l.length) = true from hz)
        obtain ⟨g, o, rfl, _⟩ := h3 h0
        exact key _ _ _ hc rfl rfl
      · exact hf.elim
    · simp only [VR] at hx
      obtain ⟨A, cap, _, hc, _⟩ := hx
      obtain ⟨rfl, rfl⟩ := he
      exact key _ _ _ hc rfl rfl
    · simp only [VR] at hx
      obtain ⟨rfl, rfl⟩ := he
      exact key _ _ _ hx rfl rfl
    · exact he.elim
  · exact he.elim

theorem bin_sound {op : BinOp} {t : TypeId} {x y : V} {cx cy : Value} (hx : VR Φ π x cx) (hy : VR Φ π y cy) (he : EffTo P slot h (binAct P op t x y) v u) (xo yo : Operand) :
    u = .no ∧ Gives P Φ π (do eqGuard op t xo yo cx cy; binOp op t cx cy) v := by
  have lift : ∀ {cx cy : Value}, (∀ w, (eqGuard op t xo yo cx cy).run P w = .ok () w) → u = .no ∧ Gives P Φ π (binOp op t cx cy) v → u = .no ∧ Gives P Φ π (do eqGuard op t xo yo cx cy; binOp op t cx cy) v :=
    fun hg ⟨h1, h2⟩ => ⟨h1, fun w => by obtain ⟨c, hc, hv⟩ := h2 w; exact ⟨c, by simp [hg, hc], hv⟩⟩
  unfold binAct at he
  split at he
  · rename_i k a yk b
    simp only [VR] at hx hy; obtain ⟨rfl, ha⟩ := hx; obtain ⟨rfl, hb⟩ := hy
    refine lift (fun w => by simp [eqGuard]) ?_
    split at he
    · rcases he with ⟨_, hf⟩ | ⟨hz, he⟩
      · exact hf.elim
      · exact shiftInt_sound ha (by simpa [W.lt] using hz) he t
    · rename_i hs
      exact shiftInt_sound ha (wfI_nonneg (by simpa using hs) hb) he t
  · rename_i k a yk b
    simp only [VR] at hx hy; obtain ⟨rfl, ha⟩ := hx; obtain ⟨rfl, hb⟩ := hy
    refine lift (fun w => by simp [eqGuard]) ?_
    split at he
    · rcases he with ⟨_, hf⟩ | ⟨hz, he⟩
      · exact hf.elim
      · exact shiftInt_sound ha (by simpa [W.lt] using hz) he t
    · rename_i hs
      exact shiftInt_sound ha (wfI_nonneg (by simpa using hs) hb) he t
  · rename_i k a k' b _ _
    simp only [VR] at hx hy; obtain ⟨rfl, ha⟩ := hx; obtain ⟨rfl, hb⟩ := hy
    split at he
    · rename_i hk; subst hk
      refine lift (fun w => by cases op <;> rfl) (binInt_sound ha hb he t)
    · exact he.elim
  · simp only [VR] at hx hy; obtain ⟨rfl, _⟩ := hx; obtain ⟨rfl, _⟩ := hy
    obtain ⟨rfl, rfl⟩ := he
    exact ⟨rfl, fun w => ⟨_, by simp [eqGuard, binOp, Op.stringOp, W.eqS], VR.bool'⟩⟩
  · simp only [VR] at hx hy; obtain ⟨rfl, _⟩ := hx; obtain ⟨rfl, _⟩ := hy
    obtain ⟨rfl, rfl⟩ := he
    exact ⟨rfl, fun w => ⟨_, by simp [eqGuard, binOp, Op.stringOp, W.eqS, W.not], VR.bool'⟩⟩
  · rename_i a b
    simp only [VR] at hx hy; obtain ⟨rfl, ha⟩ := hx; obtain ⟨rfl, hb⟩ := hy
    rcases he with ⟨hz, rfl, rfl⟩ | ⟨_, h⟩
    · simp only [W.leN_t, W.addN, W.size, roomA] at hz
      refine ⟨rfl, fun w => ⟨.string (a ++ b), ?_, ?_⟩⟩
      · have : ¬ (((a.size + b.size : Nat) : Int) > IntKind.i64.max) := by simp only [IntKind.max, IntKind.signed, IntKind.bits]; simp; omega
        simp [eqGuard, binOp, Op.stringOp]
        omega
      · simp only [VR, W.cat, maxLen, ByteArray.size_append]; exact ⟨trivial, by omega⟩
    · exact h.elim
  · simp only [VR] at hx hy; subst hx; subst hy
    split at he
    · rename_i hu
      obtain ⟨rfl, rfl⟩ := he
      exact ⟨rfl, fun w => ⟨_, by simp [eqGuard, binOp, Op.equal, Op.maxDepth, equalIn_bool 9999 _ _ hu]; rfl, VR.bool'⟩⟩
    · exact he.elim
  · simp only [VR] at hx hy; subst hx; subst hy
    split at he
    · rename_i hu
      obtain ⟨rfl, rfl⟩ := he
      exact ⟨rfl, fun w => ⟨_, by simp [eqGuard, binOp, Op.equal, Op.maxDepth, equalIn_bool 9999 _ _ hu, W.not, W.eqB], VR.bool'⟩⟩
    · exact he.elim
  · simp only [VR] at hx hy; obtain ⟨ca, rfl, ha⟩ := hx; obtain ⟨cb, rfl, hb⟩ := hy
    split at he
    · rename_i c hag hc
      obtain ⟨rfl, rfl⟩ := he
      refine ⟨rfl, fun w => ⟨.bool c, ?_, VR.bool'⟩⟩
      obtain ⟨h1, h2, h3⟩ := agg_eq hag hc ha hb xo yo w
      simp [h1, binOp, h3]
    · exact he.elim
  · simp only [VR] at hx hy; obtain ⟨ca, rfl, ha⟩ := hx; obtain ⟨cb, rfl, hb⟩ := hy
    split at he
    · rename_i c hag hc
      obtain ⟨rfl, rfl⟩ := he
      refine ⟨rfl, fun w => ⟨.bool (!c), ?_, VR.bool'⟩⟩
      obtain ⟨h1, h2, h3⟩ := agg_eq hag hc ha hb xo yo w
      simp [h2, binOp, h3]
    · exact he.elim
  · simp only [VR] at hy; subst hy
    exact nilEq_sound (.inl ⟨rfl, rfl⟩) hx he xo yo
  · simp only [VR] at hy; subst hy
    exact nilEq_sound (.inr ⟨rfl, rfl⟩) hx he xo yo
  · exact he.elim

/-! ### parts, and what is built of them -/
theorem partV_sound {t : TypeId} {c : List V} {off : Nat} {cs : List Value} (hc : VRL Φ π c cs) (he : EffTo P slot h (partV P t c off) v u) :
    u = .no ∧ Gives P Φ π (part t cs.toArray off) v := by
  unfold partV at he
  split at he
  · rename_i n hag hs
    split at he
    · rename_i hl
      obtain ⟨rfl, rfl⟩ := he
      have hl' := VRL.length hc
      refine ⟨rfl, fun w => ⟨_, part_run hag hs (by omega) (by simp) w, ?_⟩⟩
      simp only [mkv, hag, if_true, VR]
      exact ⟨_, rfl, VRL.take _ (VRL.drop _ hc)⟩
    · exact he.elim
  · rename_i n hag hs
    split at he
    · rename_i x hx
      obtain ⟨rfl, rfl⟩ := he
      obtain ⟨c', hc', hv⟩ := VRL.get hc hx
      refine ⟨rfl, fun w => ⟨c', ?_, hv⟩⟩
      simp [part, isAggB_run hag, hc']
    · exact he.elim
  · exact he.elim

theorem List.splice_length {α : Type} : ∀ {l : List α} {off : Nat} {vs : List α}, (List.splice l off vs).length = l.length
  | l, off, [] => rfl
  | l, off, v :: vs => by simp only [List.splice]; rw [List.splice_length]; simp
theorem VRL.set : ∀ {l : List V} {m : List Value} {x : V} {c : Value} (i : Nat), VRL Φ π l m → VR Φ π x c → VRL Φ π (l.set i x) (m.set i c)
  | [], [], x, c, i, _, _ => by simp [VRL]
  | y :: l, d :: m, x, c, 0, h, hx => by simp only [VRL, List.set_cons_zero] at h ⊢; exact ⟨hx, h.2⟩
  | y :: l, d :: m, x, c, i + 1, h, hx => by simp only [VRL, List.set_cons_succ] at h ⊢; exact ⟨h.1, VRL.set i h.2 hx⟩
  | [], _ :: _, _, _, _, h, _ => by simp [VRL] at h
  | _ :: _, [], _, _, _, h, _ => by simp [VRL] at h
theorem VRL.splice : ∀ {vs : List V} {us : List Value} {l : List V} {m : List Value} (off : Nat), VRL Φ π l m → VRL Φ π vs us → VRL Φ π (List.splice l off vs) (List.splice m off us)
  | [], [], l, m, off, h, _ => by simpa [List.splice] using h
  | x :: vs, c :: us, l, m, off, h, hv => by
    simp only [VRL] at hv
    simp only [List.splice]
    exact VRL.splice (off + 1) (VRL.set off h hv.1) hv.2
  | [], _ :: _, _, _, _, _, h => by simp [VRL] at h
  | _ :: _, [], _, _, _, _, h => by simp [VRL] at h
theorem cells_one {c : Value} (h : ∀ l, c ≠ .agg l) : c.cells = #[c] := by cases c <;> first | rfl | exact absurd rfl (h _)
theorem VR.cells {x : V} {c : Value} (hx : VR Φ π x c) (hany : x ≠ .any) : VRL Φ π x.cells c.cells.toList := by
  cases x
  case agg l => simp only [VR] at hx; obtain ⟨cs, rfl, h⟩ := hx; simpa [V.cells, Value.cells] using h
  case any => exact absurd rfl hany
  all_goals
    have hn : ∀ l, c ≠ .agg l := by
      intro l e; subst e
      first | (simp only [VR] at hx; simp [TR, pv] at hx; done) | (simp only [VR] at hx; obtain ⟨_, _, _, h, _⟩ := hx; simp [pv] at h; done)
    simp only [V.cells, cells_one hn, VRL, and_true]
    exact hx
theorem foldl_splice : ∀ (vs : List Value) (k off : Nat) (cells : Array Value),
    ((vs.zipIdx k).foldl (fun cs (x : Value × Nat) => cs.setIfInBounds (off + x.2) x.1) cells).toList = List.splice cells.toList (off + k) vs
  | [], k, off, cells => rfl
  | v :: vs, k, off, cells => by
    simp only [List.zipIdx_cons, List.foldl_cons, List.splice]
    rw [foldl_splice vs (k + 1) off]
    simp [Nat.add_assoc]
theorem fill_sound {place : Nat → Option (Nat × Nat)} : ∀ {parts : List (Nat × V)} {cparts : List (Nat × Value)} {cells : List V} {ccells : Array Value} {out : List V},
    VRL Φ π cells ccells.toList → parts.map (·.1) = cparts.map (·.1) → VRL Φ π (parts.map (·.2)) (cparts.map (·.2)) → (∀ p ∈ parts, p.2 ≠ .any) → fillV place cells parts = some out →
    ∃ cout, Instr.fill place ccells cparts = some cout ∧ VRL Φ π out cout.toList
  | [], cparts, cells, ccells, out, hc, hi, hp, _, hf => by
    simp [fillV] at hf; subst hf
    cases cparts with
    | nil => exact ⟨_, rfl, hc⟩
    | cons => simp at hi
  | (i, v) :: rest, [], _, _, _, _, hi, _, _, _ => by simp at hi
  | (i, v) :: rest, (j, u) :: crest, cells, ccells, out, hc, hi, hp, ha, hf => by
    simp only [List.map_cons, List.cons.injEq] at hi
    simp only [List.map_cons, VRL] at hp
    obtain ⟨rfl, hi⟩ := hi
    simp only [fillV] at hf
    cases hpl : place i with
    | none => simp [hpl] at hf
    | some os =>
      obtain ⟨off, size⟩ := os
      simp only [hpl] at hf
      split at hf
      · rename_i hb
        simp only [Bool.and_eq_true, beq_iff_eq, decide_eq_true_eq] at hb
        have hvc := VR.cells hp.1 (ha _ (List.mem_cons_self ..))
        have hl1 := VRL.length hvc
        have hl2 := VRL.length hc
        simp only [Array.length_toList] at hl1 hl2
        simp only [Instr.fill, hpl]
        rw [if_neg (by simp; omega)]
        refine fill_sound ?_ hi hp.2 (fun p hp => ha p (List.mem_cons_of_mem _ hp)) hf
        have := foldl_splice u.cells.toList 0 off ccells
        rw [← Array.toList_zipIdx] at this
        have e : (u.cells.zipIdx.foldl (fun cs (x : Value × Nat) => cs.setIfInBounds (off + x.2) x.1) ccells).toList = List.splice ccells.toList off u.cells.toList := by
          rw [← Array.foldl_toList]; simpa using this
        show VRL Φ π _ (Array.foldl (fun cs (x : Value × Nat) => cs.setIfInBounds (off + x.2) x.1) ccells u.cells.zipIdx).toList
        rw [e]
        exact VRL.splice off hc hvc
      · cases hf

theorem run_mapM {α β : Type} {F : α → Sem β} {G : α → β} : ∀ (l : List α), (∀ x ∈ l, ∀ w, (F x).run P w = .ok (G x) w) → ∀ w, (l.mapM F).run P w = .ok (l.map G) w
  | [], _, w => by simp
  | x :: l, h, w => by
    simp [List.mapM_cons, h x (by simp) w, run_mapM l (fun y hy => h y (by simp [hy])) w]
theorem run_mapMA {α β : Type} {F : α → Sem β} {G : α → β} (a : Array α) (h : ∀ x ∈ a.toList, ∀ w, (F x).run P w = .ok (G x) w) (w : World) : (a.mapM F).run P w = .ok (a.map G) w := by
  rw [Array.mapM_eq_mapM_toList]
  simp [run_mapM a.toList h w]
  apply Array.ext'; simp
theorem zeroB_run {t : TypeId} {z : V} (hz : zeroB P t = some z) : ∃ c, (∀ w, (zeroValue t).run P w = .ok c w) ∧ VR Φ π z c := by
  unfold zeroB at hz
  cases hi : P.info? t with
  | none => simp [hi] at hz
  | some i =>
    cases hv : i.zero with
    | none => simp [hi, hv] at hz
    | some c =>
      simp [hi, hv] at hz
      subst hz
      exact ⟨c, fun w => by simp [zeroValue, typeInfo, hi, hv], ofConst_sound c⟩
theorem known_ne {v : V} (h : v.known = true) : v ≠ .any := by intro e; subst e; simp [V.known] at h

theorem build_sound {t : TypeId} {parts : List (Nat × V)} {cparts : Array (Nat × Value)} (hi : parts.map (·.1) = cparts.toList.map (·.1)) (hp : VRL Φ π (parts.map (·.2)) (cparts.toList.map (·.2)))
    (he : EffTo P slot h (buildAct P t parts) v u) : u = .no ∧ Gives P Φ π (Instr.build t cparts) v := by
  unfold buildAct at he
  split at he
  · exact he.elim
  · rename_i hk
    have hk' : ∀ p ∈ parts, p.2 ≠ .any := by
      intro p hp
      simp only [Bool.not_eq_true, Bool.not_eq_false', List.all_eq_true] at hk
      have := hk; simp at this
      exact known_ne (this p.1 p.2 hp)
    split at he
    · rename_i z fs hz hu
      split at he
      · exact he.elim
      · rename_i hall
        split at he
        · rename_i c hf
          obtain ⟨rfl, rfl⟩ := he
          refine ⟨rfl, fun w => ?_⟩
          obtain ⟨zc, hzr, hzv⟩ := zeroB_run (Φ := Φ) (π := π) hz
          simp only [VR] at hzv
          obtain ⟨zs, rfl, hzs⟩ := hzv
          obtain ⟨cout, hfill, hout⟩ := fill_sound hzs hi hp hk' hf
          have hall' : ∀ f ∈ fs.toList, ∃ n, sizeB P f.type = some n := by
            intro f hf
            simp only [Bool.not_eq_true, Bool.not_eq_false', List.all_eq_true] at hall
            have := hall; simp at this
            exact Option.isSome_iff_exists.1 (this f (by simpa using hf))
          have hm := run_mapMA (P := P) (F := fun f : Field => do pure (f.offset, ← sizeOf f.type)) (G := fun f => (f.offset, (sizeB P f.type).getD 0)) fs (by
            intro f hf w
            obtain ⟨n, hn⟩ := hall' f hf
            simp [sizeB_run hn, hn]) w
          have hpl : (fun i : Nat => (fs.map fun f => (f.offset, (sizeB P f.type).getD 0))[i]?) = fun i => (fs[i]?).bind fun f => (sizeB P f.type).map fun n => (f.offset, n) := by
            funext i
            cases hfi : fs[i]? with
            | none => simp [hfi]
            | some f =>
              obtain ⟨n, hn⟩ := hall' f (by simpa using Array.mem_of_getElem? hfi)
              simp [hfi, hn]
          refine ⟨.agg cout, ?_, by simp only [VR]; exact ⟨_, rfl, hout⟩⟩
          simp only [Instr.build, Sem.run_bind, hzr, Result.andThen_ok, run_underlying hu, hm, Value.cells]
          rw [hpl, hfill]
          rfl
        · exact he.elim
    · rename_i z n e hz hu
      split at he
      · rename_i m hs
        split at he
        · rename_i c hf
          obtain ⟨rfl, rfl⟩ := he
          refine ⟨rfl, fun w => ?_⟩
          obtain ⟨zc, hzr, hzv⟩ := zeroB_run (Φ := Φ) (π := π) hz
          simp only [VR] at hzv
          obtain ⟨zs, rfl, hzs⟩ := hzv
          obtain ⟨cout, hfill, hout⟩ := fill_sound hzs hi hp hk' hf
          refine ⟨.agg cout, ?_, by simp only [VR]; exact ⟨_, rfl, hout⟩⟩
          simp only [Instr.build, Sem.run_bind, hzr, Result.andThen_ok, run_underlying hu, sizeB_run hs, Value.cells, hfill]
          rfl
        · exact he.elim
      · exact he.elim
    · exact he.elim

theorem fieldOf_sound {t : TypeId} {x : V} {f : Nat} {c : Value} (hx : VR Φ π x c) (he : EffTo P slot h (fieldOfAct P t x f) v u) : u = .no ∧ Gives P Φ π (Instr.field t c f) v := by
  unfold fieldOfAct at he
  split at he
  · rename_i fd l hfd
    simp only [VR] at hx
    obtain ⟨cs, rfl, hcs⟩ := hx
    obtain ⟨h1, h2⟩ := partV_sound hcs he
    refine ⟨h1, fun w => ?_⟩
    obtain ⟨c', hc', hv⟩ := h2 w
    refine ⟨c', ?_, hv⟩
    unfold fieldB at hfd
    split at hfd
    · rename_i fs hu
      simp [Instr.field, run_underlying hu, hfd, asAgg]
      simpa using hc'
    · cases hfd
  · exact he.elim
theorem partAt_sound {g o : Nat} : ∀ {ss : List (Nat × Nat)} {ps : List V} {off n : Nat} {v : V}, partAt ss ps off n = some v → VRL Φ π ps (ss.map fun s => pv g (o + s.1)) → VR Φ π v (pv g (o + off))
  | [], ps, off, n, v, h, _ => by simp [partAt] at h
  | _ :: _, [], off, n, v, h, _ => by simp [partAt] at h
  | (st, len) :: ss, p :: ps, off, n, v, h, hp => by
    simp only [List.map_cons, VRL] at hp
    unfold partAt at h
    split at h
    · rename_i b o'
      split at h
      · rename_i hc
        simp only [Bool.and_eq_true, decide_eq_true_eq] at hc
        cases h
        have h1 := hp.1
        simp only [VR, pv, Value.pointer.injEq, Option.some.injEq, Addr.mk.injEq] at h1 ⊢
        obtain ⟨A, hA, e1, e2, _⟩ := h1
        exact ⟨A, hA, e1, by omega, trivial⟩
      · exact partAt_sound h hp.2
    · rename_i b m sz
      split at h
      · rename_i hc
        simp only [Bool.and_eq_true, beq_iff_eq, decide_eq_true_eq] at hc
        cases h
        rw [← hc.1.1]; exact hp.1
      · exact partAt_sound h hp.2
    · exact partAt_sound h hp.2
theorem field_run {t : TypeId} {f n : Nat} {fd : Field} (hfd : fieldB P t f = some fd) (hs : sizeB P fd.type = some (n + 1)) (g o : Nat) (w : World) : (Instr.fieldAt t (pv g o) f).run P w = .ok (pv g (o + fd.offset)) w := by
  unfold fieldB at hfd
  split at hfd
  · rename_i fs hu
    simp [Instr.fieldAt, pv, run_underlying hu, hfd, Instr.sureAddr, fieldPlace, sizeB_run hs, Addr.add]
  · cases hfd
theorem field_sound {t : TypeId} {x : V} {f : Nat} {c : Value} (hx : VR Φ π x c) (he : EffTo P slot h (fieldAct P t x f) v u) : u = .no ∧ Gives P Φ π (Instr.fieldAt t c f) v := by
  unfold fieldAct at he
  split at he
  · rename_i fd hfd
    split at he
    · rename_i m hs
      split at he
      · simp only [VR] at hx
        obtain ⟨A, hA, rfl⟩ := hx
        obtain ⟨rfl, rfl⟩ := he
        exact ⟨rfl, fun w => ⟨_, field_run hfd hs _ _ w, by simp only [VR]; exact ⟨A, hA, by rw [Nat.add_assoc]⟩⟩⟩
      · rename_i ss ps off
        simp only [VR] at hx
        obtain ⟨g, o, rfl, hp⟩ := hx
        split at he
        · rename_i v' hv'
          obtain ⟨rfl, rfl⟩ := he
          exact ⟨rfl, fun w => ⟨_, field_run hfd hs _ _ w, by rw [Nat.add_assoc]; exact partAt_sound hv' hp⟩⟩
        · obtain ⟨rfl, rfl⟩ := he
          exact ⟨rfl, fun w => ⟨_, field_run hfd hs _ _ w, by simp only [VR]; exact ⟨g, o, by rw [Nat.add_assoc], hp⟩⟩⟩
      · simp only [VR] at hx
        obtain ⟨g, o, ds, rfl, h1, h2⟩ := hx
        obtain ⟨rfl, rfl⟩ := he
        exact ⟨rfl, fun w => ⟨_, field_run hfd hs _ _ w, by simp only [VR]; exact ⟨g, o, ds, by rw [Nat.add_assoc], h1, h2⟩⟩⟩
      · simp only [VR] at hx
        obtain ⟨A, hA, hi, rfl⟩ := hx
        obtain ⟨rfl, rfl⟩ := he
        exact ⟨rfl, fun w => ⟨_, field_run hfd hs _ _ w, by simp only [VR]; exact ⟨A, hA, hi, by simp only [Nat.add_assoc]⟩⟩⟩
      · simp only [VR] at hx
        obtain ⟨A, r, k, hA, h1, h2, rfl⟩ := hx
        obtain ⟨rfl, rfl⟩ := he
        exact ⟨rfl, fun w => ⟨_, field_run hfd hs _ _ w, by simp only [VR]; exact ⟨A, r, k, hA, h1, h2, by simp only [Nat.add_assoc]⟩⟩⟩
      · exact he.elim
    · exact he.elim
  · exact he.elim
theorem nil_sound {x : V} {c : Value} (hx : VR Φ π x c) (he : EffTo P slot h (nilAct x) v u) : u = .no ∧ v = x ∧ ((∃ a, c = .pointer (some a)) ∨ (∃ t y, c = .iface t y) ∨ (∃ f x y, c = .func (.func f) x y) ∨ (∃ t n, c = .func (.methodOf t n) #[] #[])) := by
  unfold nilAct at he
  split at he <;> (try (exact he.elim)) <;> (obtain ⟨rfl, rfl⟩ := he; refine ⟨rfl, rfl, ?_⟩; simp only [VR, pv] at hx)
  · obtain ⟨A, _, rfl⟩ := hx; exact .inl ⟨_, rfl⟩
  · obtain ⟨A, _, _, _, _, _, rfl⟩ := hx; exact .inl ⟨_, rfl⟩
  · obtain ⟨g, o, rfl, _⟩ := hx; exact .inl ⟨_, rfl⟩
  · obtain ⟨A, _, _, rfl⟩ := hx; exact .inl ⟨_, rfl⟩
  · obtain ⟨A, _, _, rfl⟩ := hx; exact .inl ⟨_, rfl⟩
  · obtain ⟨A, r, k, _, _, _, rfl⟩ := hx; exact .inl ⟨_, rfl⟩
  · obtain ⟨g, o, ds, rfl, _⟩ := hx; exact .inl ⟨_, rfl⟩
  · obtain ⟨cs, rfl, _⟩ := hx; exact .inr (.inr (.inl ⟨_, _, _, rfl⟩))
  · subst hx; exact .inr (.inr (.inr ⟨_, _, rfl⟩))
  · obtain ⟨c', rfl, _⟩ := hx; exact .inr (.inl ⟨_, _, rfl⟩)
end
end
end Go.Eng
