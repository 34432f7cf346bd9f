/- The engine, part S: one step of a region. -/
import Derived.Test.YtdfelkcioeinfaaDoorEnwR
set_option linter.unusedVariables false
set_option linter.unusedSimpArgs false
namespace Go.Eng
open Go Go.RowKit

/-- What a step comes to. -/
def StepR (C : Cfg) (ops : Array Oper) (o : Oper) (slot : Nat) (s s' : S) : Prop :=
  match guardOf ops o s with
  | none => False
  | some (none, gs) => ∃ v u, EffTo C.P slot s.h (effOf C o s gs) v u ∧ s' = S.put { s with h := u.on s.h } o.dst v
  | some (some (g, w, G), gs) =>
    (G = true ∧ ∃ v u, EffTo C.P slot s.h (effOf C o s gs) v u ∧ s' = S.put { s with h := u.on s.h } o.dst v) ∨
    (G = false ∧ s' = s.put o.dst (.tup [])) ∨
    (s.optOk o.dst g = true ∧ ∃ v, (G = true → EffTo C.P slot s.h (effOf C o s gs) v .no) ∧ s' = s.putO o.dst (g, w) v)

theorem guardB_one {s : S} {n g : Nat} {w : Bool} {G : Bool} {gs : List (Nat × Bool)} (h : guardB s n g w = some (G, gs)) : (∃ b, s.t.getD g .any = .bool b ∧ gs = [(g, w)] ∧ G = (if w then b else !b)) ∨ 2 ≤ gs.length := by
  cases n with
  | zero => simp [guardB] at h
  | succ n =>
    simp only [guardB] at h
    split at h
    · rename_i b hb
      simp only [Option.some.injEq, Prod.mk.injEq] at h
      exact .inl ⟨b, hb, h.2.symm, h.1.symm⟩
    · split at h
      · rename_i g' w' b hf
        cases hr : guardB s n g' w' with
        | none => simp [hr] at h
        | some x =>
          obtain ⟨c, l⟩ := x
          simp only [hr, Option.map_some, Option.some.injEq, Prod.mk.injEq] at h
          have hl : 1 ≤ l.length := by
            cases n with
            | zero => simp [guardB] at hr
            | succ n =>
              simp only [guardB] at hr
              split at hr
              · simp only [Option.some.injEq, Prod.mk.injEq] at hr; rw [← hr.2]; simp
              · split at hr
                · rename_i g2 w2 b2 _
                  cases hr2 : guardB s n g2 w2 with
                  | none => simp [hr2] at hr
                  | some y => simp only [hr2, Option.map_some, Option.some.injEq, Prod.mk.injEq] at hr; rw [← hr.2]; simp
                · rename_i g2 w2 _
                  cases hr2 : guardB s n g2 w2 with
                  | none => simp [hr2] at hr
                  | some y => simp only [hr2, Option.map_some, Option.some.injEq, Prod.mk.injEq] at hr; rw [← hr.2]; simp
                · cases hr
          right; rw [← h.2]; simp; omega
      · rename_i g' w' hf
        cases hr : guardB s n g' w' with
        | none => simp [hr] at h
        | some x =>
          obtain ⟨c, l⟩ := x
          simp only [hr, Option.map_some, Option.some.injEq, Prod.mk.injEq] at h
          have hl : 1 ≤ l.length := by
            cases n with
            | zero => simp [guardB] at hr
            | succ n =>
              simp only [guardB] at hr
              split at hr
              · simp only [Option.some.injEq, Prod.mk.injEq] at hr; rw [← hr.2]; simp
              · split at hr
                · rename_i g2 w2 b2 _
                  cases hr2 : guardB s n g2 w2 with
                  | none => simp [hr2] at hr
                  | some y => simp only [hr2, Option.map_some, Option.some.injEq, Prod.mk.injEq] at hr; rw [← hr.2]; simp
                · rename_i g2 w2 _
                  cases hr2 : guardB s n g2 w2 with
                  | none => simp [hr2] at hr
                  | some y => simp only [hr2, Option.map_some, Option.some.injEq, Prod.mk.injEq] at hr; rw [← hr.2]; simp
                · cases hr
          right; rw [← h.2]; simp; omega
      · cases h
theorem lit_eq {s : S} {n g : Nat} {w : Bool} {G : Bool} {gs : List (Nat × Bool)} (h : guardB s n g w = some (G, gs)) : s.lit gs G = s := by
  rcases guardB_one h with ⟨b, hb, rfl, rfl⟩ | hl
  · simp only [S.lit]
    have : (if (if w then b else !b) = true then w else !w) = b := by cases w <;> cases b <;> rfl
    rw [this]
    have hset : s.t.set g (.bool b) = s.t := by
      rw [List.getD_eq_getElem?_getD] at hb
      rcases Nat.lt_or_ge g s.t.length with hlt | hge
      · rw [List.getElem?_eq_getElem hlt] at hb
        simp at hb
        rw [← hb]; exact List.set_getElem_self hlt
      · exact List.set_eq_of_length_le hge
    rw [hset]
  · match gs, hl with
    | _ :: _ :: _, _ => rfl

section
variable (P : Program)
theorem binInt_ok (op : BinOp) (k : IntKind) (a b : Int) : EffOk P (binInt op k a b) := by cases op <;> simp [binInt, EffOk]
theorem shiftInt_ok (op : BinOp) (k : IntKind) (a b : Int) : EffOk P (shiftInt op k a b) := by cases op <;> simp [shiftInt, EffOk]
theorem nilEq_ok (t : TypeId) (x : V) (neg : Bool) : EffOk P (nilEq P t x neg) := by
  unfold nilEq
  (repeat' split) <;> first | trivial | exact ⟨trivial, trivial⟩
theorem binAct_ok (op : BinOp) (t : TypeId) (x y : V) : EffOk P (binAct P op t x y) := by
  unfold binAct
  split
  · split
    · exact ⟨trivial, shiftInt_ok P _ _ _ _⟩
    · exact shiftInt_ok P _ _ _ _
  · split
    · exact ⟨trivial, shiftInt_ok P _ _ _ _⟩
    · exact shiftInt_ok P _ _ _ _
  · split
    · exact binInt_ok P _ _ _ _
    · trivial
  all_goals (try split) <;> first | trivial | exact nilEq_ok P _ _ _
theorem partV_ok (t : TypeId) (c : List V) (off : Nat) : EffOk P (partV P t c off) := by
  unfold partV; repeat' split
  all_goals trivial
theorem loadAct_ok (t : TypeId) (x : V) (h : List Blk) : EffOk P (loadAct P t x h) := by
  unfold loadAct; repeat' split
  all_goals first | trivial | exact partV_ok P _ _ _ | exact ⟨partV_ok P _ _ _, trivial⟩
theorem extAct_ok (np : Bool) (fn : Func) (args : List V) : EffOk P (extAct np P fn args) := by
  unfold extAct; repeat' split
  all_goals trivial
theorem enterAct_ok {C : Cfg} (hC : CfgOk C) (g : FuncId) (args : List V) (h : List Blk) : EffOk C.P (enterAct C g args h) := by
  unfold enterAct
  split
  · split
    · trivial
    · split
      · exact extAct_ok _ _ _ _
      · trivial
  · repeat' split
    all_goals first | trivial | (rename_i hsp _; exact hC.spec _ _ hsp) | (rename_i hsp _ _; exact hC.spec _ _ hsp)
theorem callAct_ok {C : Cfg} (hC : CfgOk C) (f : V) (args : List V) (h : List Blk) : EffOk C.P (callAct C f args h) := by
  unfold callAct; repeat' split
  all_goals first | trivial | exact enterAct_ok hC _ _ _
theorem invokeAct_ok {C : Cfg} (hC : CfgOk C) (f : V) (n : String) (args : List V) (h : List Blk) : EffOk C.P (invokeAct C f n args h) := by
  unfold invokeAct; repeat' split
  all_goals first | trivial | exact enterAct_ok hC _ _ _
theorem lookV_ok {k : IntKind} {n : Int} {d : Eff} {hit : V → Eff} (hd : EffOk P d) (hh : ∀ v, EffOk P (hit v)) : ∀ es : List (V × V), EffOk P (lookV k n d hit es)
  | [] => hd
  | (x, v) :: r => by
    cases x <;> simp only [lookV] <;> try trivial
    split
    · exact ⟨hh v, lookV_ok hd hh r⟩
    · trivial
end
theorem newVarE_ok (P : Program) (t : TypeId) (c : List V) : EffOk P (newVarE P t c) := by
  unfold newVarE; (repeat' split) <;> trivial
theorem opAct_ok {C : Cfg} (hC : CfgOk C) (op : Op) (ρ : Operand → V) (h : List Blk) : EffOk C.P (opAct C op ρ h) := by
  cases op <;> simp only [opAct] <;> (try trivial)
  case binOp => (repeat' split) <;> first | trivial | exact binAct_ok _ _ _ _ _
  case load => exact loadAct_ok _ _ _ _
  case alloc => (repeat' split) <;> first | trivial | exact newVarE_ok _ _ _
  case box => (repeat' split) <;> first | trivial | exact newVarE_ok _ _ _
  case field => unfold fieldOfAct; split <;> first | trivial | exact partV_ok _ _ _ _
  case lookup =>
    unfold lookupAct
    (repeat' split) <;> first | trivial | exact lookV_ok _ (by simp only [EffOk]) (fun _ => by simp only [EffOk]) _
  case call c =>
    obtain ⟨callee, args, ts⟩ := c
    cases callee with
    | value f => exact callAct_ok hC _ _ _
    | invoke r m => exact invokeAct_ok hC _ _ _ _
    | builtin b =>
      simp only; unfold builtinAct lenAct appendAct copyAct
      (repeat' split) <;> (repeat' (first | trivial | apply And.intro))
  case makeFunc fn first cap => cases fn <;> simp only <;> (try split) <;> trivial
  all_goals (first | unfold storeAct | unfold fieldAct | unfold indexAct | unfold buildAct | unfold nilAct | unfold unAct | unfold convAct | unfold sliceAct | unfold makeAct | unfold buildSliceAct | unfold assertAct | unfold insertAct | unfold idxAct | skip)
  all_goals (repeat' split)
  all_goals (repeat' (first | trivial | apply And.intro))
theorem effOf_ok {C : Cfg} (hC : CfgOk C) (o : Oper) (s : S) (gs : List (Nat × Bool)) : EffOk C.P (effOf C o s gs) := by
  unfold effOf
  split
  · unfold pickEff; split <;> first | trivial | exact ⟨trivial, trivial⟩
  · exact opAct_ok hC _ _ _

theorem guardOf_some {ops : Array Oper} {o : Oper} {s : S} {g : Nat} {w G : Bool} {gs : List (Nat × Bool)} (hg : guardOf ops o s = some (some (g, w, G), gs)) :
    ∃ j, o.guard = some (j, w) ∧ (ops[j]?).bind (·.dst) = some g ∧ guardB s 4 g w = some (G, gs) := by
  unfold guardOf at hg
  split at hg
  · cases hg
  · rename_i j w' hgd
    split at hg
    · cases hg
    · rename_i g' hd
      cases hx : guardB s 4 g' w' with
      | none => rw [hx] at hg; cases hg
      | some x =>
        rw [hx] at hg
        simp only [Option.map_some, Option.some.injEq, Prod.mk.injEq] at hg
        obtain ⟨⟨rfl, rfl, rfl⟩, rfl⟩ := hg
        exact ⟨j, hgd, hd, hx⟩
theorem guardOf_none {ops : Array Oper} {o : Oper} {s : S} {gs : List (Nat × Bool)} (hg : guardOf ops o s = some (none, gs)) : o.guard = none ∧ gs = [] := by
  unfold guardOf at hg
  split at hg
  · rename_i h; cases hg; exact ⟨h, rfl⟩
  · split at hg
    · cases hg
    · rename_i j w' _ _ g' _
      cases hx : guardB s 4 g' w' with
      | none => rw [hx] at hg; cases hg
      | some x => rw [hx] at hg; cases hg

theorem stepK_to {C : Cfg} (hC : CfgOk C) {R : Type} {rec : Rec R} (hrec : RecOk C.P rec) {ops : Array Oper} {o : Oper} {slot : Nat} {s : S} {k : S → Option R} {r : R} (h : stepK C rec ops o slot s k = some r) :
    ∃ s', StepR C ops o slot s s' ∧ k s' = some r := by
  unfold stepK at h
  unfold StepR
  split at h
  · cases h
  · rename_i gs hg
    rw [hg]
    obtain ⟨v, u, h1, h2⟩ := Eff.run_to hrec (effOf_ok hC o s gs) h
    exact ⟨_, ⟨v, u, h1, rfl⟩, h2⟩
  · rename_i g w G gs hg
    rw [hg]
    obtain ⟨_, _, _, hgb⟩ := guardOf_some hg
    split at h
    · rename_i v hok he
      exact ⟨_, .inr (.inr ⟨hok, v, fun _ => by rw [he]; exact ⟨rfl, rfl⟩, rfl⟩), (forceV_eq v _).symm.trans h⟩
    · rename_i c v hok he
      rcases br_some h with ⟨hc, h⟩ | ⟨_, h⟩
      · refine ⟨_, .inr (.inr ⟨hok, v, fun hG => ?_, rfl⟩), h⟩
        rw [he]
        simp [W.or2, W.not, hG] at hc
        exact .inl ⟨hc, rfl, rfl⟩
      · cases h
    · rename_i c v hok he
      rcases br_some h with ⟨hc, h⟩ | ⟨_, h⟩
      · refine ⟨_, .inr (.inr ⟨hok, v, fun hG => ?_, rfl⟩), h⟩
        rw [he]
        simp [W.or2, W.not, hG] at hc
        exact .inr ⟨hc, rfl, rfl⟩
      · cases h
    · rcases br_some h with ⟨hG, h⟩ | ⟨hG, h⟩
      · have hl := lit_eq hgb
        rw [hG] at hl; rw [hl] at h
        obtain ⟨v, u, h1, h2⟩ := Eff.run_to hrec (effOf_ok hC o s gs) h
        exact ⟨_, .inl ⟨hG, v, u, h1, rfl⟩, h2⟩
      · have hl := lit_eq hgb
        rw [hG] at hl; rw [hl] at h
        exact ⟨_, .inr (.inl ⟨hG, rfl⟩), h⟩

section
variable {Φ : Fr} {w w1 : World} {π : Pi} {C : Cfg} {s : S} {a : Go.Act}

theorem Act.getD_put {a : Go.Act} {d u : Nat} {c : Value} : (a.put (some d) c).tmps.getD u undef = if u = d ∧ d < a.tmps.size then c else a.tmps.getD u undef := by
  simp only [Act.put, Array.getD_eq_getD_getElem?, Array.getElem?_setIfInBounds]
  by_cases h : d = u
  · subst h
    by_cases h2 : d < a.tmps.size
    · simp [h2]
    · simp [h2]
  · rw [if_neg h, if_neg (fun e => h e.1.symm)]
theorem List.getD_set' {l : List V} {d u : Nat} {v : V} : (l.set d v).getD u .any = if u = d ∧ d < l.length then v else l.getD u .any := by
  simp only [List.getD_eq_getElem?_getD, List.getElem?_set]
  by_cases h : d = u
  · subst h
    by_cases h2 : d < l.length
    · simp [h2]
    · simp [h2]
  · rw [if_neg h, if_neg (fun e => h e.1.symm)]
theorem getO_kill {l : List (Option (Nat × Bool × V))} {d u g : Nat} {b : Bool} {v : V} {x : Option (Nat × Bool × V)} (h : ((l.map (killO d)).set d x).getD u none = some (g, b, v)) :
    (u = d ∧ x = some (g, b, v)) ∨ (u ≠ d ∧ g ≠ d ∧ l.getD u none = some (g, b, v)) := by
  simp only [List.getD_eq_getElem?_getD, List.getElem?_set] at h
  split at h
  · rename_i e; subst e
    split at h
    · exact .inl ⟨rfl, by simpa using h⟩
    · simp at h
  · rename_i e
    rw [List.getElem?_map] at h
    cases hx : l[u]? with
    | none => simp [hx] at h
    | some y =>
      simp only [hx, Option.map_some, Option.getD_some] at h
      cases y with
      | none => simp [killO] at h
      | some y =>
        obtain ⟨g', b', v'⟩ := y
        simp only [killO] at h
        split at h
        · cases h
        · rename_i hg
          simp only [Option.some.injEq, Prod.mk.injEq] at h
          obtain ⟨rfl, rfl, rfl⟩ := h
          exact .inr ⟨fun e' => e e'.symm, by simpa using hg, by simp [List.getD_eq_getElem?_getD, hx]⟩
theorem SR.put (hs : SR Φ w1 π s a w) {d : Option Nat} {v : V} {c : Value} (hv : VR Φ π v c) : SR Φ w1 π (s.put d v) (a.put d c) w := by
  cases d with
  | none => exact hs
  | some d =>
    refine ⟨by simp [S.put, Act.put, hs.len], fun u => ?_, fun u g b v' hm => ?_, hs.df, hs.hp⟩
    · rw [Act.getD_put]
      show VR Φ π ((s.t.set d v).getD u .any) _
      rw [List.getD_set', hs.len]
      split
      · exact hv
      · exact hs.tm u
    · rcases getO_kill hm with ⟨_, e⟩ | ⟨h1, h2, hm⟩
      · cases e
      · rw [Act.getD_put, if_neg (fun e => h2 e.1), Act.getD_put, if_neg (fun e => h1 e.1)]
        exact hs.op u g b v' hm
theorem SR.putO (hs : SR Φ w1 π s a w) {d g : Nat} {b : Bool} {v : V} {c : Value} (hd : d < s.t.length) (hne : d ≠ g) (h1 : a.tmps.getD g undef = .bool b → VR Φ π v c) (h2 : a.tmps.getD g undef ≠ .bool b → c = undef) :
    SR Φ w1 π (s.putO (some d) (g, b) v) (a.put (some d) c) w := by
  have hp := hs.put (d := some d) (v := .any) (c := c) (by simp [VR])
  refine ⟨hp.len, hp.tm, fun u g' b' v' hm => ?_, hp.df, hp.hp⟩
  rcases getO_kill hm with ⟨rfl, e⟩ | ⟨h3, h4, hm⟩
  · simp only [Option.some.injEq, Prod.mk.injEq] at e
    obtain ⟨rfl, rfl, rfl⟩ := e
    rw [Act.getD_put, if_neg (fun e => hne e.1.symm), Act.getD_put, if_pos ⟨rfl, by rw [← hs.len]; exact hd⟩]
    exact ⟨h1, h2⟩
  · rw [Act.getD_put, if_neg (fun e => h4 e.1), Act.getD_put, if_neg (fun e => h3 e.1)]
    exact hs.op u g' b' v' hm

/-- All guards of a list hold. -/
def Holds (a : Go.Act) (gs : List (Nat × Bool)) : Prop := ∀ g b, (g, b) ∈ gs → a.tmps.getD g undef = .bool b
theorem rd_sound (hs : SR Φ w1 π s a w) {gs : List (Nat × Bool)} (hg : Holds a gs) (x : Operand) : VR Φ π (s.rd gs x) (a.eval x) := by
  cases x with
  | tmp u =>
    simp only [S.rd, Act.eval]
    split
    · rename_i g b v hm
      split
      · rename_i hany
        simp only [List.any_eq_true, Bool.and_eq_true, beq_iff_eq] at hany
        obtain ⟨⟨x1, x2⟩, hx, rfl, rfl⟩ := hany
        exact (hs.op u x1 x2 v hm).1 (hg x1 x2 hx)
      · exact hs.tm u
    · exact hs.tm u
  | const v => exact ofConst_sound v
  | global g => simp [S.rd, VR]
  | func f => simp only [S.rd, Act.eval, VR]; exact ⟨_, rfl, by simp [VRL]⟩

theorem guardB_sound (hs : SR Φ w1 π s a w) : ∀ {n g : Nat} {b G : Bool} {gs : List (Nat × Bool)}, guardB s n g b = some (G, gs) →
    (G = true ∧ a.tmps.getD g undef = .bool b ∧ Holds a gs) ∨ (G = false ∧ a.tmps.getD g undef ≠ .bool b)
  | 0, g, b, G, gs, h => by simp [guardB] at h
  | n + 1, g, b, G, gs, h => by
    simp only [guardB] at h
    split at h
    · rename_i c hc
      simp only [Option.some.injEq, Prod.mk.injEq] at h
      obtain ⟨rfl, rfl⟩ := h
      have hv := hs.tm g
      rw [hc] at hv
      simp only [VR] at hv
      have hG : (if b = true then c else W.not c) = (b == c) := by cases b <;> cases c <;> rfl
      rw [hG, hv]
      by_cases hbc : b = c
      · subst hbc
        exact .inl ⟨by simp, rfl, fun g' b' hm => by simp at hm; obtain ⟨rfl, rfl⟩ := hm; exact hv⟩
      · exact .inr ⟨by simpa using hbc, fun e => hbc (by cases e; rfl)⟩
    · split at h
      · rename_i g' b' c hf
        cases hr : guardB s n g' b' with
        | none => simp [hr] at h
        | some x =>
          obtain ⟨G', l⟩ := x
          simp only [hr, Option.map_some, Option.some.injEq, Prod.mk.injEq] at h
          obtain ⟨rfl, rfl⟩ := h
          obtain ⟨h1, h2⟩ := hs.op _ _ _ _ hf
          rcases guardB_sound hs hr with ⟨rfl, h3, h4⟩ | ⟨rfl, h3⟩
          · have h5 := h1 h3
            simp only [VR] at h5
            have hG : W.and2 true (if b = true then c else W.not c) = (b == c) := by cases b <;> cases c <;> rfl
            rw [hG, h5]
            by_cases hbc : b = c
            · subst hbc
              refine .inl ⟨by simp, rfl, fun g'' b'' hm => ?_⟩
              rcases List.mem_cons.1 hm with hm | hm
              · cases hm; exact h5
              · exact h4 _ _ hm
            · exact .inr ⟨by simpa using hbc, fun e => hbc (by cases e; rfl)⟩
          · have h5 := h2 h3
            right
            refine ⟨by simp [W.and2], ?_⟩
            rw [h5]; simp [undef]
      · rename_i g' b' hf
        cases hr : guardB s n g' b' with
        | none => simp [hr] at h
        | some x =>
          obtain ⟨G', l⟩ := x
          simp only [hr, Option.map_some, Option.some.injEq, Prod.mk.injEq] at h
          obtain ⟨rfl, rfl⟩ := h
          obtain ⟨h1, h2⟩ := hs.op _ _ _ _ hf
          refine .inr ⟨rfl, ?_⟩
          rcases guardB_sound hs hr with ⟨rfl, h3, h4⟩ | ⟨rfl, h3⟩
          · have h5 := h1 h3
            simp only [VR] at h5
            obtain ⟨cs, h5, _⟩ := h5
            rw [h5]; simp
          · rw [h2 h3]; simp [undef]
      · cases h

theorem pick_sound {P : Program} {slot : Nat} {h : List Blk} {v : V} {u : Upd} {c x y : V} {cc cx cy : Value} (hc : VR Φ π c cc) (hx : cc = .bool true → VR Φ π x cx) (hy : cc = .bool false → VR Φ π y cy)
    (he : EffTo P slot h (pickEff c x y) v u) : u = .no ∧ ∃ b, cc = .bool b ∧ VR Φ π v (if b then cx else cy) := by
  unfold pickEff at he
  split at he
  · simp only [VR] at hc; subst hc
    obtain ⟨rfl, rfl⟩ := he
    refine ⟨rfl, _, rfl, ?_⟩
    rename_i b p q
    cases b
    · simpa [W.pick] using hy rfl
    · simpa [W.pick] using hx rfl
  · simp only [VR] at hc; subst hc
    rcases he with ⟨hb, rfl, rfl⟩ | ⟨hb, rfl, rfl⟩
    · subst hb; exact ⟨rfl, _, rfl, hx rfl⟩
    · subst hb; exact ⟨rfl, _, rfl, hy rfl⟩
  · exact he.elim

theorem eff_sound (hC : CfgOk C) (hs : SR Φ w1 π s a w) {o : Oper} {gs : List (Nat × Bool)} {slot : Nat} {v : V} {u : Upd} (hg : Holds a gs) (he : EffTo C.P slot s.h (effOf C o s gs) v u) :
    Good C.P o a w (Post Φ w1 π s.h v u) := by
  unfold effOf at he
  split at he
  · rename_i c x y hop
    have h1 := rd_sound hs hg (.tmp c)
    obtain ⟨rfl, b, hb, hv⟩ := pick_sound h1 (fun e => rd_sound (gs := (c, true) :: gs) hs (by
        intro g b hm
        rcases List.mem_cons.1 hm with hm | hm
        · cases hm; exact e
        · exact hg _ _ hm) x) (fun e => rd_sound (gs := (c, false) :: gs) hs (by
        intro g b hm
        rcases List.mem_cons.1 hm with hm | hm
        · cases hm; exact e
        · exact hg _ _ hm) y) he
    refine Good.value (c := if b then a.eval x else a.eval y) (w' := w) ?_ (Post.mk (Pi.le_refl _) hs.hp hv)
    simp only [execOp, hop, hb, Sem.run_bind, asBool, Sem.run_pure, Result.andThen_ok]
  · rename_i op hnp
    exact op_sound hC hs.hp (fun x _ => rd_sound hs hg x) he

theorem SR.heap {Φ' : Fr} {π' : Pi} {h' : List Blk} {w' : World} (hs : SR Φ w1 π s a w) (hf : Φ.le Φ') (hle : π.le π') (hh : HR Φ' w1 π' h' w') : SR Φ' w1 π' { s with h := h' } a w' :=
  ⟨hs.len, fun u => VR.mono hf hle (hs.tm u), fun u g b v hm => ⟨fun e => VR.mono hf hle ((hs.op u g b v hm).1 e), (hs.op u g b v hm).2⟩, hs.df, hh⟩

/-- What a step of the model's region is to show. -/
def StepGoal (P : Program) (ops : Array Oper) (o : Oper) (a : Go.Act) (w : World) (K : Go.Act → World → Prop) (Q : Exit → Go.Act → World → Prop) : Prop :=
  if Region.wanted o (yielded ops a.tmps) = true then o.wp P a w K Q else K (a.put o.dst undef) w
theorem yielded_eq {ops : Array Oper} {tmps : Array Value} {j g : Nat} (hd : (ops[j]?).bind (·.dst) = some g) (b : Bool) : (yielded ops tmps j == some b) = true ↔ tmps.getD g undef = .bool b := by
  unfold yielded
  rw [hd]
  simp only [Option.bind_some, Array.getD_eq_getD_getElem?]
  cases hx : tmps[g]? with
  | none => simp [undef]
  | some v => cases v <;> simp

theorem step_sound (hC : CfgOk C) {ops : Array Oper} {o : Oper} {slot : Nat} {s' : S} (hs : SR Φ w1 π s a w) (hst : StepR C ops o slot s s') {K : Go.Act → World → Prop} {Q : Exit → Go.Act → World → Prop}
    (hk : ∀ Φ' π' a' w', Fr.ext w1.heap.size Φ Φ' → π.le π' → SR Φ' w1 π' s' a' w' → K a' w') : StepGoal C.P ops o a w K Q := by
  unfold StepR at hst
  unfold StepGoal
  split at hst
  · exact hst.elim
  · rename_i gs hg
    obtain ⟨hgn, rfl⟩ := guardOf_none hg
    have hw : Region.wanted o (yielded ops a.tmps) = true := by simp [Region.wanted, hgn]
    rw [if_pos hw]
    obtain ⟨v, u, he, rfl⟩ := hst
    refine eff_sound hC hs (gs := []) (by intro g b hm; cases hm) he K Q ?_
    rintro c w' ⟨Φ', π', hx, hle, hh, hv⟩
    exact hk Φ' π' _ _ hx hle (SR.put (hs.heap hx.le hle hh) hv)
  · rename_i g b G gs hg
    obtain ⟨j, hgd, hd, hgb⟩ := guardOf_some hg
    have hw : Region.wanted o (yielded ops a.tmps) = true ↔ a.tmps.getD g undef = .bool b := by
      unfold Region.wanted
      rw [hgd]
      exact yielded_eq hd b
    have hsnd := guardB_sound hs hgb
    rcases hst with ⟨rfl, v, u, he, rfl⟩ | ⟨rfl, rfl⟩ | ⟨hok, v, he, rfl⟩
    · obtain ⟨_, h1, h2⟩ := hsnd.resolve_right (by simp)
      rw [if_pos (hw.2 h1)]
      refine eff_sound hC hs h2 he K Q ?_
      rintro c w' ⟨Φ', π', hx, hle, hh, hv⟩
      exact hk Φ' π' _ _ hx hle (SR.put (hs.heap hx.le hle hh) hv)
    · obtain ⟨_, h1⟩ := hsnd.resolve_left (by simp)
      rw [if_neg (fun e => h1 (hw.1 e))]
      exact hk Φ π _ _ (Fr.ext.refl _ _) (Pi.le_refl _) (hs.put (VR.tup0 rfl))
    · cases hdst : o.dst with
      | none => rw [hdst] at hok; simp [S.optOk] at hok
      | some d =>
        rw [hdst] at hok hk
        simp only [S.optOk, Bool.and_eq_true, decide_eq_true_eq, bne_iff_ne, ne_eq] at hok
        obtain ⟨hok1, _, hok2⟩ := hok
        replace hok := And.intro hok1 hok2
        rcases hsnd with ⟨rfl, h1, h2⟩ | ⟨rfl, h1⟩
        · rw [if_pos (hw.2 h1)]
          refine eff_sound hC hs h2 (he rfl) K Q ?_
          rintro c w' ⟨Φ', π', hx, hle, hh, hv⟩
          rw [hdst]
          exact hk Φ' π' _ _ hx hle (SR.putO (hs.heap hx.le hle hh) hok.1 hok.2 (fun _ => hv) (fun e => absurd h1 e))
        · rw [if_neg (fun e => h1 (hw.1 e))]
          exact hk Φ π _ _ (Fr.ext.refl _ _) (Pi.le_refl _) (SR.putO hs hok.1 hok.2 (fun e => absurd e h1) (fun _ => rfl))
end
end Go.Eng
