/- The engine, part U: two steps that may change places. -/
import Derived.Test.YtdfelkcioeinfaaDoorEnwT
set_option linter.unusedVariables false
set_option linter.unusedSimpArgs false
namespace Go.Eng
open Go Go.RowKit

inductive Pt where
  | put (v : V) | opt (g : Nat) (w : Bool) (v : V)
def Pt.val : Pt → V
  | .put v => v
  | .opt _ _ _ => .any
def S.app (s : S) (d : Option Nat) (p : Pt) (u : Upd) : S :=
  match p with
  | .put v => S.put { s with h := u.on s.h } d v
  | .opt g w v => S.putO { s with h := u.on s.h } d (g, w) v
def StepO (C : Cfg) (ops : Array Oper) (o : Oper) (slot : Nat) (s : S) (p : Pt) (u : Upd) : Prop :=
  match guardOf ops o s with
  | none => False
  | some (none, gs) => ∃ v, p = .put v ∧ EffTo C.P slot s.h (effOf C o s gs) v u
  | some (some (g, w, G), gs) =>
    (G = true ∧ ∃ v, p = .put v ∧ EffTo C.P slot s.h (effOf C o s gs) v u) ∨
    (G = false ∧ p = .put (.tup []) ∧ u = .no) ∨
    (s.optOk o.dst g = true ∧ u = .no ∧ ∃ v, p = .opt g w v ∧ (G = true → EffTo C.P slot s.h (effOf C o s gs) v .no))
theorem StepR.out {C : Cfg} {ops : Array Oper} {o : Oper} {slot : Nat} {s s' : S} (h : StepR C ops o slot s s') : ∃ p u, StepO C ops o slot s p u ∧ s' = s.app o.dst p u := by
  unfold StepR at h
  unfold StepO
  split at h
  · exact h.elim
  · rename_i gs hg
    obtain ⟨v, u, h1, rfl⟩ := h
    exact ⟨.put v, u, by rw [hg]; exact ⟨v, rfl, h1⟩, rfl⟩
  · rename_i g w G gs hg
    rcases h with ⟨hG, v, u, h1, rfl⟩ | ⟨hG, rfl⟩ | ⟨hok, v, h1, rfl⟩
    · exact ⟨.put v, u, by rw [hg]; exact .inl ⟨hG, v, rfl, h1⟩, rfl⟩
    · exact ⟨.put (.tup []), .no, by rw [hg]; exact .inr (.inl ⟨hG, rfl, rfl⟩), rfl⟩
    · exact ⟨.opt g w v, .no, by rw [hg]; exact .inr (.inr ⟨hok, rfl, v, rfl, h1⟩), rfl⟩
theorem StepO.step {C : Cfg} {ops : Array Oper} {o : Oper} {slot : Nat} {s : S} {p : Pt} {u : Upd} (h : StepO C ops o slot s p u) : StepR C ops o slot s (s.app o.dst p u) := by
  unfold StepO at h
  unfold StepR
  split at h
  · exact h.elim
  · rename_i gs hg
    obtain ⟨v, rfl, h1⟩ := h
    rw [hg]; exact ⟨v, u, h1, rfl⟩
  · rename_i g w G gs hg
    rcases h with ⟨hG, v, rfl, h1⟩ | ⟨hG, rfl, rfl⟩ | ⟨hok, rfl, v, rfl, h1⟩
    · rw [hg]; exact .inl ⟨hG, v, u, h1, rfl⟩
    · rw [hg]; exact .inr (.inl ⟨hG, rfl⟩)
    · rw [hg]; exact .inr (.inr ⟨hok, v, h1, rfl⟩)

/-! ### what a step leaves of the slots -/
def Fresh (s : S) (d : Option Nat) : Prop := ∀ x, d = some x → freshO s x = true
theorem fresh_iff {s : S} {d : Nat} : freshO s d = true ↔ s.o.getD d none = none ∧ ∀ u g w v, s.o.getD u none = some (g, w, v) → g ≠ d := by
  simp only [freshO, Bool.and_eq_true, Option.isNone_iff_eq_none, List.all_eq_true]
  constructor
  · rintro ⟨h1, h2⟩
    refine ⟨h1, fun u g w v hu => ?_⟩
    rw [List.getD_eq_getElem?_getD] at hu
    cases hx : s.o[u]? with
    | none => simp [hx] at hu
    | some y =>
      simp [hx] at hu; subst hu
      have := h2 _ (List.mem_of_getElem? hx)
      simpa using this
  · rintro ⟨h1, h2⟩
    refine ⟨h1, fun e he => ?_⟩
    obtain ⟨u, hu⟩ := List.mem_iff_getElem?.1 he
    cases e with
    | none => rfl
    | some x =>
      obtain ⟨g, w, v⟩ := x
      have := h2 u g w v (by rw [List.getD_eq_getElem?_getD, hu]; rfl)
      simpa using this
theorem app_t (s : S) (d : Option Nat) (p : Pt) (u : Upd) : (s.app d p u).t = match d with | none => s.t | some d => s.t.set d p.val := by
  cases p <;> cases d <;> rfl
theorem app_h (s : S) (d : Option Nat) (p : Pt) (u : Upd) : (s.app d p u).h = u.on s.h := by
  cases p <;> cases d <;> rfl
theorem kill_set {l : List (Option (Nat × Bool × V))} {d : Nat} {x : Option (Nat × Bool × V)} (h1 : l.getD d none = none) (h2 : ∀ u g w v, l.getD u none = some (g, w, v) → g ≠ d) : (l.map (killO d)).set d x = l.set d x := by
  apply List.ext_getElem?
  intro i
  simp only [List.getElem?_set, List.length_map]
  split
  · rfl
  · rename_i hne
    rw [List.getElem?_map]
    cases hx : l[i]? with
    | none => rfl
    | some y =>
      cases y with
      | none => rfl
      | some y =>
        obtain ⟨g, w, v⟩ := y
        have := h2 i g w v (by rw [List.getD_eq_getElem?_getD, hx]; rfl)
        simp [killO, this]
theorem set_none {l : List (Option (Nat × Bool × V))} {d : Nat} (h1 : l.getD d none = none) : l.set d none = l := by
  apply List.ext_getElem?
  intro i
  rw [List.getElem?_set]
  split
  · rename_i e; subst e
    split
    · rename_i hl
      rw [List.getD_eq_getElem?_getD, List.getElem?_eq_getElem hl] at h1
      simp at h1
      rw [List.getElem?_eq_getElem hl, h1]
    · rename_i hl
      rw [List.getElem?_eq_none (by omega)]
  · rfl
def Pt.ent : Pt → Option (Nat × Bool × V)
  | .put _ => none
  | .opt g w v => some (g, w, v)
def oPut (o : List (Option (Nat × Bool × V))) (d : Option Nat) (e : Option (Nat × Bool × V)) : List (Option (Nat × Bool × V)) :=
  match d with
  | none => o
  | some d => o.set d e
theorem app_o {s : S} {d : Option Nat} (hf : Fresh s d) (p : Pt) (u : Upd) : (s.app d p u).o = oPut s.o d p.ent := by
  cases d with
  | none => cases p <;> rfl
  | some d =>
    obtain ⟨h1, h2⟩ := fresh_iff.1 (hf d rfl)
    cases p with
    | put v => exact kill_set h1 h2
    | opt g w v => exact kill_set h1 h2

/-- Two states that look alike at some slots. -/
structure Alike' (rs : List Nat) (s s1 : S) : Prop where
  lt : s1.t.length = s.t.length
  lo : s1.o.length = s.o.length
  t : ∀ i ∈ rs, s1.t.getD i .any = s.t.getD i .any
  o : ∀ i ∈ rs, s1.o.getD i none = s.o.getD i none
theorem Alike'.symm {rs : List Nat} {s s1 : S} (h : Alike' rs s s1) : Alike' rs s1 s := ⟨h.lt.symm, h.lo.symm, fun i hi => (h.t i hi).symm, fun i hi => (h.o i hi).symm⟩
theorem Alike'.sub {rs rs' : List Nat} {s s1 : S} (h : Alike' rs s s1) (hs : ∀ i ∈ rs', i ∈ rs) : Alike' rs' s s1 := ⟨h.lt, h.lo, fun i hi => h.t i (hs i hi), fun i hi => h.o i (hs i hi)⟩
theorem app_alike {s : S} {d : Option Nat} (hf : Fresh s d) (p : Pt) (u : Upd) {rs : List Nat} (hd : ∀ x, d = some x → x ∉ rs) : Alike' rs s (s.app d p u) := by
  cases d with
  | none => exact ⟨by rw [app_t], by rw [app_o hf]; rfl, fun i _ => by rw [app_t], fun i _ => by rw [app_o hf]; rfl⟩
  | some d =>
    have hd' := hd d rfl
    refine ⟨by rw [app_t]; simp, by rw [app_o hf]; simp [oPut], fun i hi => ?_, fun i hi => ?_⟩
    · rw [app_t]
      have : d ≠ i := fun e => hd' (e ▸ hi)
      simp [List.getD_eq_getElem?_getD, List.getElem?_set_ne this]
    · rw [app_o hf]
      have : d ≠ i := fun e => hd' (e ▸ hi)
      simp [oPut, List.getD_eq_getElem?_getD, List.getElem?_set_ne this]

theorem guardB_alike {s s1 : S} : ∀ {n g : Nat} {w G : Bool} {gs : List (Nat × Bool)}, Alike' (gs.map (·.1)) s s1 → guardB s n g w = some (G, gs) → guardB s1 n g w = some (G, gs)
  | 0, g, w, G, gs, _, h => by simp [guardB] at h
  | n + 1, g, w, G, gs, ha, h => by
    have hmem : g ∈ gs.map (·.1) := by
      simp only [guardB] at h
      split at h
      · simp only [Option.some.injEq, Prod.mk.injEq] at h; rw [← h.2]; simp
      · split at h
        · rename_i g' w' b _
          cases hr : guardB s n g' w' with
          | none => simp [hr] at h
          | some x => simp only [hr, Option.map_some, Option.some.injEq, Prod.mk.injEq] at h; rw [← h.2]; simp
        · rename_i g' w' _
          cases hr : guardB s n g' w' with
          | none => simp [hr] at h
          | some x => simp only [hr, Option.map_some, Option.some.injEq, Prod.mk.injEq] at h; rw [← h.2]; simp
        · cases h
    simp only [guardB] at h ⊢
    rw [ha.t g hmem]
    split at h
    · exact h
    · rw [ha.o g hmem]
      split at h
      · rename_i g' w' b ho
        cases hr : guardB s n g' w' with
        | none => simp [hr] at h
        | some x =>
          obtain ⟨G', l⟩ := x
          simp only [hr, Option.map_some, Option.some.injEq, Prod.mk.injEq] at h
          obtain ⟨h1, rfl⟩ := h
          rw [guardB_alike (ha.sub (by intro i hi; simp at hi ⊢; exact .inr hi)) hr]
          simp [h1]
      · rename_i g' w' ho
        cases hr : guardB s n g' w' with
        | none => simp [hr] at h
        | some x =>
          obtain ⟨G', l⟩ := x
          simp only [hr, Option.map_some, Option.some.injEq, Prod.mk.injEq] at h
          obtain ⟨h1, rfl⟩ := h
          rw [guardB_alike (ha.sub (by intro i hi; simp at hi ⊢; exact .inr hi)) hr]
          simp [h1]
      · cases h
theorem guardOf_alike {ops : Array Oper} {o : Oper} {s s1 : S} {x : Option (Nat × Bool × Bool) × List (Nat × Bool)} (ha : Alike' (x.2.map (·.1)) s s1) (h : guardOf ops o s = some x) : guardOf ops o s1 = some x := by
  unfold guardOf at h ⊢
  split at h
  · exact h
  · split at h
    · cases h
    · rename_i j w _ _ g hd
      cases hr : guardB s 4 g w with
      | none => rw [hr] at h; cases h
      | some y =>
        obtain ⟨G, gs⟩ := y
        simp only [hr, Option.map_some, Option.some.injEq] at h
        subst h
        rw [guardB_alike ha hr]
        rfl
theorem rd_alike {s s1 : S} {rs : List Nat} (ha : Alike' rs s s1) (gs : List (Nat × Bool)) {x : Operand} (hx : ∀ t, x = .tmp t → t ∈ rs) : s1.rd gs x = s.rd gs x := by
  cases x with
  | tmp t =>
    have := hx t rfl
    simp only [S.rd, ha.o t this, ha.t t this]
  | _ => rfl
theorem mem_slots {o : Oper} {gs : List (Nat × Bool)} {x : Operand} (hx : x ∈ o.op.operands) : ∀ t, x = .tmp t → t ∈ slotsOf o gs := by
  intro t e; subst e
  simp only [slotsOf, List.mem_append, List.mem_filterMap]
  exact .inl ⟨.tmp t, by simpa using hx, rfl⟩

theorem effOf_alike {C : Cfg} {o : Oper} {s s1 : S} {rs : List Nat} (ha : Alike' rs s s1) (gs : List (Nat × Bool)) (hs : ∀ x ∈ o.op.operands, ∀ t, x = .tmp t → t ∈ rs) (hh : s1.h = s.h) : effOf C o s1 gs = effOf C o s gs := by
  unfold effOf
  split
  · rename_i c x y hop
    rw [hop] at hs
    rw [rd_alike ha _ (hs _ (by simp [Op.operands])), rd_alike ha _ (hs x (by simp [Op.operands])), rd_alike ha _ (hs y (by simp [Op.operands]))]
  · rw [hh]
    exact opAct_congr _ fun x hx => rd_alike ha _ (hs x hx)

theorem logOf_iff {C : Cfg} {ops : Array Oper} {i slot : Nat} {o : Oper} {s : S} {y : Log} : logOf C ops i slot o s = some y ↔
    Fresh s o.dst ∧ ∃ q gs, guardOf ops o s = some (q, gs) ∧ y = { i, dst := o.dst, rs := slotsOf o (logGs o gs), kin := kinOf C slot o.op (s.rd (logGs o gs)) } := by
  unfold logOf
  have hfr : freshD s o.dst = true ↔ Fresh s o.dst := by
    unfold Fresh
    cases o.dst with
    | none => simp [freshD]
    | some d => simp [freshD]
  rw [← hfr]
  by_cases hf : freshD s o.dst = true
  · rw [if_pos hf]
    cases hg : guardOf ops o s with
    | none => simp
    | some x =>
      obtain ⟨q, gs⟩ := x
      constructor
      · intro h
        simp only [Option.map_some, Option.some.injEq] at h
        exact ⟨hf, q, gs, rfl, h.symm⟩
      · rintro ⟨_, q', gs', hg', rfl⟩
        cases hg'; rfl
  · rw [if_neg hf]
    constructor
    · intro h; cases h
    · intro h; exact absurd h.1 hf
theorem logOf_alike {C : Cfg} {ops : Array Oper} {i slot : Nat} {o : Oper} {s s1 : S} {y : Log} (h : logOf C ops i slot o s = some y) (ha : Alike' y.rs s s1) (hf : Fresh s1 o.dst) : logOf C ops i slot o s1 = some y := by
  obtain ⟨_, q, gs, hg, rfl⟩ := logOf_iff.1 h
  refine logOf_iff.2 ⟨hf, q, gs, guardOf_alike (ha.sub ?_) hg, ?_⟩
  · intro t ht
    simp only [slotsOf, List.mem_append]
    right
    unfold logGs
    split
    · simp at ht ⊢; exact .inr ht
    · exact ht
  · congr 1
    exact kinOf_congr fun x hx => (rd_alike ha _ (mem_slots hx)).symm

theorem eff_pure {C : Cfg} {slot : Nat} {o : Oper} {s : S} {gs : List (Nat × Bool)} (hk : kinOf C slot o.op (s.rd (logGs o gs)) = .pure) : (effOf C o s gs).simple = true ∧ ∀ h, effOf C o { s with h := h } gs = effOf C o s gs := by
  unfold effOf
  split
  · rename_i c x y hop
    constructor
    · unfold pickEff; split <;> rfl
    · intro h; rfl
  · rename_i hnp
    have : logGs o gs = gs := by
      unfold logGs
      split
      · rename_i c x y hop; exact absurd hop (hnp c x y)
      · rfl
    rw [this] at hk
    exact ⟨(kin_pure hk s.h s.h).2, fun h => (kin_pure hk h s.h).1⟩
theorem kin_newr {C : Cfg} {slot lo n : Nat} {op : Op} {ρ : Operand → V} (hk : kinOf C slot op ρ = .newr lo n) (h : List Blk) : lo = slot ∧ (opAct C op ρ h).fresh n := by
  cases op <;> simp only [kinOf] at hk <;> (try (cases hk; done))
  case load => split at hk <;> cases hk
  case store => split at hk <;> cases hk
  case convert => split at hk <;> cases hk
  case buildSlice => (repeat' split at hk) <;> cases hk
  case call c =>
    obtain ⟨callee, args, ts⟩ := c
    cases callee with
    | value f =>
      simp only at hk
      split at hk
      · rename_i g cap hf
        split at hk
        · rename_i sp hsp
          split at hk
          · cases hk
          · rename_i hr
            split at hk
            · rename_i ho
              cases hk
              refine ⟨rfl, ?_⟩
              simp only [opAct, callAct, hf, enterAct, hsp, if_neg hr, if_pos ho, Option.isSome]
              split
              · trivial
              · split
                · rfl
                · trivial
            · cases hk
        · cases hk
      · cases hk
    | invoke r m => cases hk
    | builtin b =>
      cases b <;> (try (cases hk; done))
      case append =>
        simp only at hk
        (repeat' split at hk) <;> cases hk
/-- Blocks that hold rows, or lead on, stand in h' as in h. -/
def Keeps (h h' : List Blk) : Prop := ∀ (i : Nat) (x : Blk), h[i]? = some x → (match x with | .row _ _ => True | .rows _ _ => True | .fwd _ => True | _ => False) → h'[i]? = some x
theorem resB_keeps {h h' : List Blk} (H : Keeps h h') : ∀ (n b : Nat) {x : Blk}, h[resB h n b]? = some x → (match x with | .row _ _ => True | .rows _ _ => True | _ => False) → resB h' n b = resB h n b
  | 0, b, x, hx, hr => rfl
  | n + 1, b, x, hx, hr => by
    simp only [resB] at hx ⊢
    cases hb : h[b]? with
    | none => rw [hb] at hx; simp only at hx; rw [hb] at hx; cases hx
    | some y =>
      rw [hb] at hx
      cases y with
      | fwd b' =>
        rw [H b _ hb trivial]
        exact resB_keeps H n b' hx hr
      | row T xs => rw [H b _ hb trivial]
      | rows T xs => rw [H b _ hb trivial]
      | _ => simp only at hx; rw [hb] at hx; cases hx; exact hr.elim
mutual
theorem view_same {h h' : List Blk} (H : Keeps h h') : ∀ (v : V), V.refs (V.view true h v) = [] → V.view true h' v = V.view true h v
  | .sl b sz n, e => by
    simp only [V.view] at e ⊢
    cases hx : h[resB h 1000 b]? with
    | none => rw [hx] at e; simp [V.refs] at e
    | some x =>
      cases x with
      | row T xs => rw [resB_keeps H 1000 b hx trivial, H _ _ hx trivial]
      | rows T xs => rw [resB_keeps H 1000 b hx trivial, H _ _ hx trivial]
      | _ => rw [hx] at e; simp [V.refs] at e
  | .sv b sz i n, e => by
    simp only [V.view] at e ⊢
    cases hx : h[b]? with
    | none => rw [hx] at e; simp [V.refs] at e
    | some x =>
      cases x with
      | row T xs => rw [H _ _ hx trivial]
      | _ => rw [hx] at e; simp [V.refs] at e
  | .sl2 b sz i o n, e => by
    simp only [V.view] at e ⊢
    cases hx : h[b]? with
    | none => rw [hx] at e; simp [V.refs] at e
    | some x =>
      cases x with
      | rows T xs => rw [H _ _ hx trivial]
      | _ => rw [hx] at e; simp [V.refs] at e
  | .agg l, e => by simp only [V.view, V.refs] at e ⊢; rw [views_same H l e]
  | .tup l, e => by simp only [V.view, V.refs] at e ⊢; rw [views_same H l e]
  | .any, _ => rfl
  | .bool _, _ => rfl
  | .int _ _, _ => rfl
  | .str _, _ => rfl
  | .ptr _ _, _ => rfl
  | .parr _ _ _, _ => rfl
  | .cptr _ _ _, _ => rfl
  | .elp _ _ _, _ => rfl
  | .elr _ _, _ => rfl
  | .el2 _ _ _ _, _ => rfl
  | .nilp, _ => rfl
  | .ro _ _ _, _ => rfl
  | .rop _ _ _ _, _ => rfl
  | .csl _ _ _ _, _ => rfl
  | .esl, _ => rfl
  | .nsl, _ => rfl
  | .fn _ _, _ => rfl
  | .mexp _ _, _ => rfl
  | .nilf, _ => rfl
  | .iface _ _, _ => rfl
  | .nili, _ => rfl
  | .map _, _ => rfl
  | .hdl _ _, _ => rfl
theorem views_same {h h' : List Blk} (H : Keeps h h') : ∀ (l : List V), V.refsL (V.views true h l) = [] → V.views true h' l = V.views true h l
  | [], _ => rfl
  | v :: l, e => by
    simp only [V.views, V.refsL, List.append_eq_nil_iff] at e ⊢
    rw [view_same H v e.1, views_same H l e.2]
end
theorem newr_act {C : Cfg} {slot lo n : Nat} {op : Op} {ρ : Operand → V} (hk : kinOf C slot op ρ = .newr lo n) {h h' : List Blk} (H : Keeps h h') (H' : Keeps h' h) : opAct C op ρ h' = opAct C op ρ h := by
  cases op <;> simp only [kinOf] at hk <;> (try (cases hk; done))
  case load => split at hk <;> cases hk
  case store => split at hk <;> cases hk
  case convert => split at hk <;> cases hk
  case buildSlice => (repeat' split at hk) <;> cases hk
  case call c =>
    obtain ⟨callee, args, ts⟩ := c
    cases callee with
    | value f =>
      simp only at hk
      split at hk
      · rename_i g cap hf
        split at hk
        · rename_i sp hsp
          split at hk
          · cases hk
          · rename_i hr
            split at hk
            · rename_i ho
              simp only [opAct, callAct, hf, enterAct, hsp, if_neg hr, if_pos ho]
              by_cases e : V.refsL (V.views true h (args.toList.map ρ ++ cap)) = []
              · rw [views_same H _ e]
              · have e' : ¬ V.refsL (V.views true h' (args.toList.map ρ ++ cap)) = [] := by
                  intro e2
                  rw [← views_same H' _ e2] at e2
                  exact e e2
                have q1 : (V.refsL (V.views true h (args.toList.map ρ ++ cap))).isEmpty = false := by simpa using e
                have q2 : (V.refsL (V.views true h' (args.toList.map ρ ++ cap))).isEmpty = false := by simpa using e'
                rw [q1, q2]; rfl
            · cases hk
        · cases hk
      · cases hk
    | invoke r m => cases hk
    | builtin b =>
      cases b <;> (try (cases hk; done))
      case append =>
        simp only at hk
        (repeat' split at hk) <;> cases hk
/-- What a new variable of single cells lies in. -/
theorem kin_cells {C : Cfg} {slot lo n : Nat} {op : Op} {ρ : Operand → V} (hk : kinOf C slot op ρ = .new lo n true) {h0 h : List Blk} {v : V} {l : Nat} {nb : List Blk} (he : EffTo C.P slot h (opAct C op ρ h0) v (.news l nb)) : ∀ x ∈ nb, ∃ c, x = Blk.cells c := by
  have key : ∀ (e : TypeId) (c : List V), (layout C.P e).isNone = true → EffTo C.P slot h (newVarE C.P e c) v (.news l nb) → ∀ x ∈ nb, ∃ c, x = Blk.cells c := by
    intro e c hl he
    unfold newVarE at he
    cases hL : layout C.P e with
    | some _ => rw [hL] at hl; cases hl
    | none =>
      rw [hL] at he
      obtain ⟨_, _, h3⟩ := he
      cases h3
      intro x hx
      simp only [List.mem_singleton] at hx
      exact ⟨_, hx⟩
  cases op <;> simp only [kinOf] at hk <;> (try (cases hk; done))
  case load => split at hk <;> cases hk
  case store => split at hk <;> cases hk
  case convert => split at hk <;> cases hk
  case buildSlice => (repeat' split at hk) <;> cases hk
  case alloc e =>
    have hl : (layout C.P e).isNone = true := by injection hk
    simp only [opAct] at he
    split at he
    · split at he
      · exact key _ _ hl he
      · exact he.elim
    · exact he.elim
  case box e x =>
    have hl : (layout C.P e).isNone = true := by injection hk
    simp only [opAct] at he
    split at he
    · exact key _ _ hl he
    · exact he.elim
  case call c =>
    obtain ⟨callee, args, ts⟩ := c
    cases callee with
    | value f =>
      simp only at hk
      (repeat' split at hk) <;> cases hk
    | invoke r m => cases hk
    | builtin b =>
      cases b <;> (try (cases hk; done))
      case append =>
        simp only at hk
        (repeat' split at hk) <;> cases hk
theorem storeEl_upd {P : Program} {t : TypeId} {b i off : Nat} {y : V} {h0 h : List Blk} {slot : Nat} {v : V} {u : Upd} (he : EffTo P slot h (storeAct P t (.elp b i off) y h0) v u) : ∃ T xs, u = .put b T xs := by
  simp only [storeAct] at he
  split at he
  · split at he
    · split at he
      · split at he
        · exact ⟨_, _, he.2⟩
        · exact he.elim
      · exact he.elim
    · exact he.elim
  · exact he.elim
theorem storeEl_any {P : Program} {t : TypeId} {b i off : Nat} {y : V} {h0 h h' : List Blk} {slot : Nat} {v : V} {u : Upd} (he : EffTo P slot h (storeAct P t (.elp b i off) y h0) v u) : EffTo P slot h' (storeAct P t (.elp b i off) y h0) v u := by
  simp only [storeAct] at he ⊢
  split at he
  · split at he
    · split at he
      · rename_i h1
        rw [if_pos h1]
        split at he
        · exact he
        · exact he.elim
      · exact he.elim
    · exact he.elim
  · exact he.elim
theorem eff_upd {C : Cfg} {slot : Nat} {o : Oper} {s : S} {gs : List (Nat × Bool)} {h : List Blk} {v : V} {u : Upd} (he : EffTo C.P slot h (effOf C o s gs) v u) : UpdOk (kinOf C slot o.op (s.rd (logGs o gs))) u := by
  cases hk : kinOf C slot o.op (s.rd (logGs o gs)) with
  | top => trivial
  | pure => exact (simple_to (slot' := slot) (h' := h) (eff_pure hk).1 he).1
  | rda =>
    have hnp : effOf C o s gs = opAct C o.op (s.rd gs) s.h ∧ logGs o gs = gs := by
      unfold effOf logGs
      split
      · rename_i c x y hop
        rw [hop] at hk; simp [kinOf] at hk
      · exact ⟨rfl, rfl⟩
    rw [hnp.2] at hk
    rw [hnp.1] at he
    obtain ⟨dst, op, ty, pos, after, guard⟩ := o
    simp only at hk he
    cases op <;> simp only [kinOf] at hk <;> (try (cases hk; done))
    case load t a =>
      simp only [opAct] at he
      exact (simple_to (slot' := slot) (h' := h) (loadAct_simple _ _ _ _) he).1
    all_goals (exfalso; revert hk; (repeat' split) <;> intro hk <;> cases hk)
  | _ =>
    have hnp : effOf C o s gs = opAct C o.op (s.rd gs) s.h ∧ logGs o gs = gs := by
      unfold effOf logGs
      split
      · rename_i c x y hop
        rw [hop] at hk; simp [kinOf] at hk
      · exact ⟨rfl, rfl⟩
    rw [hnp.2] at hk
    rw [hnp.1] at he
    obtain ⟨dst, op, ty, pos, after, guard⟩ := o
    simp only at hk he
    first
      | (obtain ⟨rfl, _, h3⟩ := kin_new hk s.h s.h
         obtain ⟨nb, rfl, hl⟩ := fresh_upd h3 he
         exact .inr ⟨nb, rfl, hl, fun hc => kin_cells (by rw [hc] at hk; exact hk) he⟩)
      | (obtain ⟨rfl, h3⟩ := kin_newr hk s.h
         obtain ⟨nb, rfl, hl⟩ := fresh_upd h3 he
         exact .inr ⟨nb, rfl, hl⟩)
      | (cases op <;> simp only [kinOf] at hk <;> (try (cases hk; done))
         case load t a =>
           first
             | (split at hk
                · cases hk
                · cases hk
                · cases hk
                  exact (simple_to (slot' := slot) (h' := h) (loadAct_simple _ _ _ _) he).1)
             | (split at hk <;> cases hk)
         case store t a x =>
           first
             | (split at hk
                · rename_i b off hb
                  cases hk
                  simp only [opAct] at he
                  rw [hb] at he ⊢
                  simp only [storeAct] at he
                  split at he
                  · rename_i c n _ hs
                    split at he
                    · rename_i hl
                      simp only [Bool.and_eq_true, beq_iff_eq] at hl
                      obtain ⟨_, rfl⟩ := he
                      exact .inr ⟨b, off, _, rfl, by simp [addrFoot, hs, hl.1.1]⟩
                    · exact he.elim
                  · exact he.elim
                · cases hk
                · cases hk)
             | (split at hk
                · cases hk
                · rename_i b i off hb
                  cases hk
                  simp only [opAct] at he
                  rw [hb] at he
                  exact .inr (storeEl_upd he)
                · cases hk)
             | (split at hk <;> cases hk)
         all_goals (exfalso; revert hk; (repeat' split) <;> intro hk <;> cases hk))

theorem store_any {P : Program} {t : TypeId} {b off : Nat} {y : V} {h0 h h' : List Blk} {slot : Nat} {v : V} {u : Upd} (he : EffTo P slot h (storeAct P t (.ptr b off) y h0) v u) : EffTo P slot h' (storeAct P t (.ptr b off) y h0) v u := by
  simp only [storeAct] at he ⊢
  split at he
  · split at he
    · rename_i h1
      rw [if_pos h1]; exact he
    · exact he.elim
  · exact he.elim
theorem eff_same {C : Cfg} {slot : Nat} {o : Oper} {s : S} {gs : List (Nat × Bool)} {k : Kin} {u : Upd} {h' : List Blk} (hu : UpdOk k u)
    (hap : k.apart (kinOf C slot o.op (s.rd (logGs o gs))) = true ∨ (kinOf C slot o.op (s.rd (logGs o gs))).apart k = true) (hh : k ≠ .top → ∀ i : Nat, h'[i]? = u.at_ i s.h[i]?)
    (hfr : ∀ lo nb, u = .news lo nb → ∀ i, lo ≤ i → i < lo + nb.length → s.h[i]? = some .free) {v : V} {u2 : Upd} :
    EffTo C.P slot s.h (effOf C o s gs) v u2 ↔ EffTo C.P slot h' (effOf C o { s with h := h' } gs) v u2 := by
  cases hk : kinOf C slot o.op (s.rd (logGs o gs)) with
  | pure =>
    obtain ⟨h1, h2⟩ := eff_pure hk
    rw [h2 h']
    exact ⟨fun h => (simple_to h1 h).2, fun h => (simple_to h1 h).2⟩
  | top =>
    rw [hk] at hap
    have : k = .pure := by cases k <;> simp [Kin.apart] at hap; rfl
    subst this
    simp only [UpdOk] at hu; subst hu
    have : h' = s.h := List.ext_getElem? (fun i => by rw [hh (by simp) i]; rfl)
    subst this
    exact Iff.rfl
  | rd f =>
    have hkt : k ≠ .top := by intro e; subst e; rw [hk] at hap; simp [Kin.apart] at hap
    have hnp : effOf C o s gs = opAct C o.op (s.rd gs) s.h ∧ effOf C o { s with h := h' } gs = opAct C o.op (s.rd gs) h' ∧ logGs o gs = gs := by
      unfold effOf logGs
      split
      · rename_i c x y hop; rw [hop] at hk; simp [kinOf] at hk
      · exact ⟨rfl, rfl, rfl⟩
    rw [hnp.2.2] at hk hap
    rw [hnp.1, hnp.2.1]
    rw [hk] at hap
    obtain ⟨dst, op, ty, pos, after, guard⟩ := o
    simp only at hk ⊢
    cases op <;> simp only [kinOf] at hk <;> (try (cases hk; done))
    case load t a =>
      split at hk
      · cases hk
      · cases hk
      · rename_i h1 h2
        cases hk
        simp only [opAct]
        rw [load_same h1 h2 hu hap (hh hkt)]
        exact ⟨fun h => (simple_to (loadAct_simple _ _ _ _) h).2, fun h => (simple_to (loadAct_simple _ _ _ _) h).2⟩
    all_goals (exfalso; revert hk; (repeat' split) <;> intro hk <;> cases hk)
  | wr f =>
    have hkt : k ≠ .top := by intro e; subst e; rw [hk] at hap; simp [Kin.apart] at hap
    have hnp : effOf C o s gs = opAct C o.op (s.rd gs) s.h ∧ effOf C o { s with h := h' } gs = opAct C o.op (s.rd gs) h' ∧ logGs o gs = gs := by
      unfold effOf logGs
      split
      · rename_i c x y hop; rw [hop] at hk; simp [kinOf] at hk
      · exact ⟨rfl, rfl, rfl⟩
    rw [hnp.2.2] at hk hap
    rw [hnp.1, hnp.2.1]
    rw [hk] at hap
    obtain ⟨dst, op, ty, pos, after, guard⟩ := o
    simp only at hk ⊢
    cases op <;> simp only [kinOf] at hk <;> (try (cases hk; done))
    case store t a x =>
      split at hk
      · rename_i b off hb
        cases hk
        simp only [opAct]
        rw [hb] at hap ⊢
        rw [store_same hu hap (hh hkt)]
        exact ⟨store_any, store_any⟩
      · cases hk
      · cases hk
    all_goals (exfalso; revert hk; (repeat' split) <;> intro hk <;> cases hk)
  | rda =>
    rw [hk] at hap
    have : u = .no := by
      cases k <;> simp [Kin.apart] at hap <;> simpa only [UpdOk] using hu
    subst this
    have hkt : k ≠ .top := by intro e; subst e; simp [Kin.apart] at hap
    have : h' = s.h := List.ext_getElem? (fun i => by rw [hh hkt i]; rfl)
    subst this
    exact Iff.rfl
  | newr lo n =>
    have hkt : k ≠ .top := by intro e; subst e; rw [hk] at hap; simp [Kin.apart] at hap
    have same : u = .no → (EffTo C.P slot s.h (effOf C o s gs) v u2 ↔ EffTo C.P slot h' (effOf C o { s with h := h' } gs) v u2) := by
      intro e; subst e
      have : h' = s.h := List.ext_getElem? (fun i => by rw [hh hkt i]; rfl)
      subst this
      exact Iff.rfl
    have hnp : effOf C o s gs = opAct C o.op (s.rd gs) s.h ∧ effOf C o { s with h := h' } gs = opAct C o.op (s.rd gs) h' ∧ logGs o gs = gs := by
      unfold effOf logGs
      split
      · rename_i c x y hop; rw [hop] at hk; simp [kinOf] at hk
      · exact ⟨rfl, rfl, rfl⟩
    rw [hnp.2.2] at hk hap
    rw [hk] at hap
    cases k with
    | new lo' n' c' =>
      rcases hu with rfl | ⟨nb, rfl, hl, hcells⟩
      · exact same rfl
      have hd : c' = true ∧ (lo + n ≤ lo' ∨ lo' + n' ≤ lo) := by
        rcases hap with hap | hap <;> simpa [Kin.apart] using hap
      have hh := hh (by simp)
      have hfr := hfr lo' nb rfl
      have out : ∀ i, ¬ (lo' ≤ i ∧ i < lo' + nb.length) → h'[i]? = s.h[i]? := by
        intro i hi; rw [hh i]; simp only [Upd.at_]; rw [if_neg hi]
      have H : Keeps s.h h' := by
        intro i x hx hr
        by_cases hi : lo' ≤ i ∧ i < lo' + nb.length
        · rw [hfr i hi.1 hi.2] at hx; cases hx; exact hr.elim
        · rw [out i hi]; exact hx
      have H' : Keeps h' s.h := by
        intro i x hx hr
        by_cases hi : lo' ≤ i ∧ i < lo' + nb.length
        · rw [hh i] at hx
          simp only [Upd.at_] at hx
          rw [if_pos hi, hfr i hi.1 hi.2] at hx
          simp only [Option.bind_some] at hx
          obtain ⟨c, rfl⟩ := hcells hd.1 x (List.mem_of_getElem? hx)
          exact hr.elim
        · rw [← out i hi]; exact hx
      rw [hnp.1, hnp.2.1, newr_act hk H H']
      obtain ⟨rfl, h3⟩ := kin_newr hk s.h
      have hfree : allFree h' lo n = allFree s.h lo n := by
        refine allFree_same (k := .new lo' n' c') (c := false) (.inr ⟨nb, rfl, hl, hcells⟩) (.inl ?_) hh n lo (Nat.le_refl _) (Nat.le_refl _)
        simp only [Kin.apart, Bool.or_eq_true, decide_eq_true_eq]; omega
      exact ⟨fun h => fresh_same hfree h3 h, fun h => fresh_same hfree.symm h3 h⟩
    | _ => exact same (by simp [Kin.apart] at hap <;> simpa only [UpdOk] using hu)
  | put b =>
    have hkt : k ≠ .top := by intro e; subst e; rw [hk] at hap; simp [Kin.apart] at hap
    have hnp : effOf C o s gs = opAct C o.op (s.rd gs) s.h ∧ effOf C o { s with h := h' } gs = opAct C o.op (s.rd gs) h' ∧ logGs o gs = gs := by
      unfold effOf logGs
      split
      · rename_i c x y hop; rw [hop] at hk; simp [kinOf] at hk
      · exact ⟨rfl, rfl, rfl⟩
    rw [hnp.2.2] at hk hap
    rw [hnp.1, hnp.2.1]
    rw [hk] at hap
    obtain ⟨dst, op, ty, pos, after, guard⟩ := o
    simp only at hk ⊢
    cases op <;> simp only [kinOf] at hk <;> (try (cases hk; done))
    case store t a x =>
      split at hk
      · cases hk
      · rename_i b i off hb
        cases hk
        simp only [opAct]
        rw [hb]
        rw [storeEl_same hu hap (hh hkt)]
        exact ⟨storeEl_any, storeEl_any⟩
      · cases hk
    all_goals (exfalso; revert hk; (repeat' split) <;> intro hk <;> cases hk)
  | new lo n cc =>
    have hkt : k ≠ .top := by intro e; subst e; rw [hk] at hap; simp [Kin.apart] at hap
    have hnp : effOf C o s gs = opAct C o.op (s.rd gs) s.h ∧ effOf C o { s with h := h' } gs = opAct C o.op (s.rd gs) h' ∧ logGs o gs = gs := by
      unfold effOf logGs
      split
      · rename_i c x y hop; rw [hop] at hk; simp [kinOf] at hk
      · exact ⟨rfl, rfl, rfl⟩
    rw [hnp.2.2] at hk hap
    rw [hnp.1, hnp.2.1]
    rw [hk] at hap
    obtain ⟨rfl, h2, h3⟩ := kin_new hk h' s.h
    rw [← h2]
    have hfree := allFree_same hu hap (hh hkt) n lo (Nat.le_refl _) (Nat.le_refl _)
    exact ⟨fun h => fresh_same hfree h3 h, fun h => fresh_same hfree.symm h3 h⟩

theorem on_comm {kx ky : Kin} {ux uy : Upd} (hx : UpdOk kx ux) (hy : UpdOk ky uy) (ha : kx.apart ky = true) (h : List Blk) : ux.on (uy.on h) = uy.on (ux.on h) := by
  by_cases hxt : kx = .top
  · subst hxt
    have : ky = .pure := by cases ky <;> simp [Kin.apart] at ha; rfl
    subst this
    simp only [UpdOk] at hy; subst hy; rfl
  by_cases hyt : ky = .top
  · subst hyt
    have : kx = .pure := by cases kx <;> simp [Kin.apart] at ha; rfl
    subst this
    simp only [UpdOk] at hx; subst hx; rfl
  have e1 := on_at (hx.noHeap hxt)
  have e2 := on_at (hy.noHeap hyt)
  apply List.ext_getElem?
  intro i
  rw [e1, e2, e2, e1]
  generalize h[i]? = o
  cases kx with
  | pure => simp only [UpdOk] at hx; subst hx; rfl
  | rd f => simp only [UpdOk] at hx; subst hx; rfl
  | rda => simp only [UpdOk] at hx; subst hx; rfl
  | top => exact absurd rfl hxt
  | wr f =>
    rcases hx with rfl | ⟨b, off, vs, rfl, hf⟩
    · rfl
    cases ky with
    | newr lo' n' => simp [Kin.apart] at ha
    | put b' =>
      rcases hy with rfl | ⟨T, xs, rfl⟩
      · rfl
      have e4 : ∀ o', (Upd.store b off vs).at_ b' o' = o' := fun o' => at_put (k := .wr f) (.inr ⟨b, off, vs, rfl, hf⟩) (.inl ha) o'
      by_cases h1 : i = b'
      · subst h1
        simp only [e4]
      · simp only [Upd.at_]; rw [if_neg h1, if_neg h1]
    | pure => simp only [UpdOk] at hy; subst hy; rfl
    | rd f => simp only [UpdOk] at hy; subst hy; rfl
    | rda => simp only [UpdOk] at hy; subst hy; rfl
    | top => exact absurd rfl hyt
    | wr f' =>
      rcases hy with rfl | ⟨b', off', vs', rfl, hf'⟩
      · rfl
      · have hd : b ≠ b' ∨ off + vs.length ≤ off' ∨ off' + vs'.length ≤ off := by
          simp only [Kin.apart, Bool.not_eq_true'] at ha
          rw [hf'] at ha
          exact foot_one hf ha
        simp only [Upd.at_]
        by_cases h1 : i = b
        · by_cases h2 : i = b'
          · rw [if_pos h1, if_pos h2, if_pos h2, if_pos h1]
            cases o with
            | none => rfl
            | some x =>
              cases x <;> simp only [Option.map_some, spl]
              rw [splice_comm (by omega)]
          · simp only [h1, h2, if_neg, if_pos]
            rw [if_neg (fun e => h2 (h1.trans e)), if_neg (fun e => h2 (h1.trans e))]
        · rw [if_neg h1, if_neg h1]
    | new lo n cc =>
      have hout : b < lo ∨ lo + n ≤ b := by rw [hf] at ha; simpa [Kin.apart, outOf] using ha
      rcases hy with rfl | ⟨nb, rfl, hl, _⟩
      · rfl
      · simp only [Upd.at_]
        by_cases h1 : i = b
        · have h2 : ¬ (lo ≤ i ∧ i < lo + nb.length) := by omega
          simp only [h2, if_false]
        · rw [if_neg h1, if_neg h1]
  | newr lo n =>
    cases ky with
    | new lo' n' cc =>
      have hout : lo + n ≤ lo' ∨ lo' + n' ≤ lo := by
        have : cc = true ∧ (lo + n ≤ lo' ∨ lo' + n' ≤ lo) := by simpa [Kin.apart] using ha
        exact this.2
      have r1 : ∃ P1 : Prop, ∃ F1 : Option Blk → Option Blk, (∀ o, ux.at_ i o = if lo ≤ i ∧ i < lo + n then F1 o else o) := by
        rcases hx with rfl | ⟨nb, rfl, hl⟩
        · exact ⟨True, id, fun o => by simp [Upd.at_]⟩
        · exact ⟨True, fun o => o.bind fun _ => nb[i - lo]?, fun o => by subst hl; rfl⟩
      have r2 : ∃ P1 : Prop, ∃ F1 : Option Blk → Option Blk, (∀ o, uy.at_ i o = if lo' ≤ i ∧ i < lo' + n' then F1 o else o) := by
        rcases hy with rfl | ⟨nb, rfl, hl, _⟩
        · exact ⟨True, id, fun o => by simp [Upd.at_]⟩
        · exact ⟨True, fun o => o.bind fun _ => nb[i - lo']?, fun o => by subst hl; rfl⟩
      obtain ⟨_, F1, h1⟩ := r1
      obtain ⟨_, F2, h2⟩ := r2
      rw [h1, h2, h2, h1]
      by_cases c1 : lo ≤ i ∧ i < lo + n
      · have c2 : ¬ (lo' ≤ i ∧ i < lo' + n') := by omega
        rw [if_pos c1, if_neg c2, if_neg c2, if_pos c1]
      · rw [if_neg c1, if_neg c1]
    | _ =>
      have : uy = .no := by
        simp [Kin.apart] at ha <;> simpa only [UpdOk] using hy
      subst this; rfl
  | put b =>
    rcases hx with rfl | ⟨T, xs, rfl⟩
    · rfl
    have e4 : ∀ o', uy.at_ b o' = o' := fun o' => at_put hy (.inr ha) o'
    have hp : ∀ j o', (Upd.put b T xs).at_ j o' = if j = b then o'.map (rowTo (.row T xs)) else o' := fun _ _ => rfl
    simp only [hp]
    by_cases h1 : i = b
    · subst h1
      rw [if_pos rfl, if_pos rfl, e4, e4]
    · rw [if_neg h1, if_neg h1]
  | new lo n cx =>
    cases ky with
    | newr lo' n' =>
      have hout : lo + n ≤ lo' ∨ lo' + n' ≤ lo := by
        have : cx = true ∧ (lo' + n' ≤ lo ∨ lo + n ≤ lo') := by simpa [Kin.apart] using ha
        omega
      have r1 : ∃ P1 : Prop, ∃ F1 : Option Blk → Option Blk, (∀ o, ux.at_ i o = if lo ≤ i ∧ i < lo + n then F1 o else o) := by
        rcases hx with rfl | ⟨nb, rfl, hl, _⟩
        · exact ⟨True, id, fun o => by simp [Upd.at_]⟩
        · exact ⟨True, fun o => o.bind fun _ => nb[i - lo]?, fun o => by subst hl; rfl⟩
      have r2 : ∃ P1 : Prop, ∃ F1 : Option Blk → Option Blk, (∀ o, uy.at_ i o = if lo' ≤ i ∧ i < lo' + n' then F1 o else o) := by
        rcases hy with rfl | ⟨nb, rfl, hl⟩
        · exact ⟨True, id, fun o => by simp [Upd.at_]⟩
        · exact ⟨True, fun o => o.bind fun _ => nb[i - lo']?, fun o => by subst hl; rfl⟩
      obtain ⟨_, F1, h1⟩ := r1
      obtain ⟨_, F2, h2⟩ := r2
      rw [h1, h2, h2, h1]
      by_cases c1 : lo ≤ i ∧ i < lo + n
      · have c2 : ¬ (lo' ≤ i ∧ i < lo' + n') := by omega
        rw [if_pos c1, if_neg c2, if_neg c2, if_pos c1]
      · rw [if_neg c1, if_neg c1]
    | put b =>
      rcases hy with rfl | ⟨T, xs, rfl⟩
      · rfl
      have e4 : ∀ o', ux.at_ b o' = o' := fun o' => at_put (k := .new lo n cx) hx (.inl ha) o'
      have hp : ∀ j o', (Upd.put b T xs).at_ j o' = if j = b then o'.map (rowTo (.row T xs)) else o' := fun _ _ => rfl
      simp only [hp]
      by_cases h1 : i = b
      · subst h1
        rw [if_pos rfl, if_pos rfl, e4, e4]
      · rw [if_neg h1, if_neg h1]
    | pure => simp only [UpdOk] at hy; subst hy; rfl
    | rd f => simp only [UpdOk] at hy; subst hy; rfl
    | rda => simp only [UpdOk] at hy; subst hy; rfl
    | top => exact absurd rfl hyt
    | wr f' =>
      rcases hy with rfl | ⟨b, off, vs, rfl, hf⟩
      · rfl
      have hout : b < lo ∨ lo + n ≤ b := by rw [hf] at ha; simpa [Kin.apart, outOf] using ha
      rcases hx with rfl | ⟨nb, rfl, hl, _⟩
      · rfl
      · simp only [Upd.at_]
        by_cases h1 : i = b
        · have h2 : ¬ (lo ≤ i ∧ i < lo + nb.length) := by omega
          simp only [h2, if_false]
        · rw [if_neg h1, if_neg h1]
    | new lo' n' cy =>
      have hout : lo + n ≤ lo' ∨ lo' + n' ≤ lo := by simpa [Kin.apart] using ha
      have r1 : ∃ P1 : Prop, ∃ F1 : Option Blk → Option Blk, (∀ o, ux.at_ i o = if lo ≤ i ∧ i < lo + n then F1 o else o) := by
        rcases hx with rfl | ⟨nb, rfl, hl, _⟩
        · exact ⟨True, id, fun o => by simp [Upd.at_]⟩
        · exact ⟨True, fun o => o.bind fun _ => nb[i - lo]?, fun o => by subst hl; rfl⟩
      have r2 : ∃ P1 : Prop, ∃ F1 : Option Blk → Option Blk, (∀ o, uy.at_ i o = if lo' ≤ i ∧ i < lo' + n' then F1 o else o) := by
        rcases hy with rfl | ⟨nb, rfl, hl, _⟩
        · exact ⟨True, id, fun o => by simp [Upd.at_]⟩
        · exact ⟨True, fun o => o.bind fun _ => nb[i - lo']?, fun o => by subst hl; rfl⟩
      obtain ⟨_, F1, h1⟩ := r1
      obtain ⟨_, F2, h2⟩ := r2
      rw [h1, h2, h2, h1]
      by_cases c1 : lo ≤ i ∧ i < lo + n
      · have c2 : ¬ (lo' ≤ i ∧ i < lo' + n') := by omega
        rw [if_pos c1, if_neg c2, if_neg c2, if_pos c1]
      · rw [if_neg c1, if_neg c1]

theorem guardB_head {s : S} {n g : Nat} {w G : Bool} {gs : List (Nat × Bool)} (h : guardB s n g w = some (G, gs)) : g ∈ gs.map (·.1) := by
  cases n with
  | zero => simp [guardB] at h
  | succ n =>
    simp only [guardB] at h
    split at h
    · simp only [Option.some.injEq, Prod.mk.injEq] at h; rw [← h.2]; simp
    · split at h
      · rename_i g' w' b _
        cases hr : guardB s n g' w' with
        | none => simp [hr] at h
        | some x => simp only [hr, Option.map_some, Option.some.injEq, Prod.mk.injEq] at h; rw [← h.2]; simp
      · rename_i g' w' _
        cases hr : guardB s n g' w' with
        | none => simp [hr] at h
        | some x => simp only [hr, Option.map_some, Option.some.injEq, Prod.mk.injEq] at h; rw [← h.2]; simp
      · cases h
theorem gs_slots {o : Oper} {gs : List (Nat × Bool)} {t : Nat} (ht : t ∈ gs.map (·.1)) : t ∈ slotsOf o (logGs o gs) := by
  simp only [slotsOf, List.mem_append]
  right
  unfold logGs
  split
  · simp at ht ⊢; exact .inr ht
  · exact ht
/-- A cell stands as it stood. -/
def KeepAt (h h' : List Blk) (b off : Nat) : Prop := h'[b]? = h[b]? ∨ ∃ c c', h[b]? = some (.cells c) ∧ h'[b]? = some (.cells c') ∧ c.length = c'.length ∧ c[off]? = c'[off]?
theorem keepOf_at {h h' : List Blk} {b off : Nat} (hk : keepOf h h' b off = true) : KeepAt h h' b off := by
  unfold keepOf at hk
  split at hk
  · rename_i c c' h1 h2
    simp only [Bool.and_eq_true, beq_iff_eq] at hk
    refine .inr ⟨c, c', h1, h2, hk.1, ?_⟩
    split at hk
    · rename_i v v' g1 g2
      rw [g1, g2, V.same_eq hk.2]
    · cases hk.2
  · cases hk
theorem append_keep {P : Program} {t t2 : TypeId} {s x : V} {h : List Blk} {slot : Nat} {v : V} {u : Upd} (he : EffTo P slot h (appendAct P t t2 s x h) v u) {i : Nat} (h1 : i ≠ slot)
    (h2 : i ∉ V.refs s ++ V.refs x) (h3 : i ∉ (V.refs s ++ V.refs x).map (resB h 1000)) : (u.on h)[i]? = h[i]? := by
  have fin : ∀ {c : Bool} {f : Nat → Option (List Blk)} {mk : Nat → V}, EffTo P slot h (.ite c (.mod f mk) .fail) v u → (∀ h', f slot = some h' → h'[i]? = h[i]?) → (u.on h)[i]? = h[i]? := by
    intro c f mk he hf
    rcases he with ⟨_, h', hh, _, rfl⟩ | ⟨_, hf⟩
    · exact hf h' hh
    · exact hf.elim
  have fin2 : ∀ {c : Bool} {b : Blk} {mk : Nat → V}, EffTo P slot h (.ite c (.new [b] mk) .fail) v u → (u.on h)[i]? = h[i]? := by
    intro c b mk he
    rcases he with ⟨_, _, _, rfl⟩ | ⟨_, hf⟩
    · simp only [Upd.on, setN]; exact List.getElem?_set_ne (fun e => h1 e.symm)
    · exact hf.elim
  unfold appendAct at he
  split at he
  · split at he
    · exact he.elim
    split at he
    · split at he
      · rename_i b2 sz2 m hsz hz1
        split at he
        · split at he
          · split at he
            · refine fin he fun h' hh => ?_
              split at hh
              · cases hh
                simp only [V.refs, List.mem_append, List.mem_cons, List.not_mem_nil, or_false, false_or] at h2
                rw [List.getElem?_set_ne (fun e => h1 e.symm), List.getElem?_set_ne (fun e => h2 e.symm)]
              · cases hh
            · refine fin he fun h' hh => ?_
              split at hh
              · cases hh
                simp only [V.refs, List.mem_append, List.mem_cons, List.not_mem_nil, or_false, false_or] at h2
                rw [List.getElem?_set_ne (fun e => h1 e.symm), List.getElem?_set_ne (fun e => h2 e.symm)]
              · cases hh
            · rename_i b sz n
              split at he
              · split at he
                · refine fin he fun h' hh => ?_
                  split at hh
                  · cases hh
                    simp only [V.refs, List.mem_append, List.mem_cons, List.not_mem_nil, or_false, not_or] at h2
                    simp only [V.refs, List.singleton_append, List.map_cons, List.map_nil, List.mem_cons, List.not_mem_nil, or_false, not_or] at h3
                    rw [List.getElem?_set_ne (fun e => h1 e.symm), List.getElem?_set_ne (fun e => h3.1 e.symm), List.getElem?_set_ne (fun e => h2.2 e.symm)]
                  · cases hh
                · exact he.elim
              · exact he.elim
            · exact he.elim
          · exact he.elim
        · exact he.elim
      · exact he.elim
    · split at he
      · split at he
        · exact he.elim
        split at he
        · split at he
          · exact fin2 he
          · exact fin2 he
          · rename_i b sz n
            split at he
            · split at he
              · refine fin he fun h' hh => ?_
                split at hh
                · cases hh
                  simp only [V.refs, List.mem_append, List.mem_cons, List.not_mem_nil, or_false, not_or] at h2
                  rw [List.getElem?_set_ne (fun e => h1 e.symm), List.getElem?_set_ne (fun e => h2.1 e.symm)]
                · cases hh
              · exact he.elim
            · exact he.elim
          · exact he.elim
        · exact he.elim
      · exact he.elim
  · exact he.elim
theorem keepAll_at {k : Nat → Nat → Bool} {b : Nat} : ∀ {n lo : Nat}, keepAll k b lo n = true → ∀ i, lo ≤ i → i < lo + n → k b i = true
  | 0, lo, _, i, h1, h2 => by omega
  | n + 1, lo, h, i, h1, h2 => by
    simp only [keepAll, Bool.and_eq_true] at h
    rcases Nat.eq_or_lt_of_le h1 with e | e
    · subst e; exact h.1
    · exact keepAll_at h.2 i e (by omega)
theorem load_keep {P : Program} {t : TypeId} {x : V} {k : Nat → Nat → Bool} {h h' : List Blk} (hx1 : ∀ b i, x ≠ .elr b i) (hx2 : ∀ b i j off, x ≠ .el2 b i j off) (hk : keepLd k (.rd (addrFoot P t x)) = true)
    (hh : ∀ b off, k b off = true → KeepAt h h' b off) : loadAct P t x h' = loadAct P t x h := by
  cases x with
  | ptr b off =>
    simp only [keepLd, addrFoot, List.all_cons, List.all_nil, Bool.and_true, Bool.and_eq_true, decide_eq_true_eq] at hk
    obtain ⟨h1, h2⟩ := hk
    have h3 := keepAll_at h2
    by_cases hb : h'[b]? = h[b]?
    · simp only [loadAct, hb]
    obtain hb' | ⟨c, c', e1, e2, e3, e4⟩ := hh b off (h3 off (Nat.le_refl _) (by omega))
    · exact absurd hb' hb
    simp only [loadAct, e1, e2]
    refine partV_congr e3.symm fun i g1 g2 => ?_
    obtain hb' | ⟨d, d', f1, f2, f3, f4⟩ := hh b i (h3 i g1 (by omega))
    · exact absurd hb' hb
    rw [e1] at f1; rw [e2] at f2
    cases f1; cases f2
    exact f4.symm
  | parr b n sz =>
    simp only [keepLd, addrFoot, List.all_cons, List.all_nil, Bool.and_true, Bool.and_eq_true, decide_eq_true_eq] at hk
    obtain hb | ⟨c, c', e1, e2, e3, e4⟩ := hh b 0 (keepAll_at hk.2 0 (Nat.le_refl _) (by omega))
    · simp only [loadAct, hb]
    simp only [loadAct, e1, e2]
  | elp b i off =>
    simp only [keepLd, addrFoot, List.all_cons, List.all_nil, Bool.and_true, Bool.and_eq_true, decide_eq_true_eq] at hk
    obtain hb | ⟨c, c', e1, e2, e3, e4⟩ := hh b 0 (keepAll_at hk.2 0 (Nat.le_refl _) (by omega))
    · simp only [loadAct, hb]
    simp only [loadAct, e1, e2]
  | elr b i => exact absurd rfl (hx1 b i)
  | el2 b i j off => exact absurd rfl (hx2 b i j off)
  | _ => rfl
theorem eff_keep {C : Cfg} {slot : Nat} {o : Oper} {s : S} {gs : List (Nat × Bool)} {k : Nat → Nat → Bool} {h' : List Blk} (hk : keepLd k (kinOf C slot o.op (s.rd (logGs o gs))) = true)
    (hh : ∀ b off, k b off = true → KeepAt s.h h' b off) : effOf C o { s with h := h' } gs = effOf C o s gs := by
  cases hk2 : kinOf C slot o.op (s.rd (logGs o gs)) with
  | rd f =>
    have hnp : effOf C o s gs = opAct C o.op (s.rd gs) s.h ∧ effOf C o { s with h := h' } gs = opAct C o.op (s.rd gs) h' ∧ logGs o gs = gs := by
      unfold effOf logGs
      split
      · rename_i c x y hop; rw [hop] at hk2; simp [kinOf] at hk2
      · exact ⟨rfl, rfl, rfl⟩
    rw [hnp.2.2] at hk hk2
    rw [hnp.1, hnp.2.1]
    obtain ⟨dst, op, ty, pos, after, guard⟩ := o
    simp only at hk hk2 ⊢
    rw [hk2] at hk
    cases op <;> simp only [kinOf] at hk2 <;> (try (cases hk2; done))
    case load t a =>
      split at hk2
      · cases hk2
      · cases hk2
      · rename_i h1 h2
        cases hk2
        simp only [opAct]
        exact load_keep h1 h2 hk hh
    all_goals (exfalso; revert hk2; (repeat' split) <;> intro hk2 <;> cases hk2)
  | _ => rw [hk2] at hk; cases hk
theorem StepO.upd {C : Cfg} {ops : Array Oper} {i slot : Nat} {o : Oper} {s : S} {p : Pt} {u : Upd} {y : Log} (h : StepO C ops o slot s p u) (hl : logOf C ops i slot o s = some y) : UpdOk y.kin u := by
  obtain ⟨_, q, gs, hg, rfl⟩ := logOf_iff.1 hl
  have hno : ∀ k : Kin, UpdOk k .no := fun k => by cases k <;> simp [UpdOk]
  unfold StepO at h
  rw [hg] at h
  cases q with
  | none => obtain ⟨v, _, he⟩ := h; exact eff_upd he
  | some q =>
    obtain ⟨g, w, G⟩ := q
    rcases h with ⟨_, v, _, he⟩ | ⟨_, _, rfl⟩ | ⟨_, rfl, _⟩
    · exact eff_upd he
    · exact hno _
    · exact hno _
/-- Where a guarded value comes to stand, its guard is among the slots looked at. -/
theorem StepO.ent {C : Cfg} {ops : Array Oper} {i slot : Nat} {o : Oper} {s : S} {p : Pt} {u : Upd} {y : Log} (h : StepO C ops o slot s p u) (hl : logOf C ops i slot o s = some y) {g : Nat} {w : Bool} {v : V} (he : p.ent = some (g, w, v)) : g ∈ y.rs := by
  obtain ⟨_, q, gs, hg, rfl⟩ := logOf_iff.1 hl
  unfold StepO at h
  rw [hg] at h
  cases q with
  | none => obtain ⟨v, rfl, _⟩ := h; simp [Pt.ent] at he
  | some q =>
    obtain ⟨g', w', G⟩ := q
    rcases h with ⟨_, v, rfl, _⟩ | ⟨_, rfl, _⟩ | ⟨_, _, v', rfl, _⟩
    · simp [Pt.ent] at he
    · simp [Pt.ent] at he
    · simp only [Pt.ent, Option.some.injEq, Prod.mk.injEq] at he
      obtain ⟨rfl, _, _⟩ := he
      obtain ⟨j, _, _, hgb⟩ := guardOf_some hg
      exact gs_slots (guardB_head hgb)
theorem StepO.moveE {C : Cfg} {ops : Array Oper} {i slot : Nat} {o : Oper} {s s1 : S} {p : Pt} {u : Upd} {y : Log} (hl : logOf C ops i slot o s = some y) (ha : Alike' y.rs s s1)
    (hef : ∀ gs, y.kin = kinOf C slot o.op (s.rd (logGs o gs)) → ∀ v u2, EffTo C.P slot s.h (effOf C o s gs) v u2 ↔ EffTo C.P slot s1.h (effOf C o { s with h := s1.h } gs) v u2) :
    StepO C ops o slot s p u ↔ StepO C ops o slot s1 p u := by
  obtain ⟨_, q, gs, hg, rfl⟩ := logOf_iff.1 hl
  have hsub : Alike' (gs.map (·.1)) s s1 := ha.sub fun t ht => gs_slots ht
  have hg1 := guardOf_alike hsub hg
  have he : ∀ v u2, EffTo C.P slot s.h (effOf C o s gs) v u2 ↔ EffTo C.P slot s1.h (effOf C o s1 gs) v u2 := by
    intro v u2
    rw [hef gs rfl]
    have : effOf C o s1 gs = effOf C o { s with h := s1.h } gs := effOf_alike (s := { s with h := s1.h }) (rs := slotsOf o (logGs o gs)) ⟨ha.lt, ha.lo, ha.t, ha.o⟩ gs (fun x hx => mem_slots hx) rfl
    rw [this]
  unfold StepO
  rw [hg, hg1]
  cases q with
  | none => simp only [he]
  | some q =>
    obtain ⟨g, w, G⟩ := q
    have ho : s1.optOk o.dst g = s.optOk o.dst g := by
      unfold S.optOk
      cases o.dst with
      | none => rfl
      | some d => simp only [ha.lt, ha.lo]
    simp only [he, ho]
/-- A step at a state that looks alike where it looks, and whose memory has turned apart from it. -/
theorem StepO.move {C : Cfg} {ops : Array Oper} {i slot : Nat} {o : Oper} {s s1 : S} {p : Pt} {u : Upd} {y : Log} {k : Kin} {ux : Upd} (hl : logOf C ops i slot o s = some y) (ha : Alike' y.rs s s1)
    (hu : UpdOk k ux) (hap : k.apart y.kin = true ∨ y.kin.apart k = true) (hh : k ≠ .top → ∀ i : Nat, s1.h[i]? = ux.at_ i s.h[i]?)
    (hfr : ∀ lo nb, ux = .news lo nb → ∀ i, lo ≤ i → i < lo + nb.length → s.h[i]? = some .free) :
    StepO C ops o slot s p u ↔ StepO C ops o slot s1 p u :=
  StepO.moveE hl ha fun gs hk v u2 => by rw [hk] at hap; exact eff_same hu hap hh hfr

theorem allFree_cell {h : List Blk} : ∀ {n lo i : Nat}, allFree h lo n = true → lo ≤ i → i < lo + n → h[i]? = some .free
  | 0, lo, i, _, h1, h2 => by omega
  | n + 1, lo, i, hf, h1, h2 => by
    simp only [allFree, Bool.and_eq_true] at hf
    rcases Nat.eq_or_lt_of_le h1 with e | e
    · subst e; exact isFree_iff.1 hf.1
    · exact allFree_cell hf.2 e (by omega)
theorem eff_free {P : Program} {slot : Nat} {h : List Blk} : ∀ {e : Eff} {v : V} {lo : Nat} {nb : List Blk}, EffTo P slot h e v (.news lo nb) → allFree h lo nb.length = true
  | .fail, v, lo, nb, he => he.elim
  | .val _, v, lo, nb, he => by cases he.2
  | .store .., v, lo, nb, he => by cases he.2
  | .put .., v, lo, nb, he => by cases he.2
  | .new bs mk, v, lo, nb, he => by obtain ⟨h1, _, h3⟩ := he; cases h3; exact h1
  | .mod f mk, v, lo, nb, he => by obtain ⟨h', _, _, h3⟩ := he; cases h3
  | .ite c x y, v, lo, nb, he => he.elim (fun h => eff_free h.2) (fun h => eff_free h.2)
  | .call g sp args, v, lo, nb, he => by
    obtain ⟨v0, nb', _, h2, h3, _, h4⟩ := he
    cases h4; rw [h2]; exact h3
  | .enter g args, v, lo, nb, he => by obtain ⟨h', _, h3⟩ := he; cases h3
theorem StepO.free {C : Cfg} {ops : Array Oper} {slot : Nat} {o : Oper} {s : S} {p : Pt} {u : Upd} (h : StepO C ops o slot s p u) : ∀ lo nb, u = .news lo nb → ∀ i, lo ≤ i → i < lo + nb.length → s.h[i]? = some .free := by
  intro lo nb e i h1 h2
  subst e
  have : allFree s.h lo nb.length = true := by
    unfold StepO at h
    split at h
    · exact h.elim
    · obtain ⟨v, _, he⟩ := h; exact eff_free he
    · rcases h with ⟨_, v, _, he⟩ | ⟨_, _, h3⟩ | ⟨_, h3, _⟩
      · exact eff_free he
      · cases h3
      · cases h3
  exact allFree_cell this h1 h2
theorem Log.apart_iff {x y : Log} (h : x.apart y = true) : (∀ d, x.dst = some d → d ∉ y.rs ∧ y.dst ≠ some d) ∧ (∀ d, y.dst = some d → d ∉ x.rs) ∧ (x.kin.apart y.kin = true ∨ (x.kin = .top ∧ keepLd x.keep y.kin = true) ∨ x.kin.nought = true ∨ y.kin.nought = true) := by
  simp only [Log.apart, Bool.and_eq_true, Bool.or_eq_true] at h
  obtain ⟨⟨h1, h2⟩, h3⟩ := h
  refine ⟨fun d hd => ?_, fun d hd => ?_, h3.imp id fun h => h.imp (fun h => ⟨?_, h.2⟩) id⟩
  · rw [hd] at h1; simpa using h1
  · rw [hd] at h2; simpa using h2
  · have := h.1
    cases hk : x.kin <;> rw [hk] at this <;> first | rfl | cases this
/-- What a call's log says of cells holds. -/
def Kept (y : Log) (h h' : List Blk) : Prop := y.kin = .top → ∀ b off, y.keep b off = true → KeepAt h h' b off
theorem top_pure {k : Kin} (h : k.apart .top = true ∨ Kin.top.apart k = true) : k = .pure := by
  rcases h with h | h <;> cases k <;> first | rfl | cases h

theorem keepFn_at {C : Cfg} {ops : Array Oper} {o : Oper} {slot : Nat} {s : S} {p : Pt} {u : Upd} (hs : StepO C ops o slot s p u) {b off : Nat} (hk : keepFn o slot s (u.on s.h) b off = true) : KeepAt s.h (u.on s.h) b off := by
  obtain ⟨dst, op, ty, pos, after, guard⟩ := o
  unfold keepFn at hk
  cases guard with
  | some g => cases hk
  | none =>
    cases op <;> (try (cases hk; done))
    rename_i c
    obtain ⟨callee, args, ts⟩ := c
    cases callee with
    | invoke r nm => cases hk
    | value f => cases f <;> first | (cases hk; done) | exact keepOf_at hk
    | builtin bi =>
      cases bi <;> (try (cases hk; done))
      have hgo : guardOf ops { dst := dst, op := .call ⟨.builtin .append, args, ts⟩, type := ty, pos := pos, after := after, guard := none } s = some (none, []) := rfl
      unfold StepO at hs
      rw [hgo] at hs
      obtain ⟨v, _, he⟩ := hs
      have e1 : effOf C { dst := dst, op := .call ⟨.builtin .append, args, ts⟩, type := ty, pos := pos, after := after, guard := none } s [] = builtinAct C.P .append ts.toList (args.toList.map (s.rd [])) s.h := rfl
      rw [e1] at he
      simp only [Bool.not_eq_true', List.contains_eq_mem, decide_eq_false_iff_not, List.mem_cons, List.mem_append, not_or] at hk
      obtain ⟨h1, h2, h3⟩ := hk
      generalize args.toList.map (s.rd []) = as at he h2 h3
      generalize ts.toList = tl at he
      match tl, as, he, h2, h3 with
      | t :: t2 :: _, [a, x], he, h2, h3 =>
        refine .inl (append_keep (P := C.P) (t := t) (t2 := t2) (s := a) (x := x) he h1 ?_ ?_)
        · simpa [V.refsL] using h2
        · simpa [V.refsL] using h3
      | [], _, he, _, _ => exact he.elim
      | [_], _, he, _, _ => exact he.elim
      | _ :: _ :: _, [], he, _, _ => exact he.elim
      | _ :: _ :: _, [_], he, _, _ => exact he.elim
      | _ :: _ :: _, _ :: _ :: _ :: _, he, _, _ => exact he.elim
theorem commute {C : Cfg} {ops : Array Oper} {ix iy sx sy : Nat} {x y : Oper} {s : S} {px py : Pt} {ux uy : Upd} {lx ly : Log} {kx ky : Nat → Nat → Bool}
    (hx : StepO C ops x sx s px ux) (hlx : logOf C ops ix sx x s = some lx) (hkx : Kept { lx with keep := kx } s.h (ux.on s.h)) (hy : StepO C ops y sy (s.app x.dst px ux) py uy) (hly : logOf C ops iy sy y (s.app x.dst px ux) = some ly)
    (hky : Kept { ly with keep := ky } (s.app x.dst px ux).h (uy.on (s.app x.dst px ux).h)) (ha : ({ lx with keep := kx } : Log).apart { ly with keep := ky } = true) :
    StepO C ops y sy s py uy ∧ logOf C ops iy sy y s = some ly ∧ Kept { ly with keep := ky } s.h (uy.on s.h) ∧ StepO C ops x sx (s.app y.dst py uy) px ux ∧ logOf C ops ix sx x (s.app y.dst py uy) = some lx ∧
      Kept { lx with keep := kx } (s.app y.dst py uy).h (ux.on (s.app y.dst py uy).h) ∧ (s.app y.dst py uy).app x.dst px ux = (s.app x.dst px ux).app y.dst py uy := by
  obtain ⟨a1, a2, a3⟩ := Log.apart_iff ha
  simp only at a1 a2 a3
  have hdx : lx.dst = x.dst := by obtain ⟨_, _, _, _, rfl⟩ := logOf_iff.1 hlx; rfl
  have hdy : ly.dst = y.dst := by obtain ⟨_, _, _, _, rfl⟩ := logOf_iff.1 hly; rfl
  rw [hdx] at a1; rw [hdy] at a1 a2
  have fx : Fresh s x.dst := (logOf_iff.1 hlx).1
  have fy1 : Fresh (s.app x.dst px ux) y.dst := (logOf_iff.1 hly).1
  have oup := hx.upd hlx
  have fy : Fresh s y.dst := by
    intro d hd
    obtain ⟨h1, h2⟩ := fresh_iff.1 (fy1 d hd)
    rw [app_o fx] at h1 h2
    refine fresh_iff.2 ⟨?_, ?_⟩
    · cases hxd : x.dst with
      | none => rw [hxd] at h1; exact h1
      | some dx =>
        rw [hxd] at h1
        have : dx ≠ d := fun e => (a1 dx hxd).2 (by rw [hd, e])
        simpa [oPut, List.getD_eq_getElem?_getD, List.getElem?_set_ne this] using h1
    · intro u g w v hu
      cases hxd : x.dst with
      | none => rw [hxd] at h2; exact h2 u g w v hu
      | some dx =>
        rw [hxd] at h2
        have hne : dx ≠ u := by
          intro e; subst e
          rw [(fresh_iff.1 (fx dx hxd)).1] at hu; cases hu
        exact h2 u g w v (by simpa [oPut, List.getD_eq_getElem?_getD, List.getElem?_set_ne hne] using hu)
  have al1 : Alike' ly.rs s (s.app x.dst px ux) := app_alike fx px ux fun d hd => (a1 d hd).1
  have hly' := logOf_alike hly al1.symm fy
  have al2 : Alike' lx.rs s (s.app y.dst py uy) := app_alike fy py uy a2
  have nid : ∀ {k : Kin} {u : Upd}, k.nought = true → UpdOk k u → ∀ h, u.on h = h := by
    intro k u hn hu h
    cases k <;> simp [Kin.nought] at hn
    subst hn
    rcases hu with rfl | ⟨nb, rfl, hl, _⟩
    · rfl
    · have : nb = [] := List.length_eq_zero_iff.1 hl
      subst this; rfl
  have nact : ∀ {i sl : Nat} {o : Oper} {s0 : S} {l : Log}, logOf C ops i sl o s0 = some l → l.kin.nought = true → ∀ (h' : List Blk) gs, l.kin = kinOf C sl o.op (s0.rd (logGs o gs)) → ∀ v u2, EffTo C.P sl s0.h (effOf C o s0 gs) v u2 ↔ EffTo C.P sl h' (effOf C o { s0 with h := h' } gs) v u2 := by
    intro i sl o s0 l hl hn h' gs hk v u2
    rw [hk] at hn
    cases hk2 : kinOf C sl o.op (s0.rd (logGs o gs)) with
    | new lo n c =>
      rw [hk2] at hn
      have hn0 : n = 0 := by simpa [Kin.nought] using hn
      subst hn0
      have hnp : effOf C o s0 gs = opAct C o.op (s0.rd gs) s0.h ∧ effOf C o { s0 with h := h' } gs = opAct C o.op (s0.rd gs) h' ∧ logGs o gs = gs := by
        unfold effOf logGs
        split
        · rename_i c' x' y' hop; rw [hop] at hk2; simp [kinOf] at hk2
        · exact ⟨rfl, rfl, rfl⟩
      rw [hnp.2.2] at hk2
      rw [hnp.1, hnp.2.1]
      obtain ⟨rfl, e1, e2⟩ := kin_new hk2 s0.h h'
      rw [← e1]
      have e3 : ∀ a b : List Blk, allFree a lo 0 = allFree b lo 0 := fun _ _ => rfl
      exact ⟨fun h => fresh_same (e3 _ _) e2 h, fun h => fresh_same (e3 _ _) e2 h⟩
    | _ => rw [hk2] at hn; cases hn
  have hy' : StepO C ops y sy s py uy := by
    rcases a3 with a3 | ⟨t3, k3⟩ | n3 | n3
    · have hh1 : lx.kin ≠ .top → ∀ i : Nat, (s.app x.dst px ux).h[i]? = ux.at_ i s.h[i]? := fun hk i => by rw [app_h]; exact on_at (oup.noHeap hk) _ _
      exact (StepO.move (p := py) (u := uy) hly' al1 oup (.inl a3) hh1 hx.free).2 hy
    · refine (StepO.moveE (p := py) (u := uy) hly' al1 fun gs hk v u2 => ?_).2 hy
      rw [hk] at k3
      have hkd := eff_keep (h' := (s.app x.dst px ux).h) k3 (fun b off hb => by rw [app_h]; exact hkx t3 b off hb)
      rw [hkd]
      have hsim : (effOf C y s gs).simple = true := by
        cases hk2 : kinOf C sy y.op (s.rd (logGs y gs)) with
        | rd f =>
          have hnp : effOf C y s gs = opAct C y.op (s.rd gs) s.h ∧ logGs y gs = gs := by
            unfold effOf logGs
            split
            · rename_i c x' y' hop; rw [hop] at hk2; simp [kinOf] at hk2
            · exact ⟨rfl, rfl⟩
          rw [hnp.2] at hk2
          rw [hnp.1]
          obtain ⟨dst, op, ty, pos, after, guard⟩ := y
          simp only at hk2 ⊢
          cases op <;> simp only [kinOf] at hk2 <;> (try (cases hk2; done))
          case load t a => exact loadAct_simple _ _ _ _
          all_goals (exfalso; revert hk2; (repeat' split) <;> intro hk2 <;> cases hk2)
        | _ => rw [hk2] at k3; cases k3
      exact ⟨fun h => (simple_to hsim h).2, fun h => (simple_to hsim h).2⟩
    · refine (StepO.moveE (p := py) (u := uy) hly' al1 fun gs hk v u2 => ?_).2 hy
      have e2 : (s.app x.dst px ux).h = s.h := by rw [app_h, nid n3 oup]
      rw [e2]
    · exact (StepO.moveE (p := py) (u := uy) hly' al1 fun gs hk => nact hly' n3 _ gs hk).2 hy
  have yup := hy'.upd hly'
  have fx1 : Fresh (s.app y.dst py uy) x.dst := by
    intro d hd
    obtain ⟨h1, h2⟩ := fresh_iff.1 (fx d hd)
    rw [fresh_iff, app_o fy]
    cases hyd : y.dst with
    | none => exact ⟨h1, h2⟩
    | some dy =>
      have hne : dy ≠ d := fun e => (a1 d hd).2 (by rw [hyd, e])
      refine ⟨by simpa [oPut, List.getD_eq_getElem?_getD, List.getElem?_set_ne hne] using h1, fun u g w v hu => ?_⟩
      by_cases hud : dy = u
      · subst hud
        simp only [oPut, List.getD_eq_getElem?_getD, List.getElem?_set_self'] at hu
        cases hl : s.o[dy]? with
        | none => simp [hl] at hu
        | some z =>
          simp [hl] at hu
          have := hy'.ent hly' hu
          intro e; subst e
          exact (a1 g hd).1 this
      · exact h2 u g w v (by simpa [oPut, List.getD_eq_getElem?_getD, List.getElem?_set_ne hud] using hu)
  have hlx' := logOf_alike hlx al2 fx1
  -- where one of the two may do anything to memory, the other does nothing
  have uyno : (x_top : lx.kin = .top) → ∀ h, uy.on h = h := fun e h => by
    rcases a3 with a3 | ⟨_, k3⟩ | n3 | n3
    · have := top_pure (k := ly.kin) (.inr (e ▸ a3))
      rw [this] at yup
      simp only [UpdOk] at yup
      rw [yup]; rfl
    · cases hk2 : ly.kin with
      | rd f =>
        rw [hk2] at yup
        simp only [UpdOk] at yup
        rw [yup]; rfl
      | _ => rw [hk2] at k3; cases k3
    · rw [e] at n3; cases n3
    · exact nid n3 yup h
  have uxno : (y_top : ly.kin = .top) → ∀ h, ux.on h = h := fun e h => by
    rcases a3 with a3 | ⟨_, k3⟩ | n3 | n3
    · have := top_pure (k := lx.kin) (.inl (e ▸ a3))
      rw [this] at oup
      simp only [UpdOk] at oup
      rw [oup]; rfl
    · rw [e] at k3; cases k3
    · exact nid n3 oup h
    · rw [e] at n3; cases n3
  have hx' : StepO C ops x sx (s.app y.dst py uy) px ux := by
    rcases a3 with a3 | ⟨t3, k3⟩ | n3 | n3
    · have hh2 : ly.kin ≠ .top → ∀ i : Nat, (s.app y.dst py uy).h[i]? = uy.at_ i s.h[i]? := fun hk i => by rw [app_h]; exact on_at (yup.noHeap hk) _ _
      exact (StepO.move (p := px) (u := ux) hlx al2 yup (.inr a3) hh2 hy'.free).1 hx
    · refine (StepO.moveE (p := px) (u := ux) hlx al2 fun gs hk v u2 => ?_).1 hx
      have e2 : (s.app y.dst py uy).h = s.h := by rw [app_h, uyno t3]
      rw [e2]
    · exact (StepO.moveE (p := px) (u := ux) hlx al2 fun gs hk => nact hlx n3 _ gs hk).1 hx
    · refine (StepO.moveE (p := px) (u := ux) hlx al2 fun gs hk v u2 => ?_).1 hx
      have e2 : (s.app y.dst py uy).h = s.h := by rw [app_h, nid n3 yup]
      rw [e2]
  refine ⟨hy', hly', fun e => ?_, hx', hlx', fun e => ?_, ?_⟩
  · have e3 : (s.app x.dst px ux).h = s.h := by rw [app_h, uxno e]
    have := hky e
    rw [e3] at this; exact this
  · have e3 : (s.app y.dst py uy).h = s.h := by rw [app_h, uyno e]
    rw [e3]
    exact hkx e
  have et : ((s.app y.dst py uy).app x.dst px ux).t = ((s.app x.dst px ux).app y.dst py uy).t := by
    rw [app_t, app_t, app_t, app_t]
    cases hxd : x.dst with
    | none => cases y.dst <;> rfl
    | some dx => cases hyd : y.dst with
      | none => rfl
      | some dy => exact List.set_comm _ _ (fun e => (a1 dx hxd).2 (by rw [hyd, e]))
  have eo : ((s.app y.dst py uy).app x.dst px ux).o = ((s.app x.dst px ux).app y.dst py uy).o := by
    rw [app_o fx1, app_o fy, app_o fy1, app_o fx]
    cases hxd : x.dst with
    | none => cases y.dst <;> rfl
    | some dx => cases hyd : y.dst with
      | none => rfl
      | some dy => exact List.set_comm _ _ (fun e => (a1 dx hxd).2 (by rw [hyd, e]))
  have eh : ((s.app y.dst py uy).app x.dst px ux).h = ((s.app x.dst px ux).app y.dst py uy).h := by
    rw [app_h, app_h, app_h, app_h]
    rcases a3 with a3 | ⟨t3, k3⟩ | n3 | n3
    · exact on_comm oup yup a3 _
    · rw [uyno t3, uyno t3]
    · rw [nid n3 oup, nid n3 oup]
    · rw [nid n3 yup, nid n3 yup]
  generalize (s.app y.dst py uy).app x.dst px ux = A at et eo eh ⊢
  generalize (s.app x.dst px ux).app y.dst py uy = B at et eo eh ⊢
  obtain ⟨t1, o1, h1⟩ := A
  obtain ⟨t2, o2, h2⟩ := B
  simp only at et eo eh
  subst et; subst eo; subst eh
  rfl
end Go.Eng
