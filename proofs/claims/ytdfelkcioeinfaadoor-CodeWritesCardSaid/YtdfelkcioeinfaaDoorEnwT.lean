/- The engine, part T: operations that may change places. -/
import Derived.Test.YtdfelkcioeinfaaDoorEnwS
set_option linter.unusedVariables false
set_option linter.unusedSimpArgs false
namespace Go.Eng
open Go Go.RowKit

/-- Values alone. -/
def Eff.simple : Eff → Bool
  | .fail | .val _ => true
  | .ite _ x y => x.simple && y.simple
  | _ => false
theorem simple_to {P : Program} {slot slot' : Nat} {h h' : List Blk} : ∀ {e : Eff} {v : V} {u : Upd}, e.simple = true → EffTo P slot h e v u → u = .no ∧ EffTo P slot' h' e v u
  | .fail, v, u, _, he => he.elim
  | .val v0, v, u, _, he => ⟨he.2, he⟩
  | .ite c x y, v, u, hs, he => by
    simp only [Eff.simple, Bool.and_eq_true] at hs
    rcases he with ⟨hc, he⟩ | ⟨hc, he⟩
    · obtain ⟨h1, h2⟩ := simple_to (slot' := slot') (h' := h') hs.1 he; exact ⟨h1, .inl ⟨hc, h2⟩⟩
    · obtain ⟨h1, h2⟩ := simple_to (slot' := slot') (h' := h') hs.2 he; exact ⟨h1, .inr ⟨hc, h2⟩⟩
  | .store .., _, _, hs, _ => by simp [Eff.simple] at hs
  | .new .., _, _, hs, _ => by simp [Eff.simple] at hs
  | .put .., _, _, hs, _ => by simp [Eff.simple] at hs
  | .mod .., _, _, hs, _ => by simp [Eff.simple] at hs
  | .call .., _, _, hs, _ => by simp [Eff.simple] at hs
  | .enter .., _, _, hs, _ => by simp [Eff.simple] at hs

theorem binInt_simple (op : BinOp) (k : IntKind) (a b : Int) : (binInt op k a b).simple = true := by cases op <;> rfl
theorem shiftInt_simple (op : BinOp) (k : IntKind) (a b : Int) : (shiftInt op k a b).simple = true := by cases op <;> rfl
theorem nilEq_simple (P : Program) (t : TypeId) (x : V) (neg : Bool) : (nilEq P t x neg).simple = true := by
  unfold nilEq
  (repeat' split) <;> rfl
theorem binAct_simple (P : Program) (op : BinOp) (t : TypeId) (x y : V) : (binAct P op t x y).simple = true := by
  unfold binAct
  split
  · split
    · simp [Eff.simple, shiftInt_simple]
    · exact shiftInt_simple _ _ _ _
  · split
    · simp [Eff.simple, shiftInt_simple]
    · exact shiftInt_simple _ _ _ _
  · split
    · exact binInt_simple _ _ _ _
    · rfl
  all_goals (try split) <;> first | rfl | exact nilEq_simple _ _ _ _
theorem partV_simple (P : Program) (t : TypeId) (c : List V) (off : Nat) : (partV P t c off).simple = true := by
  unfold partV; repeat' split
  all_goals rfl
theorem loadAct_simple (P : Program) (t : TypeId) (x : V) (h : List Blk) : (loadAct P t x h).simple = true := by
  unfold loadAct; repeat' split
  all_goals first | rfl | exact partV_simple P _ _ _ | simp [Eff.simple, partV_simple]

theorem elems_same {T : Ty} {x : V} (hx : x.ownSl = false) (h h' : List Blk) : elems T x h = elems T x h' := by
  cases x <;> first | rfl | (simp [V.ownSl] at hx; done) | (rename_i n; cases n <;> rfl)
theorem kin_pure {C : Cfg} {slot : Nat} {op : Op} {ρ : Operand → V} (hk : kinOf C slot op ρ = .pure) (h h' : List Blk) : opAct C op ρ h = opAct C op ρ h' ∧ (opAct C op ρ h).simple = true := by
  cases op <;> simp only [kinOf] at hk <;> (try (cases hk; done)) <;> simp only [opAct, true_and] <;> (try rfl)
  case load => split at hk <;> cases hk
  case store => split at hk <;> cases hk
  case buildSlice t len ps =>
    split at hk
    · rename_i hem
      have e : ∀ h, buildSliceAct C.P t len (ps.toList.map fun p => (p.1, ρ p.2)) h = .val .esl := by
        intro h
        unfold buildSliceAct
        rw [if_pos (by simpa using hem)]
      exact ⟨by rw [e, e], by rw [e]; rfl⟩
    · split at hk <;> cases hk
  case binOp => (repeat' split) <;> first | rfl | exact binAct_simple _ _ _ _ _
  case build => unfold buildAct; repeat' split
                all_goals rfl
  case nilCheck => unfold nilAct; split <;> rfl
  case unOp => unfold unAct; split <;> rfl
  case convert a b x =>
    split at hk
    · cases hk
    · rename_i ho
      have ho : (ρ x).ownSl = false := by simpa using ho
      refine ⟨by simp only [convAct, elems_same ho h h'], ?_⟩
      unfold convAct; (repeat' split) <;> rfl
  case makeFunc fn first cap => cases fn <;> simp only <;> (try split) <;> exact ⟨trivial, rfl⟩
  case fieldAddr => unfold fieldAct; repeat' split
                    all_goals rfl
  case field => unfold fieldOfAct; split <;> first | rfl | exact partV_simple _ _ _ _
  case indexAddr => unfold indexAct; repeat' split
                    all_goals rfl
  case index => unfold idxAct; (repeat' split) <;> rfl
  case slice => unfold sliceAct; (repeat' split) <;> rfl
  case typeAssert => unfold assertAct; (repeat' split) <;> rfl
  case extract => repeat' split
                  all_goals rfl
  case makeInterface => split <;> rfl
  case call c =>
    obtain ⟨callee, args, ts⟩ := c
    cases callee with
    | value f =>
      simp only at hk
      repeat' split at hk
      all_goals cases hk
    | invoke r m => cases hk
    | builtin b =>
      cases b <;> simp only at hk <;> (try (cases hk; done)) <;> (try (exfalso; split at hk <;> first | (cases hk; done) | (split at hk <;> cases hk; done); done)) <;> simp only <;> unfold builtinAct lenAct <;> (refine ⟨?_, ?_⟩) <;> (repeat' split) <;> first | rfl | simp_all

/-- New blocks of its own alone. -/
def Eff.fresh (n : Nat) : Eff → Prop
  | .fail => True
  | .new bs _ => bs.length = n
  | .call _ sp _ => n = sp.nNew
  | .ite _ x y => x.fresh n ∧ y.fresh n
  | _ => False
theorem fresh_upd {P : Program} {slot n : Nat} {h : List Blk} : ∀ {e : Eff} {v : V} {u : Upd}, e.fresh n → EffTo P slot h e v u → ∃ nb, u = .news slot nb ∧ nb.length = n
  | .fail, v, u, _, he => he.elim
  | .new bs mk, v, u, hn, he => ⟨bs, he.2.2, hn⟩
  | .call g sp args, v, u, hn, he => by
    obtain ⟨v0, nb, _, hl, _, _, rfl⟩ := he
    exact ⟨nb, rfl, by rw [hl]; exact hn.symm⟩
  | .ite c x y, v, u, hn, he => he.elim (fun h => fresh_upd hn.1 h.2) (fun h => fresh_upd hn.2 h.2)
  | .val _, v, u, hn, _ => hn.elim
  | .store .., v, u, hn, _ => hn.elim
  | .put .., v, u, hn, _ => hn.elim
  | .mod .., v, u, hn, _ => hn.elim
  | .enter .., v, u, hn, _ => hn.elim
theorem fresh_same {P : Program} {slot n : Nat} {h h' : List Blk} (hf : allFree h' slot n = allFree h slot n) : ∀ {e : Eff} {v : V} {u : Upd}, e.fresh n → EffTo P slot h e v u → EffTo P slot h' e v u
  | .fail, v, u, _, he => he
  | .new bs mk, v, u, hn, he => ⟨by have := he.1; simp only [Eff.fresh] at hn; rw [hn] at this ⊢; rw [hf]; exact this, he.2⟩
  | .call g sp args, v, u, hn, he => by
    obtain ⟨v0, nb, h1, h2, h3, h4⟩ := he
    simp only [Eff.fresh] at hn; subst hn
    exact ⟨v0, nb, h1, h2, by rw [hf]; exact h3, h4⟩
  | .ite c x y, v, u, hn, he => he.elim (fun h => .inl ⟨h.1, fresh_same hf hn.1 h.2⟩) (fun h => .inr ⟨h.1, fresh_same hf hn.2 h.2⟩)
  | .val _, v, u, hn, _ => hn.elim
  | .store .., v, u, hn, _ => hn.elim
  | .put .., v, u, hn, _ => hn.elim
  | .mod .., v, u, hn, _ => hn.elim
  | .enter .., v, u, hn, _ => hn.elim
theorem splitV_len {c : List V} : ∀ {l : Lay} {bs : List Blk}, splitV l c = some bs → bs.length = l.length := fun {l bs} h => (atsV_length (g := 0) h).2
theorem newVarE_fresh (P : Program) (t : TypeId) (c : List V) : (newVarE P t c).fresh (nBlk P t) := by
  unfold newVarE nBlk
  split
  · rfl
  · split
    · trivial
    · split
      · rename_i bs h; exact splitV_len h
      · trivial
theorem kin_new {C : Cfg} {slot lo n : Nat} {cc : Bool} {op : Op} {ρ : Operand → V} (hk : kinOf C slot op ρ = .new lo n cc) (h h' : List Blk) : lo = slot ∧ opAct C op ρ h = opAct C op ρ h' ∧ (opAct C op ρ h).fresh n := by
  cases op <;> simp only [kinOf] at hk <;> (try (cases hk; done))
  case alloc e =>
    cases hk
    refine ⟨rfl, by simp only [opAct], ?_⟩
    simp only [opAct]
    (repeat' split) <;> first | trivial | exact newVarE_fresh _ _ _
  case box e x =>
    cases hk
    refine ⟨rfl, by simp only [opAct], ?_⟩
    simp only [opAct]
    (repeat' split) <;> first | trivial | exact newVarE_fresh _ _ _
  case buildSlice t len ps =>
    split at hk
    · cases hk
    rename_i hem
    split at hk
    · cases hk
    · rename_i ho
      cases hk
      have hem' : emptyB C.P t len (ps.toList.map fun p => (p.1, ρ p.2)).isEmpty = false := by simpa using hem
      have hq : ∀ q ∈ (ps.toList.map fun p => (p.1, ρ p.2)), q.2.ownSl = false := by
        intro q hq
        obtain ⟨p, hp, rfl⟩ := List.mem_map.1 hq
        simp only [Bool.not_eq_true, List.any_eq_false] at ho
        simpa using ho p hp
      refine ⟨rfl, ?_, ?_⟩
      · simp only [opAct]
        revert hq hem'
        generalize (ps.toList.map fun p => (p.1, ρ p.2)) = parts
        intro hem' hq
        unfold buildSliceAct
        simp only [hem', Bool.false_eq_true, if_false]
        split
        · rfl
        · split
          · split
            · split
              · rename_i b _ _ _ _
                have := hq _ (List.mem_singleton_self _)
                simp [V.ownSl] at this
              · rfl
            · rfl
          · rfl
      · simp only [opAct]
        revert hq hem'
        generalize (ps.toList.map fun p => (p.1, ρ p.2)) = parts
        intro hem' hq
        unfold buildSliceAct
        simp only [hem', Bool.false_eq_true, if_false]
        split
        · trivial
        · split
          · split
            · split
              · rename_i b _ _ _ _
                have := hq _ (List.mem_singleton_self _)
                simp [V.ownSl] at this
              · trivial
            · (repeat' split) <;> first | trivial | rfl
          · trivial
  case load => split at hk <;> cases hk
  case store => split at hk <;> cases hk
  case convert => split at hk <;> cases hk
  case makeSlice t n c =>
    cases hk
    refine ⟨rfl, by simp only [opAct], ?_⟩
    simp only [opAct, makeAct]
    (repeat' split) <;> first | trivial | exact ⟨rfl, trivial⟩
  case makeMap t n =>
    cases hk
    cases n with
    | none => exact ⟨rfl, rfl, rfl⟩
    | some n => exact ⟨rfl, rfl, trivial⟩
  case call c =>
    obtain ⟨callee, args, ts⟩ := c
    cases callee with
    | value f =>
      simp only at hk
      split at hk
      · rename_i g cap hf
        split at hk
        · rename_i sp hsp
          split at hk
          rotate_left
          · split at hk <;> cases hk
          · rename_i hr
            cases hk
            have e : ∀ h, opAct C (.call { callee := .value f, args := args, argTypes := ts }) ρ h = if !bodyB C.P g then .fail else .call g sp (args.toList.map ρ ++ cap) := by
              intro h
              simp only [opAct, callAct, hf, enterAct, hsp, hr, if_true, Option.isSome]
            refine ⟨rfl, by rw [e, e], ?_⟩
            rw [e]
            split
            · trivial
            · rfl
        · cases hk
      · cases hk
    | invoke r m => cases hk
    | builtin b =>
      cases b <;> (try (cases hk; done))
      case append =>
        simp only at hk
        split at hk
        · rename_i t tr s x ht hx
          split at hk
          · rename_i hc
            cases hk
            simp only [Bool.and_eq_true, Bool.not_eq_true'] at hc
            obtain ⟨⟨hs, ho⟩, hw⟩ := hc
            simp only [opAct, hx]
            unfold builtinAct
            cases tr with
            | nil => simp only [ht]; first | exact ⟨trivial, trivial, trivial⟩ | exact ⟨trivial, rfl, trivial⟩ | exact ⟨rfl, rfl, trivial⟩
            | cons t2 tr =>
              simp only [ht]
              unfold plainE at hw
              unfold appendAct
              split at hw
              · rename_i e hu
                rw [hu]
                cases C.P.underlying t2 with
                | none => first | exact ⟨trivial, trivial, trivial⟩ | exact ⟨trivial, rfl, trivial⟩ | exact ⟨rfl, rfl, trivial⟩
                | some d =>
                  have hw' : ownT C.P e = none := by simpa using hw
                  cases d <;> (try (first | exact ⟨trivial, trivial, trivial⟩ | exact ⟨trivial, rfl, trivial⟩ | exact ⟨rfl, rfl, trivial⟩))
                  rename_i e2
                  simp only [hw']
                  by_cases hbb : (bytesB C.P e == 0) = true
                  · simp only [hbb, if_true]; first | exact ⟨trivial, trivial, trivial⟩ | exact ⟨trivial, rfl, trivial⟩ | exact ⟨rfl, rfl, trivial⟩
                  · simp only [if_neg hbb]
                    refine ⟨trivial, ?_, ?_⟩
                    · split
                      · rename_i T hT
                        rw [elems_same ho h h']
                        cases s <;> first | rfl | cases hs
                      · rfl
                    · split
                      · split
                        · trivial
                        · split
                          · cases s <;> first | exact ⟨rfl, trivial⟩ | cases hs
                          · trivial
                      · trivial
              · cases hw
          · cases hk
        · cases hk

theorem splice_get {α : Type} : ∀ {vs l : List α} {off i : Nat}, i < off ∨ off + vs.length ≤ i → (List.splice l off vs)[i]? = l[i]?
  | [], l, off, i, _ => rfl
  | v :: vs, l, off, i, h => by
    simp only [List.length_cons] at h
    simp only [List.splice]
    rw [splice_get (by omega), List.getElem?_set_ne (by omega)]
theorem splice_set {α : Type} : ∀ {vs l : List α} {off i : Nat} {x : α}, i < off ∨ off + vs.length ≤ i → List.splice (l.set i x) off vs = (List.splice l off vs).set i x
  | [], l, off, i, x, _ => rfl
  | v :: vs, l, off, i, x, h => by
    simp only [List.length_cons] at h
    simp only [List.splice]
    rw [List.set_comm _ _ (by omega), splice_set (by omega)]
theorem splice_comm {α : Type} : ∀ {us vs l : List α} {o1 o2 : Nat}, o1 + us.length ≤ o2 ∨ o2 + vs.length ≤ o1 → List.splice (List.splice l o1 us) o2 vs = List.splice (List.splice l o2 vs) o1 us
  | [], vs, l, o1, o2, _ => rfl
  | u :: us, vs, l, o1, o2, h => by
    simp only [List.length_cons] at h
    simp only [List.splice]
    rw [splice_comm (by omega), splice_set (by omega)]

theorem partV_congr {P : Program} {t : TypeId} {c c' : List V} {off : Nat} (hl : c.length = c'.length) (h : ∀ i, off ≤ i → i < off + (sizeB P t).getD 0 → c[i]? = c'[i]?) : partV P t c off = partV P t c' off := by
  unfold partV
  split
  · rename_i n hag hs
    rw [hs] at h
    rw [hl]
    split
    · congr 2
      apply List.ext_getElem?
      intro i
      simp only [List.getElem?_take, List.getElem?_drop]
      split
      · exact h _ (by omega) (by simp; omega)
      · rfl
    · rfl
  · rename_i n hag hs
    rw [hs] at h
    rw [h off (by omega) (by simp)]
  · rfl

/-! ### updates, block by block -/
def spl (off : Nat) (vs : List V) : Blk → Blk
  | .cells c => .cells (List.splice c off vs)
  | b => b
def rowTo (x : Blk) : Blk → Blk
  | .row _ _ => x
  | b => b
def Upd.at_ (u : Upd) (i : Nat) (o : Option Blk) : Option Blk :=
  match u with
  | .no | .heap _ => o
  | .store b off vs => if i = b then o.map (spl off vs) else o
  | .put b T xs => if i = b then o.map (rowTo (.row T xs)) else o
  | .news lo nb => if lo ≤ i ∧ i < lo + nb.length then o.bind (fun _ => nb[i - lo]?) else o
theorem setN_at : ∀ (nb : List Blk) (h : List Blk) (i j : Nat), (setN h i nb)[j]? = if i ≤ j ∧ j < i + nb.length then (h[j]?).bind (fun _ => nb[j - i]?) else h[j]?
  | [], h, i, j => by simp only [setN, List.length_nil]; rw [if_neg (by omega)]
  | x :: nb, h, i, j => by
    simp only [setN, List.length_cons]
    rw [setN_at nb]
    by_cases h1 : i + 1 ≤ j ∧ j < i + 1 + nb.length
    · rw [if_pos h1, if_pos (by omega), List.getElem?_set_ne (by omega)]
      have : j - i = (j - (i + 1)) + 1 := by omega
      rw [this]; rfl
    · rw [if_neg h1]
      by_cases h2 : j = i
      · subst h2
        rw [if_pos (by omega)]
        rcases Nat.lt_or_ge j h.length with hl | hl
        · rw [List.getElem?_set_self hl, List.getElem?_eq_getElem hl]; simp
        · rw [List.getElem?_eq_none (by simpa using hl), List.getElem?_eq_none hl]; rfl
      · rw [if_neg (by omega), List.getElem?_set_ne (by omega)]
theorem on_at {u : Upd} (hu : ∀ h', u ≠ .heap h') (h : List Blk) (i : Nat) : (u.on h)[i]? = u.at_ i h[i]? := by
  cases u with
  | no => rfl
  | heap h' => exact absurd rfl (hu h')
  | store b off vs =>
    simp only [Upd.on, Upd.at_, storeH]
    by_cases hi : i = b
    · subst hi
      rw [if_pos rfl]
      cases hx : h[i]? with
      | none => simp only [Option.map_none]; exact hx
      | some blk =>
        have hlt := (List.getElem?_eq_some_iff.1 hx).1
        cases blk <;> simp only [Option.map_some, spl] <;> first | exact hx | (rw [List.getElem?_set_self hlt])
    · rw [if_neg hi]
      split
      · rw [List.getElem?_set_ne (fun e => hi e.symm)]
      · rfl
  | news lo nb => simp only [Upd.on, Upd.at_]; exact setN_at _ _ _ _
  | put b T xs =>
    simp only [Upd.on, Upd.at_, putH]
    by_cases hi : i = b
    · subst hi
      rw [if_pos rfl]
      cases hx : h[i]? with
      | none => simp only [Option.map_none]; exact hx
      | some blk =>
        have hlt := (List.getElem?_eq_some_iff.1 hx).1
        cases blk <;> simp only [Option.map_some, rowTo] <;> first | exact hx | (rw [List.getElem?_set_self hlt])
    · rw [if_neg hi]
      split
      · rw [List.getElem?_set_ne (fun e => hi e.symm)]
      · rfl

/-- An update as its kind allows it. -/
def UpdOk (k : Kin) (u : Upd) : Prop :=
  match k with
  | .pure | .rd _ | .rda => u = .no
  | .wr f => u = .no ∨ ∃ b off vs, u = .store b off vs ∧ f = [(b, off, off + vs.length)]
  | .new lo n c => u = .no ∨ ∃ nb, u = .news lo nb ∧ nb.length = n ∧ (c = true → ∀ x ∈ nb, ∃ l, x = Blk.cells l)
  | .newr lo n => u = .no ∨ ∃ nb, u = .news lo nb ∧ nb.length = n
  | .put b => u = .no ∨ ∃ T xs, u = .put b T xs
  | .top => True
theorem UpdOk.noHeap {k : Kin} {u : Upd} (h : UpdOk k u) (hk : k ≠ .top) : ∀ h', u ≠ .heap h' := by
  intro h' e; subst e
  cases k <;> simp [UpdOk] at h
  exact hk rfl

theorem foot_one {b off n : Nat} {f : Foot} {b' : Nat} {lo hi : Nat} (hf : f = [(b, off, off + n)]) (h : footMeets f [(b', lo, hi)] = false) : b ≠ b' ∨ off + n ≤ lo ∨ hi ≤ off := by
  subst hf
  simp only [footMeets, List.any_cons, List.any_nil, Bool.or_false, Bool.and_eq_false_iff, beq_eq_false_iff_ne, decide_eq_false_iff_not] at h
  omega
theorem foot_one' {b off n : Nat} {f : Foot} {b' : Nat} {lo hi : Nat} (hf : f = [(b, off, off + n)]) (h : footMeets [(b', lo, hi)] f = false) : b ≠ b' ∨ off + n ≤ lo ∨ hi ≤ off := by
  subst hf
  simp only [footMeets, List.any_cons, List.any_nil, Bool.or_false, Bool.and_eq_false_iff, beq_eq_false_iff_ne, decide_eq_false_iff_not] at h
  omega

/-- What u does to a block that the other one looks at: nothing it could see. -/
theorem at_load {k : Kin} {u : Upd} {b off n : Nat} (hu : UpdOk k u) (ha : k.apart (.rd [(b, off, off + n)]) = true ∨ (Kin.rd [(b, off, off + n)]).apart k = true) (o : Option Blk) :
    u.at_ b o = o ∨ (∃ c, o = some (.cells c) ∧ ∃ o2 vs, u.at_ b o = some (.cells (List.splice c o2 vs)) ∧ (o2 + vs.length ≤ off ∨ off + n ≤ o2)) ∨ (∃ x, o = some x ∧ (∀ c, x ≠ .cells c) ∧ u.at_ b o = o) := by
  cases k with
  | pure => simp only [UpdOk] at hu; subst hu; exact .inl rfl
  | rd f => simp only [UpdOk] at hu; subst hu; exact .inl rfl
  | rda => simp only [UpdOk] at hu; subst hu; exact .inl rfl
  | wr f =>
    rcases hu with rfl | ⟨b', o2, vs, rfl, hf⟩
    · exact .inl rfl
    · have hd : b' ≠ b ∨ o2 + vs.length ≤ off ∨ off + n ≤ o2 := by
        rcases ha with ha | ha
        · simp only [Kin.apart, Bool.not_eq_true'] at ha; exact foot_one hf ha
        · simp only [Kin.apart, Bool.not_eq_true'] at ha; exact foot_one' hf ha
      simp only [Upd.at_]
      by_cases hb : b = b'
      · subst hb
        rw [if_pos rfl]
        cases o with
        | none => exact .inl rfl
        | some x =>
          cases x with
          | cells c => exact .inr (.inl ⟨c, rfl, o2, vs, rfl, hd.resolve_left (by simp)⟩)
          | _ => exact .inl rfl
      · rw [if_neg hb]; exact .inl rfl
  | new lo m cc =>
    have hout : b < lo ∨ lo + m ≤ b := by
      rcases ha with ha | ha <;> simpa [Kin.apart, outOf] using ha
    rcases hu with rfl | ⟨nb, rfl, hl, _⟩
    · exact .inl rfl
    · simp only [Upd.at_]; rw [if_neg (by omega)]; exact .inl rfl
  | newr lo m =>
    have hout : b < lo ∨ lo + m ≤ b := by
      rcases ha with ha | ha <;> simpa [Kin.apart, outOf] using ha
    rcases hu with rfl | ⟨nb, rfl, hl⟩
    · exact .inl rfl
    · simp only [Upd.at_]; rw [if_neg (by omega)]; exact .inl rfl
  | put b' =>
    have hout : b ≠ b' := by
      rcases ha with ha | ha <;> simp [Kin.apart, outOf] at ha <;> omega
    rcases hu with rfl | ⟨T, xs, rfl⟩
    · exact .inl rfl
    · simp only [Upd.at_]; rw [if_neg hout]; exact .inl rfl
  | top => rcases ha with ha | ha <;> simp [Kin.apart] at ha

theorem at_shape {k : Kin} {u : Upd} {b : Nat} {f : Foot} (hu : UpdOk k u) (hb : ∃ lo hi, f = [(b, lo, hi)]) (ha : k.apart (.wr f) = true ∨ (Kin.wr f).apart k = true) (o : Option Blk) :
    u.at_ b o = o ∨ (∃ c, o = some (.cells c) ∧ ∃ c', u.at_ b o = some (.cells c') ∧ c'.length = c.length) := by
  obtain ⟨lo0, hi0, rfl⟩ := hb
  cases k with
  | pure => simp only [UpdOk] at hu; subst hu; exact .inl rfl
  | rd f => simp only [UpdOk] at hu; subst hu; exact .inl rfl
  | rda => simp only [UpdOk] at hu; subst hu; exact .inl rfl
  | wr f =>
    rcases hu with rfl | ⟨b', o2, vs, rfl, hf⟩
    · exact .inl rfl
    · simp only [Upd.at_]
      by_cases hb : b = b'
      · subst hb
        rw [if_pos rfl]
        cases o with
        | none => exact .inl rfl
        | some x =>
          cases x with
          | cells c => exact .inr ⟨c, rfl, _, rfl, List.splice_length⟩
          | _ => exact .inl rfl
      · rw [if_neg hb]; exact .inl rfl
  | new lo m cc =>
    have hout : b < lo ∨ lo + m ≤ b := by
      rcases ha with ha | ha <;> simpa [Kin.apart, outOf] using ha
    rcases hu with rfl | ⟨nb, rfl, hl, _⟩
    · exact .inl rfl
    · simp only [Upd.at_]; rw [if_neg (by omega)]; exact .inl rfl
  | newr lo m => rcases ha with ha | ha <;> simp [Kin.apart] at ha
  | put b' =>
    have hout : b ≠ b' := by
      rcases ha with ha | ha <;> simp [Kin.apart, outOf] at ha <;> omega
    rcases hu with rfl | ⟨T, xs, rfl⟩
    · exact .inl rfl
    · simp only [Upd.at_]; rw [if_neg hout]; exact .inl rfl
  | top => rcases ha with ha | ha <;> simp [Kin.apart] at ha
theorem at_free {k : Kin} {u : Upd} {b lo n : Nat} {c : Bool} (hu : UpdOk k u) (hb : lo ≤ b ∧ b < lo + n) (ha : k.apart (.new lo n c) = true ∨ (Kin.new lo n c).apart k = true) (o : Option Blk) :
    u.at_ b o = some .free ↔ o = some .free := by
  cases k with
  | pure => simp only [UpdOk] at hu; subst hu; exact Iff.rfl
  | rd f => simp only [UpdOk] at hu; subst hu; exact Iff.rfl
  | rda => simp only [UpdOk] at hu; subst hu; exact Iff.rfl
  | wr f =>
    rcases hu with rfl | ⟨b', o2, vs, rfl, hf⟩
    · exact Iff.rfl
    · simp only [Upd.at_]
      split
      · cases o with
        | none => simp
        | some x => cases x <;> simp [spl]
      · exact Iff.rfl
  | new lo' m cc =>
    have hout : lo' + m ≤ lo ∨ lo + n ≤ lo' := by
      rcases ha with ha | ha <;> simp [Kin.apart] at ha <;> omega
    rcases hu with rfl | ⟨nb, rfl, hl, _⟩
    · exact Iff.rfl
    · simp only [Upd.at_]; rw [if_neg (by omega)]
  | newr lo' m =>
    have hout : lo' + m ≤ lo ∨ lo + n ≤ lo' := by
      rcases ha with ha | ha <;> simp [Kin.apart] at ha <;> omega
    rcases hu with rfl | ⟨nb, rfl, hl⟩
    · exact Iff.rfl
    · simp only [Upd.at_]; rw [if_neg (by omega)]
  | put b' =>
    have hout : b ≠ b' := by
      rcases ha with ha | ha <;> simp [Kin.apart] at ha <;> omega
    rcases hu with rfl | ⟨T, xs, rfl⟩
    · exact Iff.rfl
    · simp only [Upd.at_]; rw [if_neg hout]
  | top => rcases ha with ha | ha <;> simp [Kin.apart] at ha

theorem at_put {k : Kin} {u : Upd} {b : Nat} (hu : UpdOk k u) (ha : k.apart (.put b) = true ∨ (Kin.put b).apart k = true) (o : Option Blk) : u.at_ b o = o := by
  cases k with
  | pure => simp only [UpdOk] at hu; subst hu; rfl
  | rd f => simp only [UpdOk] at hu; subst hu; rfl
  | rda => simp only [UpdOk] at hu; subst hu; rfl
  | wr f =>
    rcases hu with rfl | ⟨b', o2, vs, rfl, hf⟩
    · rfl
    · have hb : b ≠ b' := by
        subst hf
        rcases ha with ha | ha <;> simp [Kin.apart, outOf] at ha <;> omega
      simp only [Upd.at_]; rw [if_neg hb]
  | new lo m cc =>
    have hout : b < lo ∨ lo + m ≤ b := by
      rcases ha with ha | ha <;> simpa [Kin.apart] using ha
    rcases hu with rfl | ⟨nb, rfl, hl, _⟩
    · rfl
    · simp only [Upd.at_]; rw [if_neg (by omega)]
  | newr lo m => rcases ha with ha | ha <;> simp [Kin.apart] at ha
  | put b' =>
    have hb : b ≠ b' := by
      rcases ha with ha | ha <;> simp [Kin.apart] at ha <;> omega
    rcases hu with rfl | ⟨T, xs, rfl⟩
    · rfl
    · simp only [Upd.at_]; rw [if_neg hb]
  | top => rcases ha with ha | ha <;> simp [Kin.apart] at ha
theorem load_same {P : Program} {t : TypeId} {x : V} {k : Kin} {u : Upd} {h h' : List Blk} (hx1 : ∀ b i, x ≠ .elr b i) (hx2 : ∀ b i j off, x ≠ .el2 b i j off) (hu : UpdOk k u) (ha : k.apart (.rd (addrFoot P t x)) = true ∨ (Kin.rd (addrFoot P t x)).apart k = true)
    (hh : ∀ i, h'[i]? = u.at_ i h[i]?) : loadAct P t x h' = loadAct P t x h := by
  cases x with
  | ptr b off =>
    simp only [loadAct]
    rw [hh b]
    rcases at_load hu ha h[b]? with e | ⟨c, e1, o2, vs, e2, hd⟩ | ⟨y, e1, hne, e2⟩
    · rw [e]
    · rw [e2, e1]
      simp only
      exact partV_congr List.splice_length (fun i h1 h2 => splice_get (by omega))
    · rw [e2]
  | parr b n sz =>
    simp only [loadAct]
    rw [hh b]
    rcases at_load hu ha h[b]? with e | ⟨c, e1, o2, vs, e2, hd⟩ | ⟨y, e1, hne, e2⟩
    · rw [e]
    · rw [e2, e1]
    · rw [e2]
  | elp b i off =>
    simp only [loadAct]
    rw [hh b]
    rcases at_load hu ha h[b]? with e | ⟨c, e1, o2, vs, e2, hd⟩ | ⟨y, e1, hne, e2⟩
    · rw [e]
    · rw [e2, e1]
    · rw [e2]
  | elr b i => exact absurd rfl (hx1 b i)
  | el2 b i j off => exact absurd rfl (hx2 b i j off)
  | _ => rfl
theorem store_same {P : Program} {t : TypeId} {b off : Nat} {y : V} {k : Kin} {u : Upd} {h h' : List Blk} (hu : UpdOk k u) (ha : k.apart (.wr (addrFoot P t (.ptr b off))) = true ∨ (Kin.wr (addrFoot P t (.ptr b off))).apart k = true)
    (hh : ∀ i, h'[i]? = u.at_ i h[i]?) : storeAct P t (.ptr b off) y h' = storeAct P t (.ptr b off) y h := by
  simp only [storeAct]
  rw [hh b]
  rcases at_shape hu ⟨off, _, rfl⟩ ha h[b]? with e | ⟨c, e1, c', e2, hl⟩
  · rw [e]
  · rw [e2, e1]
    cases hs : sizeB P t with
    | none => rfl
    | some n => dsimp only; rw [hl]
theorem storeEl_same {P : Program} {t : TypeId} {b i off : Nat} {y : V} {k : Kin} {u : Upd} {h h' : List Blk} (hu : UpdOk k u) (ha : k.apart (.put b) = true ∨ (Kin.put b).apart k = true)
    (hh : ∀ i, h'[i]? = u.at_ i h[i]?) : storeAct P t (.elp b i off) y h' = storeAct P t (.elp b i off) y h := by
  simp only [storeAct]
  rw [hh b, at_put hu ha]
theorem allFree_same {k : Kin} {u : Upd} {h h' : List Blk} {lo n : Nat} {c : Bool} (hu : UpdOk k u) (ha : k.apart (.new lo n c) = true ∨ (Kin.new lo n c).apart k = true)
    (hh : ∀ i, h'[i]? = u.at_ i h[i]?) : ∀ m i, lo ≤ i → i + m ≤ lo + n → (allFree h' i m = allFree h i m)
  | 0, i, _, _ => rfl
  | m + 1, i, h1, h2 => by
    simp only [allFree]
    rw [allFree_same hu ha hh m (i + 1) (by omega) (by omega)]
    have : isFree h' i = isFree h i := by
      rw [Bool.eq_iff_iff, isFree_iff, isFree_iff, hh i]
      exact at_free hu ⟨by omega, by omega⟩ ha _
    rw [this]

theorem map_congr_op {ρ ρ' : Operand → V} {o : Option Operand} (h : ∀ x, o = some x → ρ x = ρ' x) : o.map ρ = o.map ρ' := by
  cases o with
  | none => rfl
  | some x => simp [h x rfl]
theorem parts_congr {ρ ρ' : Operand → V} {ps : Array (Nat × Operand)} (hp : ∀ i x, (i, x) ∈ ps → ρ x = ρ' x) : (ps.toList.map fun p => (p.1, ρ p.2)) = (ps.toList.map fun p => (p.1, ρ' p.2)) :=
  List.map_congr_left fun p hm => by rw [hp p.1 p.2 (by simpa using hm)]
/-- The operand's values alone count. -/
theorem opAct_congr {C : Cfg} {op : Op} {ρ ρ' : Operand → V} (h : List Blk) (hp : ∀ x ∈ op.operands, ρ x = ρ' x) : opAct C op ρ h = opAct C op ρ' h := by
  cases op <;> simp only [Op.operands] at hp <;> simp only [opAct]
  case build t ps => rw [parts_congr fun i x hx => hp x (by simpa using ⟨i, hx⟩)]
  case buildSlice t len ps => rw [parts_congr fun i x hx => hp x (by simpa using ⟨i, hx⟩)]
  case slice t x lo hi mx =>
    simp at hp
    rw [hp.1, map_congr_op fun y e => hp.2 y (.inl e), map_congr_op fun y e => hp.2 y (.inr (.inl e)), map_congr_op fun y e => hp.2 y (.inr (.inr e))]
  case makeFunc fn first cap =>
    have : cap.toList.map ρ = cap.toList.map ρ' := List.map_congr_left fun x hm => hp x (by simp; exact .inr (by simpa using hm))
    cases fn <;> first | rfl | simp only [this]
  case makeMap t n => cases n <;> rfl
  case call c =>
    obtain ⟨callee, args, ts⟩ := c
    have hm : args.toList.map ρ = args.toList.map ρ' := List.map_congr_left fun x hx => hp x (by simp only [Call.operands]; cases callee <;> simp <;> first | exact .inr (by simpa using hx) | simpa using hx)
    cases callee with
    | value f => simp only; rw [hm, hp f (by simp [Call.operands])]
    | invoke r m => simp only; rw [hm, hp r (by simp [Call.operands])]
    | builtin b => simp only; rw [hm]
  all_goals (try rfl)
  all_goals (try simp at hp)
  all_goals (first | rw [hp] | rw [hp.1, hp.2] | rw [hp.1, hp.2.1, hp.2.2])
theorem kinOf_congr {C : Cfg} {slot : Nat} {op : Op} {ρ ρ' : Operand → V} (hp : ∀ x ∈ op.operands, ρ x = ρ' x) : kinOf C slot op ρ = kinOf C slot op ρ' := by
  cases op <;> simp only [Op.operands] at hp <;> simp only [kinOf]
  case load t a => rw [hp a (by simp)]
  case store t a x => rw [hp a (by simp)]
  case convert a b x => rw [hp x (by simp)]
  case buildSlice t len ps =>
    have : (ps.toList.any fun p => (ρ p.2).ownSl) = (ps.toList.any fun p => (ρ' p.2).ownSl) := by
      have h1 : ∀ (q : List (Nat × Operand)), (q.any fun p => (ρ p.2).ownSl) = ((q.map fun p => (p.1, ρ p.2)).any fun x => x.2.ownSl) := fun q => by simp [List.any_map, Function.comp_def]
      have h2 : ∀ (q : List (Nat × Operand)), (q.any fun p => (ρ' p.2).ownSl) = ((q.map fun p => (p.1, ρ' p.2)).any fun x => x.2.ownSl) := fun q => by simp [List.any_map, Function.comp_def]
      rw [h1, h2, parts_congr fun i x hx => hp x (by simpa using ⟨i, hx⟩)]
    rw [this]
  case call c =>
    obtain ⟨callee, args, ts⟩ := c
    have hm : args.toList.map ρ = args.toList.map ρ' := List.map_congr_left fun x hx => hp x (by simp only [Call.operands]; cases callee <;> simp <;> first | exact .inr (by simpa using hx) | simpa using hx)
    cases callee with
    | value f => simp only; rw [hm, hp f (by simp [Call.operands])]
    | invoke r m => rfl
    | builtin b => cases b <;> first | rfl | (simp only; rw [hm])
end Go.Eng
