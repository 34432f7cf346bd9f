/- The engine, part W: regions, in their own order and in any. -/
import Derived.Test.YtdfelkcioeinfaaDoorEnwU
set_option linter.unusedVariables false
set_option linter.unusedSimpArgs false
namespace Go.Eng
open Go Go.RowKit

structure It where
  i : Nat
  o : Oper
  slot : Nat
def itemsOf (C : Cfg) : List Oper → Nat → Nat → List It
  | [], _, _ => []
  | o :: r, i, slot => ⟨i, o, slot⟩ :: itemsOf C r (i + 1) (slot + resv C o)
def RunN (C : Cfg) (ops : Array Oper) : List It → S → S → Prop
  | [], s, s' => s' = s
  | it :: r, s, s' => ∃ s1, StepR C ops it.o it.slot s s1 ∧ RunN C ops r s1 s'
def RunL (C : Cfg) (ops : Array Oper) : List It → S → S → List Log → Prop
  | [], s, s', logs => s' = s ∧ logs = []
  | it :: r, s, s', logs => ∃ p u y kp rest, StepO C ops it.o it.slot s p u ∧ logOf C ops it.i it.slot it.o s = some y ∧ Kept { y with keep := kp } s.h (u.on s.h) ∧ RunL C ops r (s.app it.o.dst p u) s' rest ∧ logs = { y with keep := kp } :: rest
def Rel (bef : List Nat) (x y : Log) : Prop := (bef.getD y.i 0).testBit x.i = true ∨ x.apart y = true

theorem forceT_eq {R : Type} (s : S) (k : S → Option R) : forceT s k = k s := by unfold forceT; rw [forceL_eq, forceL_eq]
theorem forceC_eq {R : Type} (b : Blk) (k : Blk → Option R) : forceC b k = k b := by cases b <;> simp only [forceC, forceL_eq]
theorem forceH_eq {R : Type} : ∀ (l : List Blk) (k : List Blk → Option R), forceH l k = k l
  | [], k => rfl
  | v :: l, k => by simp only [forceH, forceC_eq, forceH_eq l]
theorem forceE_eq {R : Type} (s : S) (k : S → Option R) : forceE s k = k { s with o := [] } := by unfold forceE; rw [forceL_eq, forceH_eq]
theorem opsK_n {C : Cfg} (hC : CfgOk C) {R : Type} {rec : Rec R} (hrec : RecOk C.P rec) {ops : Array Oper} {bef : List Nat} {k : S → Option R} {r : R} : ∀ (l : List Oper) (i slot : Nat) (s : S),
    opsK C rec ops false bef l i slot [] s k = some r → ∃ s', RunN C ops (itemsOf C l i slot) s s' ∧ k { s' with o := [] } = some r
  | [], i, slot, s, h => ⟨s, rfl, (forceE_eq s k).symm.trans h⟩
  | o :: l, i, slot, s, h => by
    simp only [opsK, Bool.false_eq_true, if_false, forceT_eq] at h
    obtain ⟨s1, h1, h2⟩ := stepK_to hC hrec h
    obtain ⟨s', h3, h4⟩ := opsK_n hC hrec l _ _ _ h2
    exact ⟨s', ⟨s1, h1, h3⟩, h4⟩
theorem opsK_d {C : Cfg} (hC : CfgOk C) {R : Type} {rec : Rec R} (hrec : RecOk C.P rec) {ops : Array Oper} {bef : List Nat} {k : S → Option R} {r : R} : ∀ (l : List Oper) (i slot : Nat) (log : List Log) (s : S),
    opsK C rec ops true bef l i slot log s k = some r → ∃ s' logs, RunL C ops (itemsOf C l i slot) s s' logs ∧ (∀ x ∈ log, ∀ y ∈ logs, Rel bef x y) ∧ logs.Pairwise (Rel bef) ∧ k { s' with o := [] } = some r
  | [], i, slot, log, s, h => ⟨s, [], ⟨rfl, rfl⟩, by simp, .nil, (forceE_eq s k).symm.trans h⟩
  | o :: l, i, slot, log, s, h => by
    simp only [opsK, if_true, forceT_eq] at h
    split at h
    · cases h
    · rename_i y hy
      split at h
      · rename_i hok
        obtain ⟨s1, h1, h2⟩ := stepK_to hC hrec h
        obtain ⟨p, u, ho, rfl⟩ := h1.out
        obtain ⟨s', logs, h3, h4, h5, h6⟩ := opsK_d hC hrec l _ _ _ _ h2
        have hyi : y.i = i := by obtain ⟨_, _, _, _, rfl⟩ := logOf_iff.1 hy; rfl
        refine ⟨s', { y with keep := keepFn o slot s (s.app o.dst p u).h } :: logs, ⟨p, u, y, _, logs, ho, hy, fun _ b off hb => ?_, h3, rfl⟩, ?_, ?_, h6⟩
        · rw [app_h] at hb
          exact keepFn_at ho hb
        · intro x hx z hz
          rcases List.mem_cons.1 hz with rfl | hz
          · simp only [logOk, List.all_eq_true, Bool.or_eq_true] at hok
            have := hok x hx
            unfold Rel
            simp only
            rw [hyi]
            exact this
          · exact h4 x (by simp [hx]) z hz
        · exact List.pairwise_cons.2 ⟨fun z hz => h4 _ (by simp) z hz, h5⟩
      · cases h

/-- One of the rest, apart from all ahead of it, may come first. -/
theorem bubble {C : Cfg} {ops : Array Oper} {x : It} {post : List It} : ∀ {pre : List It} {s s' : S} {logs : List Log}, RunL C ops (pre ++ x :: post) s s' logs →
    (∀ (j : Nat) (y z : Log), j < pre.length → logs[j]? = some y → logs[pre.length]? = some z → y.apart z = true) →
    ∃ z lpre lpost, logs = lpre ++ z :: lpost ∧ lpre.length = pre.length ∧ RunL C ops (x :: (pre ++ post)) s s' (z :: (lpre ++ lpost))
  | [], s, s', logs, h, _ => by
    obtain ⟨p, u, y, kp, rest, h1, h2, h2k, h3, rfl⟩ := h
    exact ⟨_, [], rest, rfl, rfl, ⟨p, u, y, kp, rest, h1, h2, h2k, h3, rfl⟩⟩
  | w :: pre, s, s', logs, h, ha => by
    obtain ⟨p, u, y, kp, rest, h1, h2, h2k, h3, rfl⟩ := h
    obtain ⟨z, lpre, lpost, rfl, hl, hr⟩ := bubble h3 (fun j y' z' hj hy' hz' => ha (j + 1) y' z' (by simpa using hj) (by simpa using hy') (by simpa using hz'))
    obtain ⟨px, ux, z', kz, rest', g1, g2, g2k, g3, g4⟩ := hr
    simp only [List.cons.injEq] at g4
    obtain ⟨rfl, rfl⟩ := g4
    have hap := ha 0 { y with keep := kp } { z' with keep := kz } (by simp) (by simp) (by simp [← hl])
    obtain ⟨c1, c2, c2k, c3, c4, c4k, c5⟩ := commute h1 h2 h2k g1 g2 g2k hap
    refine ⟨_, _ :: lpre, lpost, rfl, by simp [hl], px, ux, z', kz, _, c1, c2, c2k, ⟨p, u, y, kp, _, c3, c4, c4k, by rw [c5]; exact g3, rfl⟩, rfl⟩

section
variable {w w1 : World} {C : Cfg}

theorem wpOp_goal {P : Program} {ops : Array Oper} {i : Nat} {o : Oper} {a : Go.Act} {K : Go.Act → World → Prop} {Q : Exit → Go.Act → World → Prop} (hi : ops[i]? = some o) (h : StepGoal P ops o a w K Q) : wpOp P ops Q i K a w := by
  unfold wpOp
  rw [hi]
  unfold StepGoal at h
  simp only
  split
  · rename_i hw; rw [if_pos hw] at h; exact .inl h
  · rename_i hw; rw [if_neg hw] at h; exact h

theorem wpOps_n (hC : CfgOk C) {ops : Array Oper} {Q : Exit → Go.Act → World → Prop} {s' : S} : ∀ (l : List Oper) (i slot : Nat) (s : S) (Φ : Fr) (π : Pi) (a : Go.Act) (w : World), (∀ (j : Nat) (o : Oper), l[j]? = some o → ops[i + j]? = some o) →
    RunN C ops (itemsOf C l i slot) s s' → SR Φ w1 π s a w → (∀ Φ' π' a' w', Fr.ext w1.heap.size Φ Φ' → π.le π' → SR Φ' w1 π' s' a' w' → Q .normal a' w') →
    wpOps C.P ops Q (List.range' i l.length) a w
  | [], i, slot, s, Φ, π, a, w, _, hr, hs, hq => by
    simp only [itemsOf, RunN] at hr; subst hr
    exact hq Φ π a w (Fr.ext.refl _ _) (Pi.le_refl π) hs
  | o :: l, i, slot, s, Φ, π, a, w, ho, hr, hs, hq => by
    simp only [itemsOf, RunN] at hr
    obtain ⟨s1, h1, h2⟩ := hr
    rw [List.length_cons, List.range'_succ, wpOps_cons]
    refine wpOp_goal (ho 0 o rfl) (step_sound hC hs h1 ?_)
    intro Φ' π' a' w' hxx hle hs'
    refine wpOps_n hC l (i + 1) _ s1 Φ' π' a' w' (fun j o' hj => by rw [show i + 1 + j = i + (j + 1) by omega]; exact ho (j + 1) o' (by simpa using hj)) h2 hs' ?_
    exact fun Φ2 π2 a2 w2 hx2 hle2 hs2 => hq Φ2 π2 a2 w2 (hxx.trans hx2) (Pi.le_trans hle hle2) hs2

theorem RunL.length {ops : Array Oper} : ∀ {l : List It} {s s' : S} {logs : List Log}, RunL C ops l s s' logs → logs.length = l.length
  | [], s, s', logs, h => by obtain ⟨_, rfl⟩ := h; rfl
  | it :: l, s, s', logs, h => by obtain ⟨p, u, y, kp, rest, _, _, _, h3, rfl⟩ := h; simp [RunL.length h3]
theorem RunL.log_i {ops : Array Oper} : ∀ {l : List It} {s s' : S} {logs : List Log}, RunL C ops l s s' logs → ∀ {j : Nat} {it : It} {y : Log}, l[j]? = some it → logs[j]? = some y → y.i = it.i
  | [], s, s', logs, h, j, it, y, hi, _ => by simp at hi
  | x :: l, s, s', logs, h, j, it, y, hi, hy => by
    obtain ⟨p, u, z, kp, rest, _, h2, _, h3, rfl⟩ := h
    cases j with
    | zero =>
      simp at hi hy; subst hi; subst hy
      obtain ⟨_, _, _, _, rfl⟩ := logOf_iff.1 h2; rfl
    | succ j => exact RunL.log_i h3 (by simpa using hi) (by simpa using hy)

/-- The masks tell no more than the edges do. -/
def BefOk (ops : Array Oper) (bef : List Nat) : Prop :=
  ∀ (i : Nat) (o : Oper) (e : Nat), ops[i]? = some o → (bef.getD i 0).testBit e = true → ∃ d ∈ o.after, Region.binds .any d = true ∧ (e = d.on ∨ (bef.getD d.on 0).testBit e = true)
def EdgeOk (ops : Array Oper) : Prop := ∀ (i : Nat) (o : Oper), ops[i]? = some o → ∀ d ∈ o.after, Region.binds .any d = true → d.on < i

theorem any_sound (hC : CfgOk C) {ops : Array Oper} {bef : List Nat} (hb : BefOk ops bef) (he : EdgeOk ops) {Q : Exit → Go.Act → World → Prop} {s' : S} :
    ∀ (n : Nat) (l : List It) (logs : List Log) (listed : Array Bool) (s : S) (Φ : Fr) (π : Pi) (a : Go.Act) (w : World), l.length = n → RunL C ops l s s' logs → logs.Pairwise (Rel bef) →
      (∀ it ∈ l, ops[it.i]? = some it.o) → (l.map (·.i)).Pairwise (· < ·) → listed.size = ops.size → (∀ j, j < ops.size → (listed.getD j false = true ↔ j ∉ l.map (·.i))) →
      (∀ j e, j < ops.size → listed.getD j false = true → (bef.getD j 0).testBit e = true → listed.getD e false = true) →
      SR Φ w1 π s a w → (∀ Φ' π' a' w', Fr.ext w1.heap.size Φ Φ' → π.le π' → SR Φ' w1 π' s' a' w' → Q .normal a' w') → wpAny C.P .any ops Q n listed a w
  | 0, l, logs, listed, s, Φ, π, a, w, hn, hr, _, _, _, hsz, hl, _, hs, hq => by
    have : l = [] := List.length_eq_zero_iff.1 hn
    subst this
    obtain ⟨rfl, _⟩ := hr
    refine ⟨?_, hq Φ π a w (Fr.ext.refl _ _) (Pi.le_refl π) hs⟩
    apply List.eq_nil_iff_forall_not_mem.2
    intro j hj
    obtain ⟨h1, o, ho, _⟩ := mem_ready.1 hj
    have hlt : j < ops.size := (Array.getElem?_eq_some_iff.1 ho).1
    have := (hl j hlt).2 (by simp)
    simp [Array.getD_eq_getD_getElem?, Array.getElem?_eq_getElem (show j < listed.size by omega)] at h1 this
    rw [h1] at this; cases this
  | n + 1, l, logs, listed, s, Φ, π, a, w, hn, hr, hp, hit, hord, hsz, hl, hdown, hs, hq => by
    refine ⟨fun h0 => ?_, fun i hi => ?_⟩
    · -- the first of the rest is ready
      exfalso
      match l, hn with
      | x :: l', _ =>
        have hx := hit x (by simp)
        have hlt : x.i < ops.size := (Array.getElem?_eq_some_iff.1 hx).1
        have hunl : listed.getD x.i false = false := by
          cases hc : listed.getD x.i false with
          | false => rfl
          | true => have := (hl x.i hlt).1 hc; simp at this
        have : x.i ∈ Region.ready .any ops listed := by
          refine mem_ready.2 ⟨?_, x.o, hx, fun d hd hb' => ?_⟩
          · simp [Array.getD_eq_getD_getElem?, Array.getElem?_eq_getElem (show x.i < listed.size by omega)] at hunl ⊢
            exact hunl
          · have hlt' := he x.i x.o hx d hd hb'
            refine (hl d.on (by omega)).2 ?_
            intro hm
            simp only [List.map_cons, List.mem_cons] at hm
            rcases hm with hm | hm
            · omega
            · have h3 : x.i < d.on := (List.pairwise_cons.1 hord).1 _ hm
              omega
        rw [h0] at this; cases this
    · obtain ⟨h1, o, ho, hpre⟩ := mem_ready.1 hi
      have hlt : i < ops.size := (Array.getElem?_eq_some_iff.1 ho).1
      have hunl : listed.getD i false = false := by
        simp [Array.getD_eq_getD_getElem?, Array.getElem?_eq_getElem (show i < listed.size by omega)] at h1 ⊢
        exact h1
      have hmem : i ∈ l.map (·.i) := by
        rcases Classical.em (i ∈ l.map (·.i)) with h | h
        · exact h
        · rw [(hl i hlt).2 h] at hunl; cases hunl
      obtain ⟨x, hxm, rfl⟩ := List.mem_map.1 hmem
      obtain ⟨pre, post, rfl⟩ := List.append_of_mem hxm
      have hxo := hit x (by simp)
      rw [ho] at hxo; cases hxo
      have hbefL : ∀ e, (bef.getD x.i 0).testBit e = true → listed.getD e false = true := by
        intro e hbe
        obtain ⟨d, hd, hdb, h2⟩ := hb x.i x.o e ho hbe
        have hl1 := hpre d hd hdb
        rcases h2 with rfl | h2
        · exact hl1
        · exact hdown d.on e (by have := he x.i x.o ho d hd hdb; omega) hl1 h2
      have hlen := RunL.length hr
      have hap : ∀ (j : Nat) (y z : Log), j < pre.length → logs[j]? = some y → logs[pre.length]? = some z → y.apart z = true := by
        intro j y z hj hy hz
        have hrel : Rel bef y z := by
          obtain ⟨hj1, rfl⟩ := List.getElem?_eq_some_iff.1 hy
          obtain ⟨hj2, rfl⟩ := List.getElem?_eq_some_iff.1 hz
          exact List.pairwise_iff_getElem.1 hp j pre.length hj1 hj2 hj
        rcases hrel with hrel | hrel
        · exfalso
          have hzi : z.i = x.i := RunL.log_i hr (j := pre.length) (by simp) hz
          have hpj : (pre ++ x :: post)[j]? = some pre[j] := by rw [List.getElem?_append_left hj, List.getElem?_eq_getElem hj]
          have hyi : y.i = pre[j].i := RunL.log_i hr (j := j) hpj hy
          rw [hzi, hyi] at hrel
          have hlst := hbefL _ hrel
          have hjlt : pre[j].i < ops.size := (Array.getElem?_eq_some_iff.1 (hit pre[j] (by simp))).1
          exact (hl _ hjlt).1 hlst (List.mem_map.2 ⟨pre[j], by simp, rfl⟩)
        · exact hrel
      obtain ⟨z, lpre, lpost, rfl, hlp, hrun⟩ := bubble hr hap
      obtain ⟨p, u, z', kz, rest, g1, g2, _, g3, g4⟩ := hrun
      simp only [List.cons.injEq] at g4
      obtain ⟨rfl, rfl⟩ := g4
      refine wpOp_goal ho (step_sound hC hs g1.step ?_)
      intro Φ' π' a' w' hxx hle hs'
      refine any_sound hC hb he n (pre ++ post) (lpre ++ lpost) _ _ Φ' π' a' w' (by simp at hn ⊢; omega) g3 ?_ ?_ ?_ (by simp [hsz]) ?_ ?_ hs' (fun Φ2 π2 a2 w2 hx2 hle2 hs2 => hq Φ2 π2 a2 w2 (hxx.trans hx2) (Pi.le_trans hle hle2) hs2)
      · have := hp
        rw [List.pairwise_append] at this ⊢
        refine ⟨this.1, (List.pairwise_cons.1 this.2.1).2, fun y hy z hz => this.2.2 y hy z (by simp [hz])⟩
      · intro it hit'
        exact hit it (by simp at hit' ⊢; rcases hit' with h | h <;> simp [h])
      · have := hord
        simp only [List.map_append, List.map_cons] at this ⊢
        rw [List.pairwise_append] at this ⊢
        exact ⟨this.1, (List.pairwise_cons.1 this.2.1).2, fun y hy z hz => this.2.2 y hy z (by simp at hz ⊢; exact .inr hz)⟩
      · intro j hj
        have hnd : ∀ k ∈ pre.map (·.i) ++ post.map (·.i), k ≠ x.i := by
          intro k hk
          have := hord
          simp only [List.map_append, List.map_cons] at this
          rw [List.pairwise_append] at this
          rcases List.mem_append.1 hk with hk | hk
          · have := this.2.2 k hk x.i (by simp); omega
          · have := (List.pairwise_cons.1 this.2.1).1 k hk; omega
        by_cases hjx : j = x.i
        · subst hjx
          have h2 : (listed.setIfInBounds x.i true).getD x.i false = true := by simp [Array.getD_eq_getD_getElem?, hsz, hj]
          rw [h2]
          simp only [List.map_append, true_iff]
          intro hm
          exact hnd _ hm rfl
        · rw [getD_set_ne false (fun e => hjx e.symm), hl j hj]
          simp only [List.map_append, List.map_cons, List.mem_append, List.mem_cons]
          constructor
          · intro h hm
            rcases hm with h' | h'
            · exact h (.inl h')
            · exact h (.inr (.inr h'))
          · intro h hm; rcases hm with hm | hm | hm
            · exact h (.inl hm)
            · exact hjx hm
            · exact h (.inr hm)
      · intro j e hj hlj hbe
        by_cases hjx : j = x.i
        · subst hjx
          exact getD_set_true (hbefL e hbe)
        · rw [getD_set_ne false (fun e => hjx e.symm)] at hlj
          exact getD_set_true (hdown j e hj hlj hbe)

/-! ### the masks -/
theorem befOf_bit {acc : List Nat} {e : Nat} : ∀ (l : List Edge) (m : Nat), (l.foldl (fun m e => if Region.binds .any e then m ||| (2 ^ e.on ||| acc.getD e.on 0) else m) m).testBit e = true →
    m.testBit e = true ∨ ∃ d ∈ l, Region.binds .any d = true ∧ (e = d.on ∨ (acc.getD d.on 0).testBit e = true)
  | [], m, h => .inl h
  | d :: l, m, h => by
    simp only [List.foldl_cons] at h
    rcases befOf_bit l _ h with h | ⟨d', h1, h2⟩
    · split at h
      · rename_i hb
        simp only [Nat.testBit_or, Bool.or_eq_true] at h
        rcases h with h | h | h
        · exact .inl h
        · refine .inr ⟨d, by simp, hb, .inl ?_⟩
          simpa [Nat.testBit_two_pow, eq_comm] using h
        · exact .inr ⟨d, by simp, hb, .inr h⟩
      · exact .inl h
    · exact .inr ⟨d', by simp [h1], h2⟩
theorem befsOf_pre : ∀ (l : List Oper) (acc : List Nat) (i : Nat), i < acc.length → (befsOf l acc).getD i 0 = acc.getD i 0
  | [], acc, i, _ => rfl
  | o :: l, acc, i, h => by
    simp only [befsOf]
    rw [befsOf_pre l _ i (by simp; omega)]
    simp [List.getD_eq_getElem?_getD, List.getElem?_append_left h]
theorem befsOf_at : ∀ (l : List Oper) (acc : List Nat) (i : Nat) (o : Oper), l[i]? = some o → ∃ acc', (befsOf l acc).getD (acc.length + i) 0 = befOf acc' o ∧ ∀ k e, (acc'.getD k 0).testBit e = true → ((befsOf l acc).getD k 0).testBit e = true
  | [], acc, i, o, h => by simp at h
  | x :: l, acc, 0, o, h => by
    simp at h; subst h
    refine ⟨acc, ?_, fun k e hk => ?_⟩
    · simp only [befsOf]
      rw [befsOf_pre l _ _ (by simp)]
      simp [List.getD_eq_getElem?_getD]
    · simp only [befsOf]
      rcases Nat.lt_or_ge k acc.length with hl | hl
      · rw [befsOf_pre l _ _ (by simp; omega)]
        simpa [List.getD_eq_getElem?_getD, List.getElem?_append_left hl] using hk
      · simp [List.getD_eq_getElem?_getD, List.getElem?_eq_none hl] at hk
  | x :: l, acc, i + 1, o, h => by
    obtain ⟨acc', h1, h2⟩ := befsOf_at l (acc ++ [befOf acc x]) i o (by simpa using h)
    refine ⟨acc', ?_, h2⟩
    simp only [befsOf]
    rw [← h1]
    congr 1
    simp; omega
theorem befs_ok (ops : Array Oper) : BefOk ops (befsOf ops.toList []) := by
  intro i o e ho hbit
  obtain ⟨acc', h1, h2⟩ := befsOf_at ops.toList [] i o (by simpa using ho)
  simp only [List.length_nil, Nat.zero_add] at h1
  rw [h1] at hbit
  rcases befOf_bit _ _ hbit with h | ⟨d, hd, hb, h⟩
  · simp at h
  · refine ⟨d, by simpa using hd, hb, h.imp id fun h => h2 _ _ h⟩
theorem edges_ok {ops : Array Oper} (h : edgesOk ops.toList 0 = true) : EdgeOk ops := by
  have key : ∀ (l : List Oper) (i : Nat), edgesOk l i = true → ∀ (j : Nat) (o : Oper), l[j]? = some o → ∀ d ∈ o.after, Region.binds .any d = true → d.on < i + j := by
    intro l
    induction l with
    | nil => intro i _ j o ho; simp at ho
    | cons x l ih =>
      intro i h j o ho d hd hb
      simp only [edgesOk, Bool.and_eq_true, List.all_eq_true] at h
      cases j with
      | zero =>
        simp at ho; subst ho
        have := h.1 d (by simpa using hd)
        simpa [hb] using this
      | succ j =>
        have := ih (i + 1) h.2 j o (by simpa using ho) d hd hb
        omega
  intro i o ho d hd hb
  have := key ops.toList 0 h i o (by simpa using ho) d hd hb
  omega
end
end Go.Eng
