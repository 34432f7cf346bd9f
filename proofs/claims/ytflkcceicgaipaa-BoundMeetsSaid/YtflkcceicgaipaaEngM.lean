/- The engine, part M: code, functions, calls. -/
import Derived.Test.YtflkcceicgaipaaEngL
set_option linter.unusedVariables false
set_option linter.unusedSimpArgs false
namespace Go.Eng
open Go Go.RowKit

def Ex.conv : Ex → Exit
  | .normal => .normal
  | .exit id => .exit id
  | .ret => .ret
def Pi.leN (n0 : Nat) (π π' : Pi) : Prop := ∀ b g, b < n0 → π b = some g → π' b = some g
theorem Pi.leN_of {n0 : Nat} {π π' : Pi} (h : π.le π') : Pi.leN n0 π π' := fun b g _ hg => h b g hg
theorem Pi.leN_trans {n0 : Nat} {π π' π'' : Pi} (h : Pi.leN n0 π π') (h' : Pi.leN n0 π' π'') : Pi.leN n0 π π'' := fun b g hb hg => h' b g hb (h b g hb hg)

/-- What code comes to. -/
def CodeTo (C : Cfg) (n0 : Nat) (c : Code) (s : S) (e : Ex) (s' : S) : Prop :=
  ∀ (w0 w1 : World) (π : Pi) (a : Go.Act) (w : World) (Q : Exit → Go.Act → World → Prop), SR w0 w1 π s a w → (∀ π' a' w', Pi.leN n0 π π' → SR w0 w1 π' s' a' w' → Q e.conv a' w') → c.wp C.P Q a w

section
variable {w0 w1 w : World} {π : Pi} {C : Cfg}

theorem HR.more {h : List Blk} (hr : HR w0 w1 π h w) (n : Nat) : HR w0 w1 π (h ++ List.replicate n .free) w := by
  refine ⟨hr.base, hr.below, fun b hb => ?_, fun b blk hb hne => ?_, hr.inj⟩
  · rcases Nat.lt_or_ge b h.length with hl | hl
    · rw [List.getElem?_append_left hl] at hb; exact hr.free b hb
    · exact hr.free b (.inl (List.getElem?_eq_none hl))
  · rcases Nat.lt_or_ge b h.length with hl | hl
    · rw [List.getElem?_append_left hl] at hb; exact hr.live b blk hb hne
    · rw [List.getElem?_append_right hl, List.getElem?_replicate] at hb
      split at hb
      · cases hb; exact absurd rfl hne
      · cases hb
theorem SR.begin {s : S} {a : Go.Act} (hs : SR w0 w1 π s a w) (n : Nat) (o : List (Option (Nat × Bool × V))) (ho : ∀ u, o.getD u none = none) : SR w0 w1 π { s with h := s.h ++ List.replicate n .free, o := o } a w :=
  ⟨hs.len, hs.tm, fun u g b v hu => (by rw [ho u] at hu; cases hu), hs.df, hs.hp.more n⟩
theorem SR.ends {s : S} {a : Go.Act} (hs : SR w0 w1 π s a w) : SR w0 w1 π { s with o := [] } a w :=
  ⟨hs.len, hs.tm, fun u g b v hu => by simp at hu, hs.df, hs.hp⟩
theorem SR.drew {s : S} {a : Go.Act} {n : Nat} (hs : SR w0 w1 π s a w) : SR w0 w1 π s a { w with drawn := n } := ⟨hs.len, hs.tm, hs.op, hs.df, hs.hp.drew⟩

theorem items_o : ∀ (l : List Oper) (i slot : Nat) (it : It), it ∈ itemsOf C l i slot → ∃ j, it.i = i + j ∧ l[j]? = some it.o
  | [], i, slot, it, h => by simp [itemsOf] at h
  | o :: l, i, slot, it, h => by
    simp only [itemsOf, List.mem_cons] at h
    rcases h with rfl | h
    · exact ⟨0, rfl, rfl⟩
    · obtain ⟨j, h1, h2⟩ := items_o l _ _ it h
      exact ⟨j + 1, by omega, by simpa using h2⟩
theorem items_i : ∀ (l : List Oper) (i slot : Nat), (itemsOf C l i slot).map (·.i) = List.range' i l.length
  | [], i, slot => rfl
  | o :: l, i, slot => by simp only [itemsOf, List.map_cons, items_i l, List.length_cons, List.range'_succ]
theorem items_len : ∀ (l : List Oper) (i slot : Nat), (itemsOf C l i slot).length = l.length
  | [], i, slot => rfl
  | o :: l, i, slot => by simp [itemsOf, items_len l]

theorem region_sound (hC : CfgOk C) {R : Type} {rec : Rec R} (hrec : RecOk C.P rec) {n0 id : Nat} {ops : Array Oper} {draw : Bool} {s : S} {k : S → Option R} {r : R} {n : Nat} {o : List (Option (Nat × Bool × V))} (ho : ∀ u, o.getD u none = none)
    (he : (draw && !edgesOk ops.toList 0) = false) (h : opsK C rec ops draw (if draw then befsOf ops.toList [] else []) ops.toList 0 s.h.length [] { s with h := s.h ++ List.replicate n .free, o := o } k = some r) :
    ∃ s', k s' = some r ∧ CodeTo C n0 (.region id ops draw) s .normal s' := by
  cases draw with
  | false =>
    simp only [Bool.false_eq_true, if_false] at h
    obtain ⟨s', h1, h2⟩ := opsK_n hC hrec _ _ _ _ h
    refine ⟨_, h2, fun w0 w1 π a w Q hs hq => ?_⟩
    refine wp_region ?_
    rw [show List.range ops.size = List.range' 0 ops.toList.length by simp [List.range_eq_range']]
    refine wpOps_n hC ops.toList 0 _ _ π a w (fun j o' hj => by simpa using hj) h1 (hs.begin n o ho) ?_
    exact fun π' a' w' hle hs' => hq π' a' w' (Pi.leN_of hle) hs'.ends
  | true =>
    simp only [if_true] at h
    obtain ⟨s', logs, h1, _, h3, h4⟩ := opsK_d hC hrec _ _ _ _ _ h
    refine ⟨_, h4, fun w0 w1 π a w Q hs hq => ?_⟩
    refine wp_region_any hC.mixed ?_
    have hedge : edgesOk ops.toList 0 = true := by simpa using he
    refine any_sound hC (befs_ok ops) (edges_ok hedge) ops.size _ logs _ _ π a _ (by rw [items_len]; simp) h1 h3 ?_ ?_ (by simp) ?_ ?_ (hs.drew.begin n o ho) ?_
    · intro it hit
      obtain ⟨j, h5, h6⟩ := items_o _ _ _ it hit
      rw [h5, Nat.zero_add]
      simpa using h6
    · rw [items_i]; exact List.pairwise_lt_range' 1
    · intro j hj
      rw [items_i]
      simp [List.mem_range'_1, hj]
    · intro j e hj hlj
      simp [Array.getD_eq_getD_getElem?, hj] at hlj
    · exact fun π' a' w' hle hs' => hq π' a' w' (Pi.leN_of hle) hs'.ends

/-! ### blocks numbered anew -/
mutual
theorem VR.ren {π' : Pi} {r : Nat → Option Nat} (hr : ∀ b b' g, r b = some b' → π b = some g → π' b' = some g) : ∀ {x : V} {c : Value}, VR w0 π x c → VR w0 π' (V.ren r x) c
  | .any, _, _ => by simp [VR, V.ren]
  | .bool b, v, hv => by simpa [VR, V.ren] using hv
  | .int k m, v, hv => by simpa [VR, V.ren] using hv
  | .str s, v, hv => by simpa [VR, V.ren] using hv
  | .ptr b off, v, hv => by
    simp only [VR, V.ren] at hv ⊢
    obtain ⟨g, hg, e⟩ := hv
    cases hb : r b with
    | none => simp [VR]
    | some b' => simp only [VR]; exact ⟨g, hr _ _ _ hb hg, e⟩
  | .nilp, v, hv => by simpa [VR, V.ren] using hv
  | .ro t l, v, hv => by simpa only [VR, V.ren] using hv
  | .rop t x off, v, hv => by simpa only [VR, V.ren] using hv
  | .sl _ _ _, v, hv => by simp [VR] at hv
  | .slp _ _ _, v, hv => by simp [VR] at hv
  | .nsl, v, hv => by simpa [VR, V.ren] using hv
  | .fn f c, v, hv => by simp only [VR, V.ren] at hv ⊢; obtain ⟨cs, e, hc⟩ := hv; exact ⟨cs, e, VRL.ren hr hc⟩
  | .nilf, v, hv => by simpa [VR, V.ren] using hv
  | .iface t x, v, hv => by simp only [VR, V.ren] at hv ⊢; obtain ⟨u, e, hc⟩ := hv; exact ⟨u, e, VR.ren hr hc⟩
  | .nili, v, hv => by simpa [VR, V.ren] using hv
  | .agg l, v, hv => by simp only [VR, V.ren] at hv ⊢; obtain ⟨cs, e, hc⟩ := hv; exact ⟨cs, e, VRL.ren hr hc⟩
  | .tup l, v, hv => by simp only [VR, V.ren] at hv ⊢; obtain ⟨cs, e, hc⟩ := hv; exact ⟨cs, e, VRL.ren hr hc⟩
  | .map b, v, hv => by
    simp only [VR, V.ren] at hv ⊢
    obtain ⟨g, hg, e⟩ := hv
    cases hb : r b with
    | none => simp [VR]
    | some b' => simp only [VR]; exact ⟨g, hr _ _ _ hb hg, e⟩
theorem VRL.ren {π' : Pi} {r : Nat → Option Nat} (hr : ∀ b b' g, r b = some b' → π b = some g → π' b' = some g) : ∀ {l : List V} {m : List Value}, VRL w0 π l m → VRL w0 π' (V.rens r l) m
  | [], [], _ => by simp [VRL, V.rens]
  | x :: l, v :: m, hv => by simp only [VRL, V.rens] at hv ⊢; exact ⟨VR.ren hr hv.1, VRL.ren hr hv.2⟩
  | [], _ :: _, hv => by simp [VRL] at hv
  | _ :: _, [], hv => by simp [VRL] at hv
end
theorem rens_get (r : Nat → Option Nat) : ∀ (l : List V) (i : Nat), (V.rens r l).getD i .any = V.ren r (l.getD i .any)
  | [], i => by simp [V.rens, V.ren]
  | x :: l, 0 => by simp [V.rens]
  | x :: l, i + 1 => by simpa [V.rens] using rens_get r l i
theorem rens_length (r : Nat → Option Nat) : ∀ (l : List V), (V.rens r l).length = l.length
  | [] => rfl
  | x :: l => by simp [V.rens, rens_length r l]
theorem maskT_length (m : Nat) : ∀ (i : Nat) (l : List V), (maskT m i l).length = l.length
  | i, [] => rfl
  | i, x :: l => by simp [maskT, maskT_length m]
theorem maskT_get (m : Nat) : ∀ (i : Nat) (l : List V) (j : Nat), (maskT m i l).getD j .any = .any ∨ (maskT m i l).getD j .any = l.getD j .any
  | i, [], j => by simp [maskT]
  | i, x :: l, 0 => by simp only [maskT]; split <;> simp
  | i, x :: l, j + 1 => by simpa [maskT] using maskT_get m (i + 1) l j
theorem BR.ren {π' : Pi} {r : Nat → Option Nat} {g : Nat} {blk : Blk} (hr : ∀ b b' g, r b = some b' → π b = some g → π' b' = some g) (hb : BR w0 π w g blk) : BR w0 π' w g (blk.ren r) := by
  cases blk with
  | cells t c =>
    simp only [BR, Blk.ren] at hb ⊢
    obtain ⟨cs, h1, h2⟩ := hb
    exact ⟨cs, h1, VRL.ren hr h2⟩
  | free => exact hb
  | dead => trivial
  | row => exact hb
  | map => exact hb
theorem nodupB_iff : ∀ {l : List Nat}, nodupB l = true → l.Nodup
  | [], _ => .nil
  | x :: l, h => by
    simp only [nodupB, Bool.and_eq_true, Bool.not_eq_true', List.contains_eq_mem, decide_eq_false_iff_not] at h
    exact List.nodup_cons.2 ⟨h.1, nodupB_iff h.2⟩
theorem headF_sound {m n0 : Nat} {s s1 : S} {a : Go.Act} (hs : SR w0 w1 π s a w) (hh : headF m n0 s = some s1) : ∃ π', Pi.leN n0 π π' ∧ SR w0 w1 π' s1 a w := by
  unfold headF at hh
  simp only at hh
  generalize hids : reach s.h n0 1000 (V.refsL (maskT m 0 s.t) ++ (s.h.take n0).flatMap Blk.refs) [] = ids at hh
  split at hh
  · rename_i hc
    simp only [Bool.and_eq_true, List.all_eq_true, decide_eq_true_eq] at hc
    obtain ⟨⟨hnd, hlive0⟩, hn⟩ := hc
    have hnd := nodupB_iff hnd
    have hlive := fun b hb => (hlive0 b hb).1
    have hbig := fun b hb => (hlive0 b hb).2
    cases hh
    let π' : Pi := fun b => if b < n0 then π b else (ids[b - n0]?).bind π
    have hr : ∀ b b' g, renI n0 ids b = some b' → π b = some g → π' b' = some g := by
      intro b b' g hb hg
      unfold renI at hb
      split at hb
      · rename_i hlt; cases hb
        show (if b < n0 then π b else _) = _
        rw [if_pos hlt]; exact hg
      · cases hi : ids.idxOf? b with
        | none => simp [hi] at hb
        | some i =>
          simp only [hi, Option.map_some, Option.some.injEq] at hb
          subst hb
          show (if n0 + i < n0 then _ else (ids[n0 + i - n0]?).bind π) = _
          rw [if_neg (by omega), Nat.add_sub_cancel_left]
          have : ids[i]? = some b := by
            have := List.findIdx?_eq_some_iff_getElem.1 hi
            obtain ⟨hlt, h1, _⟩ := this
            rw [List.getElem?_eq_getElem hlt]
            simpa using h1
          rw [this]; exact hg
    have hliveg : ∀ b ∈ ids, ∃ blk g, s.h[b]? = some blk ∧ blk ≠ .free ∧ π b = some g := by
      intro b hb
      have := hlive b hb
      unfold liveBlk at this
      split at this
      · cases this
      · cases this
      · rename_i h1 h2
        cases hx : s.h[b]? with
        | none => exact absurd hx h2
        | some blk =>
          have hne : blk ≠ .free := by intro e; subst e; exact h1 hx
          obtain ⟨g, hg, _⟩ := hs.hp.live b blk hx hne
          exact ⟨blk, g, rfl, hne, hg⟩
    have hlen : ((s.h.take n0).map (Blk.ren (renI n0 ids))).length = n0 := by simp; omega
    have hget : ∀ b, (((s.h.take n0).map (Blk.ren (renI n0 ids))) ++ ids.map fun b => (s.h.getD b .dead).ren (renI n0 ids))[b]? =
        if b < n0 then (s.h[b]?).map (Blk.ren (renI n0 ids)) else (ids[b - n0]?).map fun b => (s.h.getD b .dead).ren (renI n0 ids) := by
      intro b
      split
      · rename_i hlt
        rw [List.getElem?_append_left (by rw [hlen]; exact hlt), List.getElem?_map, List.getElem?_take, if_pos hlt]
      · rename_i hge
        rw [List.getElem?_append_right (by rw [hlen]; omega), hlen, List.getElem?_map]
    have hrenfree : ∀ blk : Blk, blk.ren (renI n0 ids) = .free ↔ blk = .free := by intro blk; cases blk <;> simp [Blk.ren]
    refine ⟨π', fun b g hb hg => ?_, ⟨?_, fun u => ?_, fun u g b v hu => by simp at hu, hs.df, ⟨hs.hp.base, hs.hp.below, fun b hb => ?_, fun b blk hb hne => ?_, fun b b' g hg hg' => ?_⟩⟩⟩
    · show (if b < n0 then π b else _) = _
      rw [if_pos hb]; exact hg
    · simp only [rens_length, maskT_length]; exact hs.len
    · simp only
      rw [rens_get]
      refine VR.ren hr ?_
      rcases maskT_get m 0 s.t u with e | e
      · rw [e]; simp [VR]
      · rw [e]; exact hs.tm u
    · simp only at hb
      rw [hget] at hb
      show (if b < n0 then π b else (ids[b - n0]?).bind π) = none
      split
      · rename_i hlt
        rw [if_pos hlt] at hb
        refine hs.hp.free b ?_
        cases hx : s.h[b]? with
        | none => exact .inl rfl
        | some blk =>
          rw [hx] at hb
          rcases hb with hb | hb
          · cases hb
          · simp only [Option.map_some, Option.some.injEq] at hb
            exact .inr (by rw [(hrenfree blk).1 hb])
      · rename_i hge
        rw [if_neg hge] at hb
        cases hx : ids[b - n0]? with
        | none => rfl
        | some b0 =>
          rw [hx] at hb
          obtain ⟨blk, g, h1, h2, _⟩ := hliveg b0 (List.mem_of_getElem? hx)
          rcases hb with hb | hb
          · cases hb
          · simp only [Option.map_some, Option.some.injEq] at hb
            have : s.h.getD b0 .dead = blk := by simp [List.getD_eq_getElem?_getD, h1]
            rw [this] at hb
            exact absurd ((hrenfree blk).1 hb) h2
    · simp only at hb
      rw [hget] at hb
      split at hb
      · rename_i hlt
        cases hx : s.h[b]? with
        | none => simp [hx] at hb
        | some blk0 =>
          simp only [hx, Option.map_some, Option.some.injEq] at hb
          subst hb
          obtain ⟨g, h1, h2, h3, h4⟩ := hs.hp.live b blk0 hx (by intro e; exact hne ((hrenfree blk0).2 e))
          refine ⟨g, ?_, h2, h3, BR.ren hr h4⟩
          show (if b < n0 then π b else _) = _
          rw [if_pos hlt]; exact h1
      · rename_i hge
        cases hx : ids[b - n0]? with
        | none => simp [hx] at hb
        | some b0 =>
          simp only [hx, Option.map_some, Option.some.injEq] at hb
          obtain ⟨blk0, _, h1, h2, _⟩ := hliveg b0 (List.mem_of_getElem? hx)
          have : s.h.getD b0 .dead = blk0 := by simp [List.getD_eq_getElem?_getD, h1]
          rw [this] at hb
          subst hb
          obtain ⟨g, h3, h4, h5, h6⟩ := hs.hp.live b0 blk0 h1 h2
          refine ⟨g, ?_, h4, h5, BR.ren hr h6⟩
          show (if b < n0 then π b else (ids[b - n0]?).bind π) = _
          rw [if_neg hge, hx]; exact h3
    · have e1 : (if b < n0 then π b else (ids[b - n0]?).bind π) = some g := hg
      have e2 : (if b' < n0 then π b' else (ids[b' - n0]?).bind π) = some g := hg'
      split at e1 <;> split at e2
      · exact hs.hp.inj _ _ _ e1 e2
      · rename_i h1 h2
        cases hx : ids[b' - n0]? with
        | none => simp [hx] at e2
        | some x =>
          simp only [hx, Option.bind_some] at e2
          have := hs.hp.inj _ _ _ e1 e2
          have := hbig x (List.mem_of_getElem? hx)
          omega
      · rename_i h1 h2
        cases hx : ids[b - n0]? with
        | none => simp [hx] at e1
        | some x =>
          simp only [hx, Option.bind_some] at e1
          have := hs.hp.inj _ _ _ e1 e2
          have := hbig x (List.mem_of_getElem? hx)
          omega
      · rename_i h1 h2
        cases hx : ids[b - n0]? with
        | none => simp [hx] at e1
        | some x => cases hy : ids[b' - n0]? with
          | none => simp [hy] at e2
          | some y =>
            simp only [hx, hy, Option.bind_some] at e1 e2
            have hxy := hs.hp.inj _ _ _ e1 e2
            subst hxy
            obtain ⟨l1, h3⟩ := List.getElem?_eq_some_iff.1 hx
            obtain ⟨l2, h4⟩ := List.getElem?_eq_some_iff.1 hy
            have hp := List.pairwise_iff_getElem.1 hnd
            rcases Nat.lt_trichotomy (b - n0) (b' - n0) with hlt | heq | hgt
            · exact absurd (h3.trans h4.symm) (hp _ _ l1 l2 hlt)
            · omega
            · exact absurd (h4.trans h3.symm) (hp _ _ l2 l1 hgt)
  · cases hh

/-! ### code -/
theorem loop_sound {R : Type} {n0 : Nat} {c : Code} {bodyK : S → (Ex → S → Option R) → Option R} {m : Nat} {r : R}
    (hb : ∀ s k, bodyK s k = some r → ∃ e s', k e s' = some r ∧ CodeTo C n0 c s e s') :
    ∀ (n : Nat) (s : S) (k : Ex → S → Option R), loopK bodyK (headF m n0) n s k = some r → ∃ e s' N, k e s' = some r ∧
      ∀ (w0 w1 : World) (π : Pi) (a : Go.Act) (w : World) (Q : Exit → Go.Act → World → Prop), SR w0 w1 π s a w → (∀ π' a' w', Pi.leN n0 π π' → SR w0 w1 π' s' a' w' → Q e.conv a' w') → Code.rounds C.P c Q N a w
  | 0, s, k, h => by simp [loopK] at h
  | n + 1, s, k, h => by
    simp only [loopK] at h
    split at h
    · cases h
    · rename_i s1 hs1
      obtain ⟨e, s2, h1, h2⟩ := hb _ _ h
      cases e with
      | normal =>
        obtain ⟨e', s', N, h3, h4⟩ := loop_sound hb n s2 k h1
        refine ⟨e', s', N + 1, h3, fun w0 w1 π a w Q hs hq => ?_⟩
        obtain ⟨π1, hle1, hs1'⟩ := headF_sound hs hs1
        exact h2 w0 w1 π1 a w _ hs1' fun π2 a2 w2 hle2 hs2 => h4 w0 w1 π2 a2 w2 Q hs2 fun π3 a3 w3 hle3 hs3 => hq π3 a3 w3 (Pi.leN_trans hle1 (Pi.leN_trans hle2 hle3)) hs3
      | exit id =>
        refine ⟨_, s2, 1, h1, fun w0 w1 π a w Q hs hq => ?_⟩
        obtain ⟨π1, hle1, hs1'⟩ := headF_sound hs hs1
        exact h2 w0 w1 π1 a w _ hs1' fun π2 a2 w2 hle2 hs2 => hq π2 a2 w2 (Pi.leN_trans hle1 hle2) hs2
      | ret =>
        refine ⟨_, s2, 1, h1, fun w0 w1 π a w Q hs hq => ?_⟩
        obtain ⟨π1, hle1, hs1'⟩ := headF_sound hs hs1
        exact h2 w0 w1 π1 a w _ hs1' fun π2 a2 w2 hle2 hs2 => hq π2 a2 w2 (Pi.leN_trans hle1 hle2) hs2

theorem exec_sound (hC : CfgOk C) {R : Type} {fl n0 rl : Nat} {rec : Rec R} (hrec : RecOk C.P rec) {r : R} : ∀ (c : Code) (ex : List (Nat × Nat)) (m : Nat) (s : S) (k : Ex → S → Option R), exec C fl n0 rec rl c ex m s k = some r →
    ∃ e s', k e s' = some r ∧ CodeTo C n0 c s e s'
  | .skip, ex, m, s, k, h => ⟨.normal, s, h, fun w0 w1 π a w Q hs hq => wp_skip (hq π a w (fun _ _ _ h => h) hs)⟩
  | .region id ops draw, ex, m, s, k, h => by
    simp only [exec] at h
    split at h
    · cases h
    · rename_i he
      obtain ⟨s', h1, h2⟩ := region_sound (n0 := n0) (id := id) hC hrec (by intro u; split <;> simp [List.getD_eq_getElem?_getD, List.getElem?_replicate]; split <;> rfl) (by simpa using he) h
      exact ⟨.normal, s', h1, h2⟩
  | .seq a b, ex, m, s, k, h => by
    simp only [exec] at h
    obtain ⟨e, s1, h1, h2⟩ := exec_sound hC hrec a _ _ _ _ h
    cases e with
    | normal =>
      obtain ⟨e', s', h3, h4⟩ := exec_sound hC hrec b _ _ _ _ h1
      refine ⟨e', s', h3, fun w0 w1 π ac w Q hs hq => wp_seq ?_⟩
      exact h2 w0 w1 π ac w _ hs fun π1 a1 w1' hle1 hs1 => h4 w0 w1 π1 a1 w1' Q hs1 fun π2 a2 w2 hle2 hs2 => hq π2 a2 w2 (Pi.leN_trans hle1 hle2) hs2
    | exit id => exact ⟨_, s1, h1, fun w0 w1 π ac w Q hs hq => wp_seq (h2 w0 w1 π ac w _ hs fun π1 a1 w1' hle1 hs1 => hq π1 a1 w1' hle1 hs1)⟩
    | ret => exact ⟨_, s1, h1, fun w0 w1 π ac w Q hs hq => wp_seq (h2 w0 w1 π ac w _ hs fun π1 a1 w1' hle1 hs1 => hq π1 a1 w1' hle1 hs1)⟩
  | .cond c x y, ex, m, s, k, h => by
    simp only [exec] at h
    split at h
    · rename_i b hb
      have hc : ∀ {w0 w1 : World} {π : Pi} {a : Go.Act} {w : World}, SR w0 w1 π s a w → a.eval c = .bool b := by
        intro w0 w1 π a w hs
        have := rd_sound hs (gs := []) (by intro g b hm; cases hm) c
        rw [hb] at this
        simpa [VR] using this
      rcases br_some h with ⟨rfl, h⟩ | ⟨rfl, h⟩
      · obtain ⟨e, s', h1, h2⟩ := exec_sound hC hrec x _ _ _ _ h
        exact ⟨e, s', h1, fun w0 w1 π a w Q hs hq => wp_cond_true (hc hs) (h2 w0 w1 π a w Q hs hq)⟩
      · obtain ⟨e, s', h1, h2⟩ := exec_sound hC hrec y _ _ _ _ h
        exact ⟨e, s', h1, fun w0 w1 π a w Q hs hq => wp_cond_false (hc hs) (h2 w0 w1 π a w Q hs hq)⟩
    · cases h
  | .block id body, ex, m, s, k, h => by
    simp only [exec] at h
    obtain ⟨e, s1, h1, h2⟩ := exec_sound hC hrec body _ _ _ _ h
    cases e with
    | normal => exact ⟨_, s1, h1, fun w0 w1 π ac w Q hs hq => wp_block (h2 w0 w1 π ac w _ hs fun π1 a1 w1' hle1 hs1 => hq π1 a1 w1' hle1 hs1)⟩
    | exit id' =>
      simp only at h1
      split at h1
      · rename_i hid
        have hid : id' = id := by simpa using hid
        refine ⟨_, s1, h1, fun w0 w1 π ac w Q hs hq => wp_block (h2 w0 w1 π ac w _ hs fun π1 a1 w1' hle1 hs1 => ?_)⟩
        simp only [Ex.conv, Exit.inBlock, hid, if_true]
        exact hq π1 a1 w1' hle1 hs1
      · rename_i hid
        have hid : id' ≠ id := by simpa using hid
        refine ⟨_, s1, h1, fun w0 w1 π ac w Q hs hq => wp_block (h2 w0 w1 π ac w _ hs fun π1 a1 w1' hle1 hs1 => ?_)⟩
        simp only [Ex.conv, Exit.inBlock, hid, if_false]
        exact hq π1 a1 w1' hle1 hs1
    | ret => exact ⟨_, s1, h1, fun w0 w1 π ac w Q hs hq => wp_block (h2 w0 w1 π ac w _ hs fun π1 a1 w1' hle1 hs1 => hq π1 a1 w1' hle1 hs1)⟩
  | .loop body, ex, m, s, k, h => by
    simp only [exec] at h
    obtain ⟨e, s', N, h1, h2⟩ := loop_sound (c := body) (fun s k h => exec_sound hC hrec body _ _ _ _ h) _ _ _ h
    exact ⟨e, s', h1, fun w0 w1 π a w Q hs hq => wp_loop_rounds N (h2 w0 w1 π a w Q hs hq)⟩
  | .exit id, ex, m, s, k, h => ⟨.exit id, s, by simpa only [exec] using h, fun w0 w1 π a w Q hs hq => wp_exit (hq π a w (fun _ _ _ h => h) hs)⟩
  | .ret, ex, m, s, k, h => ⟨.ret, s, by simpa only [exec] using h, fun w0 w1 π a w Q hs hq => wp_ret (hq π a w (fun _ _ _ h => h) hs)⟩
  | .rangeFunc .., ex, m, s, k, h => by simp [exec] at h
  | .scope _, ex, m, s, k, h => by simp [exec] at h
  | .label _, ex, m, s, k, h => by simp [exec] at h
  | .goto _, ex, m, s, k, h => by simp [exec] at h
  | .refuse _, ex, m, s, k, h => by simp [exec] at h

/-! ### functions -/
def resM (tmps : Array Value) : ResultVar → Sem Value
  | .tmp t => pure (tmps.getD t undef)
  | .cell p t => do loadVar t (← asAddr (tmps.getD p undef))
theorem res_sound {s : S} {a : Go.Act} (hs : SR w0 w1 π s a w) : ∀ {l : List ResultVar} {vs : List V}, resAll C.P s l = some vs →
    ∃ cs : List Value, (l.mapM (resM a.tmps)).run C.P w = .ok cs w ∧ VRL w0 π vs cs
  | [], vs, h => by simp [resAll] at h; subst h; exact ⟨[], by simp, by simp [VRL]⟩
  | r :: l, vs, h => by
    simp only [resAll] at h
    cases h1 : resOne C.P s r with
    | none => simp [h1] at h
    | some v =>
      simp only [h1, Option.bind_some] at h
      cases h2 : resAll C.P s l with
      | none => simp [h2] at h
      | some vs' =>
        simp only [h2, Option.map_some, Option.some.injEq] at h
        subst h
        obtain ⟨cs, h3, h4⟩ := res_sound hs h2
        cases r with
        | tmp t =>
          simp only [resOne, Option.some.injEq] at h1
          subst h1
          exact ⟨a.tmps.getD t undef :: cs, by simp only [List.mapM_cons, Sem.run_bind, resM, h3, Result.andThen_ok, Sem.run_pure], by simp only [VRL]; exact ⟨hs.tm t, h4⟩⟩
        | cell p t =>
          simp only [resOne] at h1
          split at h1
          · rename_i v' hv
            simp only [Option.some.injEq] at h1
            subst h1
            obtain ⟨_, cv, h5, h6⟩ := load_sound (P := C.P) (slot := 0) (u := .no) (v := v') hs.hp (hs.tm p) (by rw [hv]; exact ⟨rfl, rfl⟩)
            refine ⟨cv :: cs, ?_, by simp only [VRL]; exact ⟨h6, h4⟩⟩
            have h7 : (do loadVar t (← asAddr (a.tmps.getD p undef)) : Sem Value).run C.P w = .ok cv w := by
              simp only [Instr.loadAt, Sem.run_bind] at h5 ⊢
              revert h5
              cases a.tmps.getD p undef <;> simp [Instr.sureAddr, asAddr]
              rename_i ad
              cases ad <;> simp
            have h7' : (resM a.tmps (.cell p t)).run C.P w = .ok cv w := h7
            simp only [List.mapM_cons, Sem.run_bind, h7', h3, Result.andThen_ok, Sem.run_pure]
          · cases h1

theorem results_sound {s : S} {a : Go.Act} {fn : Func} {v : V} (hs : SR w0 w1 π s a w) (h : results C.P fn s = some v) : ∃ c, (Go.results fn a.tmps).run C.P w = .ok c w ∧ VR w0 π v c := by
  unfold results at h
  cases h1 : resAll C.P s fn.results.toList with
  | none => simp [h1] at h
  | some vs =>
    simp only [h1, Option.map_some, Option.some.injEq] at h
    obtain ⟨cs, h2, h3⟩ := res_sound hs h1
    have h4 : (Go.results fn a.tmps).run C.P w = .ok (if h : cs.toArray.size = 1 then cs.toArray[0] else .tuple cs.toArray) w := by
      have : Go.results fn a.tmps = (do let vs ← fn.results.mapM (resM a.tmps); pure (if h : vs.size = 1 then vs[0] else .tuple vs)) := by
        unfold Go.results
        congr 2
      rw [this]
      simp only [Array.mapM_eq_mapM_toList, Sem.run_bind, Sem.run_map, h2, Result.andThen_ok, Sem.run_pure]
    refine ⟨_, h4, ?_⟩
    have hl := VRL.length h3
    split at h
    · rename_i v'
      obtain ⟨c, m, rfl, h5, h6⟩ := VRL.cons h3
      have := VRL.nil h6; subst this
      subst h
      simpa using h5
    · rename_i hne
      subst h
      rw [dif_neg]
      · simp only [VR]; exact ⟨_, rfl, h3⟩
      · intro e
        simp at e
        match vs, hl with
        | [x], _ => exact hne x rfl
        | [], hl => simp at hl; omega
        | _ :: _ :: _, hl => simp at hl; omega

theorem execFn_sound (hC : CfgOk C) {R : Type} {fl : Nat} {rec : Rec R} (hrec : RecOk C.P rec) : RecOk C.P (execFn C fl rec) := by
  intro g args h k r he
  unfold execFn at he
  split at he
  · cases he
  · rename_i fn hfn
    split at he
    · cases he
    · rename_i c hc
      obtain ⟨e, s', h1, h2⟩ := exec_sound hC hrec c _ _ _ _ he
      have h1' : e ≠ .exit 0 ∧ ∃ v, results C.P fn s' = some v ∧ k v s'.h = some r ∧ ∀ id, e ≠ .exit id := by
        cases e with
        | exit id => cases h1
        | normal =>
          simp only at h1
          split at h1
          · rename_i v hv; exact ⟨by simp, v, hv, h1, by simp⟩
          · cases h1
        | ret =>
          simp only at h1
          split at h1
          · rename_i v hv; exact ⟨by simp, v, hv, h1, by simp⟩
          · cases h1
      obtain ⟨_, v, hv, hk, hne⟩ := h1'
      refine ⟨v, s'.h, hk, ?_⟩
      intro w0 w1 w π cargs hr ha
      have hlen := VRL.length ha
      simp only [Array.length_toList] at hlen
      refine calls_of_wp hfn hc (h2 w0 w1 π _ w _ ⟨?_, ?_, fun u g b v hu => by simp at hu, rfl, hr⟩ ?_)
      · simp [hlen]
      · intro u
        simp only [List.getD_eq_getElem?_getD, Array.getD_eq_getD_getElem?]
        rcases Nat.lt_or_ge u args.length with hl | hl
        · rw [List.getElem?_append_left hl, Array.getElem?_append_left (by omega)]
          obtain ⟨c', hc', hv'⟩ := VRL.get ha (List.getElem?_eq_getElem hl)
          rw [List.getElem?_eq_getElem hl]
          simp only [Option.getD_some]
          rw [show cargs[u]? = some c' by simpa using hc']
          exact hv'
        · rw [List.getElem?_append_right hl, Array.getElem?_append_right (by omega), List.getElem?_replicate, Array.getElem?_replicate, hlen]
          split
          · simp only [Option.getD_some, VR]; exact ⟨_, rfl, by simp [VRL]⟩
          · simp [VR]
      · intro π' a' w' hle hs'
        obtain ⟨cv, h5, h6⟩ := results_sound hs' hv
        have hdom : π.le π' := by
          intro b g hg
          refine hle b g ?_ hg
          rcases Nat.lt_or_ge b h.length with hl | hl
          · exact hl
          · rw [hr.free b (.inl (List.getElem?_eq_none hl))] at hg; cases hg
        cases e with
        | exit id => exact absurd rfl (hne id)
        | normal => exact ⟨hs'.df, cv, h5, cv, π', rfl, hdom, hs'.hp, h6⟩
        | ret => exact ⟨hs'.df, cv, h5, cv, π', rfl, hdom, hs'.hp, h6⟩

theorem call_ok (hC : CfgOk C) {R : Type} (fl : Nat) : ∀ d, RecOk C.P (call (R := R) C fl d)
  | 0 => by intro g args h k r he; cases he
  | d + 1 => execFn_sound hC (call_ok hC fl d)
end
end Go.Eng
