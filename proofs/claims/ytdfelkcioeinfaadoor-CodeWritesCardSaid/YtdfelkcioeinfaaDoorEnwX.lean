/- The engine, part X: code, functions, calls. -/
import Derived.Test.YtdfelkcioeinfaaDoorEnwW
set_option linter.unusedVariables false
set_option linter.unusedSimpArgs false
namespace Go.Eng
open Go Go.RowKit

def Ex.conv : Ex → Exit
  | .normal => .normal
  | .exit id => .exit id
  | .ret => .ret
def Pi.leN (n0 : Nat) (π π' : Pi) : Prop := ∀ b A, b < n0 → π b = some A → π' b = some A
theorem Pi.leN_of {n0 : Nat} {π π' : Pi} (h : π.le π') : Pi.leN n0 π π' := fun b g _ hg => h b g hg
theorem Pi.leN_trans {n0 : Nat} {π π' π'' : Pi} (h : Pi.leN n0 π π') (h' : Pi.leN n0 π' π'') : Pi.leN n0 π π'' := fun b g hb hg => h' b g hb (h b g hb hg)

/-- What code comes to. -/
def CodeTo (C : Cfg) (n0 : Nat) (c : Code) (s : S) (e : Ex) (s' : S) : Prop :=
  ∀ (Φ : Fr) (w1 : World) (π : Pi) (a : Go.Act) (w : World) (Q : Exit → Go.Act → World → Prop), SR Φ w1 π s a w → (∀ Φ' π' a' w', Fr.ext w1.heap.size Φ Φ' → Pi.leN n0 π π' → SR Φ' w1 π' s' a' w' → Q e.conv a' w') → c.wp C.P Q a w

section
variable {Φ : Fr} {w1 w : World} {π : Pi} {C : Cfg}

theorem more_get {h : List Blk} {n b : Nat} {blk : Blk} (hb : (h ++ List.replicate n .free)[b]? = some blk) (hne : blk ≠ .free) : h[b]? = some blk := by
  rcases Nat.lt_or_ge b h.length with hl | hl
  · rw [List.getElem?_append_left hl] at hb; exact hb
  · rw [List.getElem?_append_right hl, List.getElem?_replicate] at hb
    split at hb
    · cases hb; exact absurd rfl hne
    · cases hb
theorem HR.more {h : List Blk} (hr : HR Φ w1 π h w) (n : Nat) : HR Φ w1 π (h ++ List.replicate n .free) w := by
  refine ⟨hr.fz, hr.below, hr.base, fun b hb => ?_, fun b blk hb hne => hr.live b blk (more_get hb hne) hne, fun b blk A hb ho hA => hr.own b blk A (more_get hb (by intro e; subst e; cases ho)) ho hA,
    fun b b' blk blk' A A' hb ho hb' ho' => hr.apart b b' blk blk' A A' (more_get hb (by intro e; subst e; cases ho)) ho (more_get hb' (by intro e; subst e; cases ho')) ho'⟩
  rcases Nat.lt_or_ge b h.length with hl | hl
  · rw [List.getElem?_append_left hl] at hb; exact hr.free b hb
  · exact hr.free b (.inl (List.getElem?_eq_none hl))
theorem SR.begin {s : S} {a : Go.Act} (hs : SR Φ w1 π s a w) (n : Nat) (o : List (Option (Nat × Bool × V))) (ho : ∀ u, o.getD u none = none) : SR Φ w1 π { s with h := s.h ++ List.replicate n .free, o := o } a w :=
  ⟨hs.len, hs.tm, fun u g b v hu => (by rw [ho u] at hu; cases hu), hs.df, hs.hp.more n⟩
theorem SR.ends {s : S} {a : Go.Act} (hs : SR Φ w1 π s a w) : SR Φ w1 π { s with o := [] } a w :=
  ⟨hs.len, hs.tm, fun u g b v hu => by simp at hu, hs.df, hs.hp⟩
theorem SR.drew {s : S} {a : Go.Act} {n : Nat} (hs : SR Φ w1 π s a w) : SR Φ w1 π s a { w with drawn := n } := ⟨hs.len, hs.tm, hs.op, hs.df, hs.hp.drew⟩

theorem items_o : ∀ (l : List Oper) (i slot : Nat) (it : It), it ∈ itemsOf C l i slot → ∃ j, it.i = i + j ∧ l[j]? = some it.o
  | [], i, slot, it, h => by simp [itemsOf] at h
  | o :: l, i, slot, it, h => by
    simp only [itemsOf, List.mem_cons] at h
    rcases h with rfl | h
    · exact ⟨0, rfl, rfl⟩
    · obtain ⟨j, h1, h2⟩ := items_o l _ _ it h
      exact ⟨j + 1, by omega, by simpa using h2⟩
theorem items_i : ∀ (l : List Oper) (i slot : Nat), (itemsOf C l i slot).map (·.i) = List.range' i l.length
  | [], i, slot => rfl
  | o :: l, i, slot => by simp only [itemsOf, List.map_cons, items_i l, List.length_cons, List.range'_succ]
theorem items_len : ∀ (l : List Oper) (i slot : Nat), (itemsOf C l i slot).length = l.length
  | [], i, slot => rfl
  | o :: l, i, slot => by simp [itemsOf, items_len l]

theorem region_sound (hC : CfgOk C) {R : Type} {rec : Rec R} (hrec : RecOk C.P rec) {n0 id : Nat} {ops : Array Oper} {draw : Bool} {s : S} {k : S → Option R} {r : R} {n : Nat} {o : List (Option (Nat × Bool × V))} (ho : ∀ u, o.getD u none = none)
    (he : (draw && !edgesOk ops.toList 0) = false) (h : opsK C rec ops draw (if draw then befsOf ops.toList [] else []) ops.toList 0 s.h.length [] { s with h := s.h ++ List.replicate n .free, o := o } k = some r) :
    ∃ s', k s' = some r ∧ CodeTo C n0 (.region id ops draw) s .normal s' := by
  cases draw with
  | false =>
    simp only [Bool.false_eq_true, if_false] at h
    obtain ⟨s', h1, h2⟩ := opsK_n hC hrec _ _ _ _ h
    refine ⟨_, h2, fun Φ w1 π a w Q hs hq => ?_⟩
    refine wp_region ?_
    rw [show List.range ops.size = List.range' 0 ops.toList.length by simp [List.range_eq_range']]
    refine wpOps_n hC ops.toList 0 _ _ Φ π a w (fun j o' hj => by simpa using hj) h1 (hs.begin n o ho) ?_
    exact fun Φ' π' a' w' hx hle hs' => hq Φ' π' a' w' hx (Pi.leN_of hle) hs'.ends
  | true =>
    simp only [if_true] at h
    obtain ⟨s', logs, h1, _, h3, h4⟩ := opsK_d hC hrec _ _ _ _ _ h
    refine ⟨_, h4, fun Φ w1 π a w Q hs hq => ?_⟩
    refine wp_region_any hC.mixed ?_
    have hedge : edgesOk ops.toList 0 = true := by simpa using he
    refine any_sound hC (befs_ok ops) (edges_ok hedge) ops.size _ logs _ _ Φ π a _ (by rw [items_len]; simp) h1 h3 ?_ ?_ (by simp) ?_ ?_ (hs.drew.begin n o ho) ?_
    · intro it hit
      obtain ⟨j, h5, h6⟩ := items_o _ _ _ it hit
      rw [h5, Nat.zero_add]
      simpa using h6
    · rw [items_i]; exact List.pairwise_lt_range' 1
    · intro j hj
      rw [items_i]
      simp [List.mem_range'_1, hj]
    · intro j e hj hlj
      simp [Array.getD_eq_getD_getElem?, hj] at hlj
    · exact fun Φ' π' a' w' hx hle hs' => hq Φ' π' a' w' hx (Pi.leN_of hle) hs'.ends

/-! ### blocks numbered anew -/
def RenOk (π π' : Pi) (r : Nat → Option Nat) : Prop := ∀ b b' A, r b = some b' → π b = some A → ∃ A', π' b' = some A' ∧ A.like A'
mutual
theorem VR.ren {π' : Pi} {r : Nat → Option Nat} (hr : RenOk π π' r) : ∀ {x : V} {c : Value}, VR Φ π x c → VR Φ π' (V.ren r x) c
  | .any, _, _ => by simp [VR, V.ren]
  | .bool b, v, hv => by simpa [VR, V.ren] using hv
  | .int k m, v, hv => by simpa [VR, V.ren] using hv
  | .str s, v, hv => by simpa [VR, V.ren] using hv
  | .ptr b off, v, hv => by
    simp only [VR, V.ren] at hv ⊢
    obtain ⟨A, hA, e⟩ := hv
    cases hb : r b with
    | none => simp [VR]
    | some b' => obtain ⟨A', h1, h2⟩ := hr _ _ _ hb hA; simp only [VR]; exact ⟨A', h1, by rw [h2.g, h2.o]; exact e⟩
  | .parr b n sz, v, hv => by
    simp only [VR, V.ren] at hv ⊢
    obtain ⟨A, hA, e⟩ := hv
    cases hb : r b with
    | none => simp [VR]
    | some b' => obtain ⟨A', h1, h2⟩ := hr _ _ _ hb hA; simp only [VR]; exact ⟨A', h1, by rw [h2.g, h2.o, h2.n, h2.len, h2.sz]; exact e⟩
  | .cptr ss ps off, v, hv => by
    simp only [VR, V.ren] at hv ⊢
    obtain ⟨g, o, e, hp⟩ := hv
    exact ⟨g, o, e, VRL.ren hr hp⟩
  | .elp b i off, v, hv => by
    simp only [VR, V.ren] at hv ⊢
    obtain ⟨A, hA, e⟩ := hv
    cases hb : r b with
    | none => simp [VR]
    | some b' => obtain ⟨A', h1, h2⟩ := hr _ _ _ hb hA; simp only [VR]; exact ⟨A', h1, by rw [h2.g, h2.o, h2.len, h2.sz]; exact e⟩
  | .elr b i, v, hv => by
    simp only [VR, V.ren] at hv ⊢
    obtain ⟨A, hA, e⟩ := hv
    cases hb : r b with
    | none => simp [VR]
    | some b' => obtain ⟨A', h1, h2⟩ := hr _ _ _ hb hA; simp only [VR]; exact ⟨A', h1, by rw [h2.g, h2.o, h2.len, h2.sz]; exact e⟩
  | .el2 b i j off, v, hv => by simp [VR, V.ren]
  | .nilp, v, hv => by simpa [VR, V.ren] using hv
  | .ro w t l, v, hv => by simpa only [VR, V.ren] using hv
  | .rop w t x off, v, hv => by simpa only [VR, V.ren] using hv
  | .sl b sz n, v, hv => by
    simp only [VR, V.ren] at hv ⊢
    obtain ⟨A, a, cap, hA, e⟩ := hv
    cases hb : r b with
    | none => simp [VR]
    | some b' => obtain ⟨A', h1, h2⟩ := hr _ _ _ hb hA; simp only [VR]; exact ⟨A', a, cap, h1, by rw [h2.g, h2.o, h2.n, h2.len, h2.sz]; exact e⟩
  | .sv b sz i n, v, hv => by
    simp only [VR, V.ren] at hv ⊢
    obtain ⟨A, a, cap, hA, e⟩ := hv
    cases hb : r b with
    | none => simp [VR]
    | some b' => obtain ⟨A', h1, h2⟩ := hr _ _ _ hb hA; simp only [VR]; exact ⟨A', a, cap, h1, by rw [h2.g, h2.o, h2.n, h2.len, h2.sz]; exact e⟩
  | .sl2 b sz i o n, v, hv => by simp [VR, V.ren]
  | .csl b off sz n, v, hv => by
    simp only [VR, V.ren] at hv ⊢
    obtain ⟨A, cap, hA, e⟩ := hv
    cases hb : r b with
    | none => simp [VR]
    | some b' => obtain ⟨A', h1, h2⟩ := hr _ _ _ hb hA; simp only [VR]; exact ⟨A', cap, h1, by rw [h2.g, h2.o]; exact e⟩
  | .esl, v, hv => by simpa [VR, V.ren] using hv
  | .nsl, v, hv => by simpa [VR, V.ren] using hv
  | .fn f c, v, hv => by simp only [VR, V.ren] at hv ⊢; obtain ⟨cs, e, hc⟩ := hv; exact ⟨cs, e, VRL.ren hr hc⟩
  | .mexp t n, v, hv => by simpa [VR, V.ren] using hv
  | .nilf, v, hv => by simpa [VR, V.ren] using hv
  | .iface t x, v, hv => by simp only [VR, V.ren] at hv ⊢; obtain ⟨u, e, hc⟩ := hv; exact ⟨u, e, VR.ren hr hc⟩
  | .nili, v, hv => by simpa [VR, V.ren] using hv
  | .agg l, v, hv => by simp only [VR, V.ren] at hv ⊢; obtain ⟨cs, e, hc⟩ := hv; exact ⟨cs, e, VRL.ren hr hc⟩
  | .tup l, v, hv => by simp only [VR, V.ren] at hv ⊢; obtain ⟨cs, e, hc⟩ := hv; exact ⟨cs, e, VRL.ren hr hc⟩
  | .map b, v, hv => by
    simp only [VR, V.ren] at hv ⊢
    obtain ⟨A, hA, e⟩ := hv
    cases hb : r b with
    | none => simp [VR]
    | some b' => obtain ⟨A', h1, h2⟩ := hr _ _ _ hb hA; simp only [VR]; exact ⟨A', h1, by rw [h2.g]; exact e⟩
  | .hdl g t, v, hv => by simpa [VR, V.ren] using hv
theorem VRL.ren {π' : Pi} {r : Nat → Option Nat} (hr : RenOk π π' r) : ∀ {l : List V} {m : List Value}, VRL Φ π l m → VRL Φ π' (V.rens r l) m
  | [], [], _ => by simp [VRL, V.rens]
  | x :: l, v :: m, hv => by simp only [VRL, V.rens] at hv ⊢; exact ⟨VR.ren hr hv.1, VRL.ren hr hv.2⟩
  | [], _ :: _, hv => by simp [VRL] at hv
  | _ :: _, [], hv => by simp [VRL] at hv
end
theorem rens_get (r : Nat → Option Nat) : ∀ (l : List V) (i : Nat), (V.rens r l).getD i .any = V.ren r (l.getD i .any)
  | [], i => by simp [V.rens, V.ren]
  | x :: l, 0 => by simp [V.rens]
  | x :: l, i + 1 => by simpa [V.rens] using rens_get r l i
theorem rens_length (r : Nat → Option Nat) : ∀ (l : List V), (V.rens r l).length = l.length
  | [] => rfl
  | x :: l => by simp [V.rens, rens_length r l]
theorem maskT_length (m : Nat) : ∀ (i : Nat) (l : List V), (maskT m i l).length = l.length
  | i, [] => rfl
  | i, x :: l => by simp [maskT, maskT_length m]
theorem maskT_get (m : Nat) : ∀ (i : Nat) (l : List V) (j : Nat), (maskT m i l).getD j .any = .any ∨ (maskT m i l).getD j .any = l.getD j .any
  | i, [], j => by simp [maskT]
  | i, x :: l, 0 => by simp only [maskT]; split <;> simp
  | i, x :: l, j + 1 => by simpa [maskT] using maskT_get m (i + 1) l j
theorem renE_fst (r : Nat → Option Nat) : ∀ es : List (V × V), (renE r es).map (·.1) = V.rens r (es.map (·.1))
  | [] => rfl
  | (k, v) :: l => by simp [renE, V.rens, renE_fst r l]
theorem renE_snd (r : Nat → Option Nat) : ∀ es : List (V × V), (renE r es).map (·.2) = V.rens r (es.map (·.2))
  | [] => rfl
  | (k, v) :: l => by simp [renE, V.rens, renE_snd r l]
theorem BR.ren {π' : Pi} {r : Nat → Option Nat} {A : At} {blk : Blk} (hr : RenOk π π' r) (hb : BR Φ π w A blk) : BR Φ π' w A (blk.ren r) := by
  cases blk with
  | cells c =>
    simp only [BR, Blk.ren] at hb ⊢
    obtain ⟨h1, h2, cs, h3, h4⟩ := hb
    exact ⟨by rw [rens_length]; exact h1, h2, cs, VRL.ren hr h3, h4⟩
  | free => exact hb
  | dead => trivial
  | row => exact hb
  | rows => exact hb
  | map es =>
    simp only [BR, Blk.ren] at hb ⊢
    obtain ⟨h1, h2, h3, ents, clock, h4, h5, h6⟩ := hb
    exact ⟨h1, h2, h3, ents, clock, h4, by rw [renE_fst]; exact VRL.ren hr h5, by rw [renE_snd]; exact VRL.ren hr h6⟩
  | fwd b =>
    simp only [BR, Blk.ren] at hb ⊢
    obtain ⟨A', hA, h1, h2, h3, h4, h5⟩ := hb
    cases hx : r b with
    | none => trivial
    | some b' =>
      obtain ⟨A2, h6, h7⟩ := hr _ _ _ hx hA
      exact ⟨A2, h6, h7.g.trans h1, h7.o.trans h2, h7.n.trans h3, h7.len.trans h4, h7.sz.trans h5⟩
theorem ren_free {r : Nat → Option Nat} {blk : Blk} : blk.ren r = .free ↔ blk = .free := by
  cases blk <;> simp [Blk.ren]
  split <;> simp
theorem ren_owns {r : Nat → Option Nat} {blk : Blk} (h : (blk.ren r).owns = true) : blk.owns = true := by
  cases blk <;> first
    | rfl
    | (simp [Blk.ren, Blk.owns] at h; done)
    | skip
  simp only [Blk.ren] at h
  split at h <;> simp [Blk.owns] at h
theorem HR.renum {h h' : List Blk} (hr : HR Φ w1 π h w) (f r : Nat → Option Nat) (hinj : ∀ i j b, f i = some b → f j = some b → i = j)
    (hget : ∀ i, h'[i]? = (f i).bind fun b => (h[b]?).map (Blk.ren r)) (hren : RenOk π (fun i => (f i).bind π) r) : HR Φ w1 (fun i => (f i).bind π) h' w := by
  have hold : ∀ i blk, h'[i]? = some blk → ∃ b blk0, f i = some b ∧ h[b]? = some blk0 ∧ blk = blk0.ren r := by
    intro i blk hb
    rw [hget] at hb
    cases hf : f i with
    | none => simp [hf] at hb
    | some b =>
      simp only [hf, Option.bind_some] at hb
      cases hx : h[b]? with
      | none => simp [hx] at hb
      | some blk0 => simp only [hx, Option.map_some, Option.some.injEq] at hb; exact ⟨b, blk0, rfl, hx, hb.symm⟩
  refine ⟨hr.fz, hr.below, hr.base, fun i hi => ?_, fun i blk hb hne => ?_, fun i blk A hb ho hA => ?_, fun i j blk blk' A A' hb ho hb' ho' hne hA hA' => ?_⟩
  · rw [hget] at hi
    cases hf : f i with
    | none => rfl
    | some b =>
      simp only [hf, Option.bind_some] at hi ⊢
      refine hr.free b ?_
      cases hx : h[b]? with
      | none => exact .inl rfl
      | some blk =>
        rw [hx] at hi
        rcases hi with hi | hi
        · cases hi
        · simp only [Option.map_some, Option.some.injEq] at hi
          exact .inr (by rw [ren_free.1 hi])
  · obtain ⟨b, blk0, h1, h2, rfl⟩ := hold i blk hb
    obtain ⟨A, h3, h4⟩ := hr.live b blk0 h2 (fun e => hne (ren_free.2 e))
    exact ⟨A, by simp [h1, h3], BR.ren hren h4⟩
  · obtain ⟨b, blk0, h1, h2, rfl⟩ := hold i blk hb
    simp only [h1, Option.bind_some] at hA
    exact hr.own b blk0 A h2 (ren_owns ho) hA
  · obtain ⟨b, blk0, h1, h2, rfl⟩ := hold i blk hb
    obtain ⟨b', blk0', h1', h2', rfl⟩ := hold j blk' hb'
    simp only [h1, Option.bind_some] at hA
    simp only [h1', Option.bind_some] at hA'
    exact hr.apart b b' blk0 blk0' A A' h2 (ren_owns ho) h2' (ren_owns ho') (fun e => hne (hinj i j b h1 (e ▸ h1'))) hA hA'
theorem nodupB_iff : ∀ {l : List Nat}, nodupB l = true → l.Nodup
  | [], _ => .nil
  | x :: l, h => by
    simp only [nodupB, Bool.and_eq_true, Bool.not_eq_true', List.contains_eq_mem, decide_eq_false_iff_not] at h
    exact List.nodup_cons.2 ⟨h.1, nodupB_iff h.2⟩
theorem headF_sound {m n0 : Nat} {s s1 : S} {a : Go.Act} (hs : SR Φ w1 π s a w) (hh : headF m n0 s = some s1) : ∃ π', Pi.leN n0 π π' ∧ SR Φ w1 π' s1 a w := by
  unfold headF at hh
  simp only at hh
  generalize hids : reach s.h n0 1000 (V.refsL (maskT m 0 s.t) ++ (s.h.take n0).flatMap Blk.refs) [] = ids at hh
  split at hh
  · rename_i hc
    simp only [Bool.and_eq_true, List.all_eq_true, decide_eq_true_eq] at hc
    obtain ⟨⟨hnd, hlive0⟩, hn⟩ := hc
    have hnd := nodupB_iff hnd
    have hbig := fun b hb => (hlive0 b hb).2
    have hlt : ∀ b ∈ ids, b < s.h.length := by
      intro b hb
      have := (hlive0 b hb).1
      unfold liveBlk at this
      rcases Nat.lt_or_ge b s.h.length with h | h
      · exact h
      · rw [List.getElem?_eq_none h] at this; cases this
    cases hh
    let f : Nat → Option Nat := fun i => if i < n0 then some i else ids[i - n0]?
    have hf1 : ∀ i, i < n0 → f i = some i := fun i h => if_pos h
    have hf2 : ∀ i, ¬ i < n0 → f i = ids[i - n0]? := fun i h => if_neg h
    have hren : RenOk π (fun i => (f i).bind π) (renI s.h n0 ids) := by
      intro b b' A hb hA
      obtain ⟨A', h1, h2⟩ := resB_sound hs.hp 1000 b A hA
      unfold renI at hb
      split at hb
      · rename_i hl; cases hb
        exact ⟨A', by simp only [hf1 _ hl, Option.bind_some]; exact h1, h2⟩
      · cases hi : ids.idxOf? (resB s.h 1000 b) with
        | none => simp [hi] at hb
        | some i =>
          simp only [hi, Option.map_some, Option.some.injEq] at hb
          subst hb
          have : ids[i]? = some (resB s.h 1000 b) := by
            have := List.findIdx?_eq_some_iff_getElem.1 hi
            obtain ⟨hlt, h1, _⟩ := this
            rw [List.getElem?_eq_getElem hlt]
            simpa using h1
          exact ⟨A', by simp only [hf2 (n0 + i) (by omega), Nat.add_sub_cancel_left, this, Option.bind_some]; exact h1, h2⟩
    have hlen : ((s.h.take n0).map (Blk.ren (renI s.h n0 ids))).length = n0 := by simp; omega
    have hhr := HR.renum (h' := ((s.h.take n0).map (Blk.ren (renI s.h n0 ids))) ++ ids.map fun b => (s.h.getD b .dead).ren (renI s.h n0 ids)) hs.hp f (renI s.h n0 ids)
      (by
        intro i j b hi hj
        by_cases h1 : i < n0 <;> by_cases h2 : j < n0
        · rw [hf1 i h1] at hi; rw [hf1 j h2] at hj; cases hi; cases hj; rfl
        · rw [hf1 i h1] at hi; rw [hf2 j h2] at hj; cases hi
          have := hbig _ (List.mem_of_getElem? hj); omega
        · rw [hf2 i h1] at hi; rw [hf1 j h2] at hj; cases hj
          have := hbig _ (List.mem_of_getElem? hi); omega
        · rw [hf2 i h1] at hi; rw [hf2 j h2] at hj
          obtain ⟨l1, h3⟩ := List.getElem?_eq_some_iff.1 hi
          obtain ⟨l2, h4⟩ := List.getElem?_eq_some_iff.1 hj
          have hp := List.pairwise_iff_getElem.1 hnd
          rcases Nat.lt_trichotomy (i - n0) (j - n0) with hlt | heq | hgt
          · exact absurd (h3.trans h4.symm) (hp _ _ l1 l2 hlt)
          · omega
          · exact absurd (h4.trans h3.symm) (hp _ _ l2 l1 hgt))
      (by
        intro b
        by_cases hl : b < n0
        · rw [List.getElem?_append_left (by rw [hlen]; exact hl), List.getElem?_map, List.getElem?_take, if_pos hl, hf1 b hl]; rfl
        · rw [List.getElem?_append_right (by rw [hlen]; omega), hlen, List.getElem?_map, hf2 b hl]
          cases hx : ids[b - n0]? with
          | none => rfl
          | some b0 =>
            have := hlt b0 (List.mem_of_getElem? hx)
            simp [List.getD_eq_getElem?_getD, List.getElem?_eq_getElem this])
      hren
    refine ⟨_, fun b A hb hA => ?_, ⟨?_, fun u => ?_, fun u g b v hu => by simp at hu, hs.df, hhr⟩⟩
    · simp only [hf1 b hb, Option.bind_some]; exact hA
    · simp only [rens_length, maskT_length]; exact hs.len
    · simp only
      rw [rens_get]
      refine VR.ren hren ?_
      rcases maskT_get m 0 s.t u with e | e
      · rw [e]; simp [VR]
      · rw [e]; exact hs.tm u
  · cases hh

/-! ### hints: a nil slice as an own empty row -/
theorem HR.grow {h : List Blk} (hr : HR Φ w1 π h w) {T : Ty} (hT : 0 < T.size) (two : Bool) : ∃ π', π.le π' ∧ HR Φ w1 π' (h ++ [newBlk T two]) w ∧
    ∀ c, VR Φ π .esl c → VR Φ π' (newSl T two h.length) c := by
  let A : At := ⟨0, 0, 0, 0, if two then 1 else T.size, T.size, []⟩
  have hno : ∀ g off, ¬ A.has g off := by
    intro g off hh
    rcases hh with ⟨_, h1, h2⟩ | ⟨i, r, m, h1, _⟩
    · simp [A, At.main] at h2
    · simp [A] at h1
  let π' : Pi := fun i => if i = h.length then some A else π i
  have hpn : π h.length = none := hr.free _ (.inl (by simp))
  have hle : π.le π' := fun b B hB => by
    show (if b = h.length then _ else _) = _
    rw [if_neg (fun e => by rw [e, hpn] at hB; cases hB)]; exact hB
  have hat : π' h.length = some A := if_pos rfl
  have hold : ∀ i, i ≠ h.length → π' i = π i := fun i hi => if_neg hi
  have hBR : BR Φ π' w A (newBlk T two) := by
    cases two with
    | false =>
      simp only [newBlk, Bool.false_eq_true, if_false, BR]
      exact ⟨rfl, rfl, rfl, hT, (by simp), fun j hj => absurd hj (Nat.not_lt_zero j), fun i hi => absurd hi (Nat.not_lt_zero i)⟩
    | true =>
      simp only [newBlk, if_true, BR]
      refine ⟨rfl, rfl, rfl, hT, Nat.zero_le _, rfl, ⟨fun i r m e => by simp [A] at e, fun i j r q m k e => by simp [A] at e⟩, fun j hj => absurd hj (Nat.not_lt_zero j), fun i hi => absurd hi (Nat.not_lt_zero i)⟩
  have hg1 : ∀ i, i < h.length → (h ++ [newBlk T two])[i]? = h[i]? := fun i hi => List.getElem?_append_left hi
  refine ⟨π', hle, ?_, ?_⟩
  · refine hr.master (Turn.refl w fun _ _ => False) (fun _ _ e => e.elim) hr.fz (Fr.le_refl _) hle (fun i => i = h.length) (fun i hi => ⟨?_, hold i hi⟩) (fun i hi hh => ?_) (fun i blk hi hb _ => ?_) (fun i blk B hi hb _ hB => ?_)
      (fun i j _ _ _ _ hi hj hne => absurd (hi.trans hj.symm) hne) (fun i j _ _ B _ hi _ _ _ _ _ hB _ g off hh => ?_) (fun j blk B _ hb ho hB g off hh => ⟨fun e => e, (hr.own j blk B hb ho hB g off hh).2.2⟩)
    · rcases Nat.lt_or_ge i h.length with hl | hl
      · exact hg1 i hl
      · rw [List.getElem?_eq_none (by simp; omega), List.getElem?_eq_none hl]
    · subst hi
      simp at hh
      cases two <;> simp [newBlk] at hh
    · subst hi
      simp at hb; subst hb
      exact ⟨A, hat, hBR⟩
    · subst hi
      rw [hat] at hB; cases hB
      exact fun g off hh => absurd hh (hno g off)
    · subst hi
      rw [hat] at hB; cases hB
      exact absurd hh (hno g off)
  · intro c hc
    simp only [VR] at hc
    obtain ⟨a, rfl⟩ := hc
    simp only [newSl, VR]
    refine ⟨A, a, 0, hat, ?_, rfl, rfl, Nat.le_refl _, Nat.zero_le _, by simp, fun e => absurd e (Nat.lt_irrefl 0)⟩
    cases two <;> rfl
theorem isNil_VR {x : V} {c : Value} (hn : isNil x = true) (hx : VR Φ π x c) : VR Φ π .esl c := by
  cases x <;> simp [isNil] at hn
  · exact hx
  · simp only [VR] at hx ⊢; exact ⟨_, hx⟩
theorem HR.cell {h : List Blk} (hr : HR Φ w1 π h w) {b o : Nat} {c : List V} {v : V} (hb : h[b]? = some (.cells c)) (hv : ∀ u, VR Φ π (c.getD o .any) u → VR Φ π v u) : HR Φ w1 π (h.set b (.cells (c.set o v))) w := by
  have hlt := (List.getElem?_eq_some_iff.1 hb).1
  obtain ⟨A, hA, hB⟩ := hr.live b _ hb (by simp)
  refine hr.turn hb rfl hA (Turn.refl w _) ?_ (by simp)
  simp only [BR] at hB ⊢
  obtain ⟨h1, h2, cs, h3, h4⟩ := hB
  refine ⟨by simpa using h1, h2, cs, VRL.of_get (by simpa using VRL.length h3) fun i x u hx hu => ?_, h4⟩
  rw [List.getElem?_set] at hx
  split at hx
  · rename_i e; subst e
    split at hx
    · rename_i hl
      cases hx
      refine hv u ?_
      obtain ⟨u', hu', hx'⟩ := VRL.get h3 (List.getElem?_eq_getElem hl)
      rw [hu] at hu'; cases hu'
      simpa [List.getD_eq_getElem?_getD, List.getElem?_eq_getElem hl] using hx'
    · cases hx
  · obtain ⟨u', hu', hx'⟩ := VRL.get h3 hx
    rw [hu] at hu'; cases hu'; exact hx'
theorem hintF_sound {a : Go.Act} : ∀ (l : List Hint) {s : S} {π : Pi}, SR Φ w1 π s a w → ∃ π', π.le π' ∧ SR Φ w1 π' (hintF l s) a w
  | [], s, π, hs => ⟨π, Pi.le_refl _, hs⟩
  | .tmp u T two :: r, s, π, hs => by
    simp only [hintF]
    split
    · rename_i hc
      simp only [Bool.and_eq_true, decide_eq_true_eq] at hc
      obtain ⟨π', h1, h2, h3⟩ := hs.hp.grow hc.2 two
      have hs' : SR Φ w1 π' { s with t := s.t.set u (newSl T two s.h.length), h := s.h ++ [newBlk T two] } a w := by
        refine ⟨by simpa using hs.len, fun x => ?_, fun x g b v hx => ⟨fun e => VR.mono (Fr.le_refl _) h1 ((hs.op x g b v hx).1 e), (hs.op x g b v hx).2⟩, hs.df, h2⟩
        simp only
        rw [List.getD_set']
        split
        · rename_i e; rw [e.1]; exact h3 _ (isNil_VR hc.1 (hs.tm u))
        · exact VR.mono (Fr.le_refl _) h1 (hs.tm x)
      obtain ⟨π2, h4, h5⟩ := hintF_sound r hs'
      exact ⟨π2, Pi.le_trans h1 h4, h5⟩
    · exact hintF_sound r hs
  | .cell u off T two :: r, s, π, hs => by
    have key : ∀ (b o : Nat), ∃ π', π.le π' ∧ SR Φ w1 π' (match s.h[b]? with
      | some (.cells c) => if isNil (c.getD o .any) && decide (0 < T.size) then hintF r { s with h := s.h.set b (.cells (c.set o (newSl T two s.h.length))) ++ [newBlk T two] } else hintF r s
      | _ => hintF r s) a w := by
      intro b o
      split
      · rename_i c hb
        split
        · rename_i hc
          simp only [Bool.and_eq_true, decide_eq_true_eq] at hc
          obtain ⟨π', h1, h2, h3⟩ := hs.hp.grow hc.2 two
          have hlt := (List.getElem?_eq_some_iff.1 hb).1
          have hb' : (s.h ++ [newBlk T two])[b]? = some (.cells c) := by rw [List.getElem?_append_left hlt]; exact hb
          have h4 := h2.cell (o := o) (v := newSl T two s.h.length) hb' (fun w hw => by
            refine h3 _ ?_
            have := isNil_VR hc.1 hw
            simpa only [VR] using this)
          rw [List.set_append_left _ _ hlt] at h4
          have hs' : SR Φ w1 π' { s with h := s.h.set b (.cells (c.set o (newSl T two s.h.length))) ++ [newBlk T two] } a w :=
            ⟨hs.len, fun x => VR.mono (Fr.le_refl _) h1 (hs.tm x), fun x g b v hx => ⟨fun e => VR.mono (Fr.le_refl _) h1 ((hs.op x g b v hx).1 e), (hs.op x g b v hx).2⟩, hs.df, h4⟩
          obtain ⟨π2, h5, h6⟩ := hintF_sound r hs'
          exact ⟨π2, Pi.le_trans h1 h5, h6⟩
        · exact hintF_sound r hs
      · exact hintF_sound r hs
    simp only [hintF]
    split
    · rename_i b o _
      exact key b o
    · exact hintF_sound r hs

/-! ### code -/
theorem loop_sound {R : Type} {n0 : Nat} {c : Code} {bodyK : S → (Ex → S → Option R) → Option R} {head : S → Option S} {r : R}
    (hh : ∀ {Φ : Fr} {w1 w : World} {π : Pi} {a : Go.Act} {s s1 : S}, head s = some s1 → SR Φ w1 π s a w → ∃ π', Pi.leN n0 π π' ∧ SR Φ w1 π' s1 a w)
    (hb : ∀ s k, bodyK s k = some r → ∃ e s', k e s' = some r ∧ CodeTo C n0 c s e s') :
    ∀ (n : Nat) (so : Option S) (k : Ex → S → Option R), loopH bodyK head n so k = some r → ∃ s1 e s' N, so = some s1 ∧ k e s' = some r ∧
      ∀ (Φ : Fr) (w1 : World) (π : Pi) (a : Go.Act) (w : World) (Q : Exit → Go.Act → World → Prop), SR Φ w1 π s1 a w → (∀ Φ' π' a' w', Fr.ext w1.heap.size Φ Φ' → Pi.leN n0 π π' → SR Φ' w1 π' s' a' w' → Q e.conv a' w') → Code.rounds C.P c Q N a w
  | 0, s, k, h => by simp [loopH] at h
  | n + 1, none, k, h => by simp [loopH] at h
  | n + 1, some s1, k, h => by
    simp only [loopH] at h
    obtain ⟨e, s2, h1, h2⟩ := hb _ _ h
    cases e with
    | normal =>
      obtain ⟨s3, e', s', N, h5, h3, h4⟩ := loop_sound hh hb n (head s2) k h1
      refine ⟨s1, e', s', N + 1, rfl, h3, fun Φ w1 π a w Q hs hq => ?_⟩
      exact h2 Φ w1 π a w _ hs fun Φ2 π2 a2 w2 hx2 hle2 hs2 => by
        obtain ⟨π3, hle3, hs3⟩ := hh h5 hs2
        exact h4 Φ2 w1 π3 a2 w2 Q hs3 fun Φ4 π4 a4 w4 hx4 hle4 hs4 => hq Φ4 π4 a4 w4 (hx2.trans hx4) (Pi.leN_trans hle2 (Pi.leN_trans hle3 hle4)) hs4
    | exit id =>
      exact ⟨s1, _, s2, 1, rfl, h1, fun Φ w1 π a w Q hs hq => h2 Φ w1 π a w _ hs fun Φ2 π2 a2 w2 hx2 hle2 hs2 => hq Φ2 π2 a2 w2 hx2 hle2 hs2⟩
    | ret =>
      exact ⟨s1, _, s2, 1, rfl, h1, fun Φ w1 π a w Q hs hq => h2 Φ w1 π a w _ hs fun Φ2 π2 a2 w2 hx2 hle2 hs2 => hq Φ2 π2 a2 w2 hx2 hle2 hs2⟩
theorem head_sound {m n0 : Nat} {l : List Hint} {Φ : Fr} {w1 w : World} {π : Pi} {a : Go.Act} {s s1 : S} (hh : headF m n0 (hintF l s) = some s1) (hs : SR Φ w1 π s a w) : ∃ π', Pi.leN n0 π π' ∧ SR Φ w1 π' s1 a w := by
  obtain ⟨π1, h1, h2⟩ := hintF_sound l hs
  obtain ⟨π2, h3, h4⟩ := headF_sound h2 hh
  exact ⟨π2, Pi.leN_trans (Pi.leN_of h1) h3, h4⟩

theorem exec_sound (hC : CfgOk C) {R : Type} {fl n0 rl : Nat} {gg : FuncId} {rec : Rec R} (hrec : RecOk C.P rec) {r : R} : ∀ (c : Code) (ex : List (Nat × Nat)) (m : Nat) (s : S) (k : Ex → S → Option R), exec C fl n0 gg rec rl c ex m s k = some r →
    ∃ e s', k e s' = some r ∧ CodeTo C n0 c s e s'
  | .skip, ex, m, s, k, h => ⟨.normal, s, h, fun Φ w1 π a w Q hs hq => wp_skip (hq Φ π a w (Fr.ext.refl _ _) (fun _ _ _ h => h) hs)⟩
  | .region id ops draw, ex, m, s, k, h => by
    simp only [exec] at h
    split at h
    · cases h
    · rename_i he
      obtain ⟨s', h1, h2⟩ := region_sound (n0 := n0) (id := id) hC hrec (by intro u; split <;> simp [List.getD_eq_getElem?_getD, List.getElem?_replicate]; split <;> rfl) (by simpa using he) h
      exact ⟨.normal, s', h1, h2⟩
  | .seq a b, ex, m, s, k, h => by
    simp only [exec] at h
    obtain ⟨e, s1, h1, h2⟩ := exec_sound hC hrec a _ _ _ _ h
    cases e with
    | normal =>
      obtain ⟨e', s', h3, h4⟩ := exec_sound hC hrec b _ _ _ _ h1
      refine ⟨e', s', h3, fun Φ w1 π ac w Q hs hq => wp_seq ?_⟩
      exact h2 Φ w1 π ac w _ hs fun Φ1 π1 a1 w1' hx1 hle1 hs1 => h4 Φ1 w1 π1 a1 w1' Q hs1 fun Φ2 π2 a2 w2 hx2 hle2 hs2 => hq Φ2 π2 a2 w2 (hx1.trans hx2) (Pi.leN_trans hle1 hle2) hs2
    | exit id => exact ⟨_, s1, h1, fun Φ w1 π ac w Q hs hq => wp_seq (h2 Φ w1 π ac w _ hs fun Φ1 π1 a1 w1' hx1 hle1 hs1 => hq Φ1 π1 a1 w1' hx1 hle1 hs1)⟩
    | ret => exact ⟨_, s1, h1, fun Φ w1 π ac w Q hs hq => wp_seq (h2 Φ w1 π ac w _ hs fun Φ1 π1 a1 w1' hx1 hle1 hs1 => hq Φ1 π1 a1 w1' hx1 hle1 hs1)⟩
  | .cond c x y, ex, m, s, k, h => by
    simp only [exec] at h
    split at h
    · rename_i b hb
      have hc : ∀ {Φ : Fr} {w1 : World} {π : Pi} {a : Go.Act} {w : World}, SR Φ w1 π s a w → a.eval c = .bool b := by
        intro Φ w1 π a w hs
        have := rd_sound hs (gs := []) (by intro g b hm; cases hm) c
        rw [hb] at this
        simpa [VR] using this
      rcases br_some h with ⟨rfl, h⟩ | ⟨rfl, h⟩
      · obtain ⟨e, s', h1, h2⟩ := exec_sound hC hrec x _ _ _ _ h
        exact ⟨e, s', h1, fun Φ w1 π a w Q hs hq => wp_cond_true (hc hs) (h2 Φ w1 π a w Q hs hq)⟩
      · obtain ⟨e, s', h1, h2⟩ := exec_sound hC hrec y _ _ _ _ h
        exact ⟨e, s', h1, fun Φ w1 π a w Q hs hq => wp_cond_false (hc hs) (h2 Φ w1 π a w Q hs hq)⟩
    · cases h
  | .block id body, ex, m, s, k, h => by
    simp only [exec] at h
    obtain ⟨e, s1, h1, h2⟩ := exec_sound hC hrec body _ _ _ _ h
    cases e with
    | normal => exact ⟨_, s1, h1, fun Φ w1 π ac w Q hs hq => wp_block (h2 Φ w1 π ac w _ hs fun Φ1 π1 a1 w1' hx1 hle1 hs1 => hq Φ1 π1 a1 w1' hx1 hle1 hs1)⟩
    | exit id' =>
      simp only at h1
      split at h1
      · rename_i hid
        have hid : id' = id := by simpa using hid
        refine ⟨_, s1, h1, fun Φ w1 π ac w Q hs hq => wp_block (h2 Φ w1 π ac w _ hs fun Φ1 π1 a1 w1' hx1 hle1 hs1 => ?_)⟩
        simp only [Ex.conv, Exit.inBlock, hid, if_true]
        exact hq Φ1 π1 a1 w1' hx1 hle1 hs1
      · rename_i hid
        have hid : id' ≠ id := by simpa using hid
        refine ⟨_, s1, h1, fun Φ w1 π ac w Q hs hq => wp_block (h2 Φ w1 π ac w _ hs fun Φ1 π1 a1 w1' hx1 hle1 hs1 => ?_)⟩
        simp only [Ex.conv, Exit.inBlock, hid, if_false]
        exact hq Φ1 π1 a1 w1' hx1 hle1 hs1
    | ret => exact ⟨_, s1, h1, fun Φ w1 π ac w Q hs hq => wp_block (h2 Φ w1 π ac w _ hs fun Φ1 π1 a1 w1' hx1 hle1 hs1 => hq Φ1 π1 a1 w1' hx1 hle1 hs1)⟩
  | .loop body, ex, m, s, k, h => by
    simp only [exec] at h
    obtain ⟨s1, e, s', N, h0, h1, h2⟩ := loop_sound (n0 := n0) (c := body) (fun hh hs => head_sound hh hs) (fun s k h => exec_sound hC hrec body _ _ _ _ h) _ _ _ h
    refine ⟨e, s', h1, fun Φ w1 π a w Q hs hq => wp_loop_rounds N ?_⟩
    obtain ⟨π1, hle1, hs1⟩ := head_sound h0 hs
    exact h2 Φ w1 π1 a w Q hs1 fun Φ2 π2 a2 w2 hx2 hle2 hs2 => hq Φ2 π2 a2 w2 hx2 (Pi.leN_trans hle1 hle2) hs2
  | .exit id, ex, m, s, k, h => ⟨.exit id, s, by simpa only [exec] using h, fun Φ w1 π a w Q hs hq => wp_exit (hq Φ π a w (Fr.ext.refl _ _) (fun _ _ _ h => h) hs)⟩
  | .ret, ex, m, s, k, h => ⟨.ret, s, by simpa only [exec] using h, fun Φ w1 π a w Q hs hq => wp_ret (hq Φ π a w (Fr.ext.refl _ _) (fun _ _ _ h => h) hs)⟩
  | .rangeFunc .., ex, m, s, k, h => by simp [exec] at h
  | .scope _, ex, m, s, k, h => by simp [exec] at h
  | .label _, ex, m, s, k, h => by simp [exec] at h
  | .goto _, ex, m, s, k, h => by simp [exec] at h
  | .refuse _, ex, m, s, k, h => by simp [exec] at h

/-! ### functions -/
def resM (tmps : Array Value) : ResultVar → Sem Value
  | .tmp t => pure (tmps.getD t undef)
  | .cell p t => do loadVar t (← asAddr (tmps.getD p undef))
theorem res_sound {s : S} {a : Go.Act} (hs : SR Φ w1 π s a w) : ∀ {l : List ResultVar} {vs : List V}, resAll C.P s l = some vs →
    ∃ cs : List Value, (l.mapM (resM a.tmps)).run C.P w = .ok cs w ∧ VRL Φ π vs cs
  | [], vs, h => by simp [resAll] at h; subst h; exact ⟨[], by simp, by simp [VRL]⟩
  | r :: l, vs, h => by
    simp only [resAll] at h
    cases h1 : resOne C.P s r with
    | none => simp [h1] at h
    | some v =>
      simp only [h1, Option.bind_some] at h
      cases h2 : resAll C.P s l with
      | none => simp [h2] at h
      | some vs' =>
        simp only [h2, Option.map_some, Option.some.injEq] at h
        subst h
        obtain ⟨cs, h3, h4⟩ := res_sound hs h2
        cases r with
        | tmp t =>
          simp only [resOne, Option.some.injEq] at h1
          subst h1
          exact ⟨a.tmps.getD t undef :: cs, by simp only [List.mapM_cons, Sem.run_bind, resM, h3, Result.andThen_ok, Sem.run_pure], by simp only [VRL]; exact ⟨hs.tm t, h4⟩⟩
        | cell p t =>
          simp only [resOne] at h1
          split at h1
          · rename_i v' hv
            simp only [Option.some.injEq] at h1
            subst h1
            obtain ⟨_, cv, h5, h6⟩ := load_sound (P := C.P) (slot := 0) (u := .no) (v := v') hs.hp (hs.tm p) (by rw [hv]; exact ⟨rfl, rfl⟩)
            refine ⟨cv :: cs, ?_, by simp only [VRL]; exact ⟨h6, h4⟩⟩
            have h7 : (do loadVar t (← asAddr (a.tmps.getD p undef)) : Sem Value).run C.P w = .ok cv w := by
              simp only [Instr.loadAt, Sem.run_bind] at h5 ⊢
              revert h5
              cases a.tmps.getD p undef <;> simp [Instr.sureAddr, asAddr]
              rename_i ad
              cases ad <;> simp
            have h7' : (resM a.tmps (.cell p t)).run C.P w = .ok cv w := h7
            simp only [List.mapM_cons, Sem.run_bind, h7', h3, Result.andThen_ok, Sem.run_pure]
          · cases h1

theorem results_sound {s : S} {a : Go.Act} {fn : Func} {v : V} (hs : SR Φ w1 π s a w) (h : results C.P fn s = some v) : ∃ c, (Go.results fn a.tmps).run C.P w = .ok c w ∧ VR Φ π v c := by
  unfold results at h
  cases h1 : resAll C.P s fn.results.toList with
  | none => simp [h1] at h
  | some vs =>
    simp only [h1, Option.map_some, Option.some.injEq] at h
    obtain ⟨cs, h2, h3⟩ := res_sound hs h1
    have h4 : (Go.results fn a.tmps).run C.P w = .ok (if h : cs.toArray.size = 1 then cs.toArray[0] else .tuple cs.toArray) w := by
      have : Go.results fn a.tmps = (do let vs ← fn.results.mapM (resM a.tmps); pure (if h : vs.size = 1 then vs[0] else .tuple vs)) := by
        unfold Go.results
        congr 2
      rw [this]
      simp only [Array.mapM_eq_mapM_toList, Sem.run_bind, Sem.run_map, h2, Result.andThen_ok, Sem.run_pure]
    refine ⟨_, h4, ?_⟩
    have hl := VRL.length h3
    split at h
    · rename_i v'
      obtain ⟨c, m, rfl, h5, h6⟩ := VRL.cons h3
      have := VRL.nil h6; subst this
      subst h
      simpa using h5
    · rename_i hne
      subst h
      rw [dif_neg]
      · simp only [VR]; exact ⟨_, rfl, h3⟩
      · intro e
        simp at e
        match vs, hl with
        | [x], _ => exact hne x rfl
        | [], hl => simp at hl; omega
        | _ :: _ :: _, hl => simp at hl; omega

theorem execFn_sound (hC : CfgOk C) {R : Type} {fl : Nat} {rec : Rec R} (hrec : RecOk C.P rec) : RecOk C.P (execFn C fl rec) := by
  intro g args h k r he
  unfold execFn at he
  split at he
  · cases he
  · rename_i fn hfn
    split at he
    · cases he
    · rename_i c hc
      obtain ⟨e, s', h1, h2⟩ := exec_sound hC hrec c _ _ _ _ he
      have h1' : e ≠ .exit 0 ∧ ∃ v, results C.P fn s' = some v ∧ k v s'.h = some r ∧ ∀ id, e ≠ .exit id := by
        cases e with
        | exit id => cases h1
        | normal =>
          simp only at h1
          split at h1
          · rename_i v hv; exact ⟨by simp, v, hv, h1, by simp⟩
          · cases h1
        | ret =>
          simp only at h1
          split at h1
          · rename_i v hv; exact ⟨by simp, v, hv, h1, by simp⟩
          · cases h1
      obtain ⟨_, v, hv, hk, hne⟩ := h1'
      refine ⟨v, s'.h, hk, ?_⟩
      intro Φ w1 w π cargs hr ha
      have hlen := VRL.length ha
      simp only [Array.length_toList] at hlen
      refine calls_of_wp hfn hc (h2 Φ w1 π _ w _ ⟨?_, ?_, fun u g b v hu => by simp at hu, rfl, hr⟩ ?_)
      · simp [hlen]
      · intro u
        simp only [List.getD_eq_getElem?_getD, Array.getD_eq_getD_getElem?]
        rcases Nat.lt_or_ge u args.length with hl | hl
        · rw [List.getElem?_append_left hl, Array.getElem?_append_left (by omega)]
          obtain ⟨c', hc', hv'⟩ := VRL.get ha (List.getElem?_eq_getElem hl)
          rw [List.getElem?_eq_getElem hl]
          simp only [Option.getD_some]
          rw [show cargs[u]? = some c' by simpa using hc']
          exact hv'
        · rw [List.getElem?_append_right hl, Array.getElem?_append_right (by omega), List.getElem?_replicate, Array.getElem?_replicate, hlen]
          split
          · simp only [Option.getD_some, VR]; exact ⟨_, rfl, by simp [VRL]⟩
          · simp [VR]
      · intro Φ' π' a' w' hx hle hs'
        obtain ⟨cv, h5, h6⟩ := results_sound hs' hv
        have hdom : π.le π' := by
          intro b g hg
          refine hle b g ?_ hg
          rcases Nat.lt_or_ge b h.length with hl | hl
          · exact hl
          · rw [hr.free b (.inl (List.getElem?_eq_none hl))] at hg; cases hg
        cases e with
        | exit id => exact absurd rfl (hne id)
        | normal => exact ⟨hs'.df, cv, h5, cv, Φ', π', rfl, hx, hdom, hs'.hp, h6⟩
        | ret => exact ⟨hs'.df, cv, h5, cv, Φ', π', rfl, hx, hdom, hs'.hp, h6⟩

theorem call_ok (hC : CfgOk C) {R : Type} (fl : Nat) : ∀ d, RecOk C.P (call (R := R) C fl d)
  | 0 => by intro g args h k r he; cases he
  | d + 1 => execFn_sound hC (call_ok hC fl d)
end
end Go.Eng
