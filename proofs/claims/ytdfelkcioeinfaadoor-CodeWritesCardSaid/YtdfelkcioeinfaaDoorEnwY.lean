/- The engine, part Y: functions of plain data, by their types. -/
import Derived.Test.YtdfelkcioeinfaaDoorEnwX
set_option linter.unusedVariables false
set_option linter.unusedSimpArgs false
namespace Go.Eng
open Go Go.RowKit

section
variable {Φ Ψ : Fr} {w w1 w' : World} {π π' : Pi} {h : List Blk}

/-! ### parameters -/
theorem encP_one {wb : Bool} {t : Ty} {x : t.D} {c : Value} (h : TR (Φ wb) t x [c]) : VR Φ π (encP wb (.one t) x) c := by
  have h6 := TR.vs (π := π) h
  simp only [encP]
  split
  · rename_i v' he
    rw [he] at h6
    simpa [VRL] using h6
  · simp [VR]
theorem decP_sound {wb : Bool} (hw : wb = true → (Φ false).le (Φ true)) {p : PT} {v : V} {x : p.D} {c : Value} (hd : decP wb p v = some x) (hv : VR Φ π v c) : VR Φ π' (encP wb p x) c := by
  cases p with
  | one t =>
    simp only [decP] at hd
    exact encP_one (decOne_sound hw hd (by simp only [VRL, and_true]; exact hv))
  | agg t =>
    simp only [decP] at hd
    split at hd
    · rename_i l
      simp only [VR] at hv
      obtain ⟨cs, rfl, hcs⟩ := hv
      simp only [encP, VR]
      exact ⟨cs, rfl, TR.vs (decOne_sound hw hd hcs)⟩
    · cases hd
  | own t => cases hd
  | owns t => cases hd
theorem decL_sound {wb : Bool} (hw : wb = true → (Φ false).le (Φ true)) : ∀ {ps : List PT} {l : List V} {x : PTs.D ps} {cs : List Value}, decL wb ps l = some x → VRL Φ π l cs → VRL Φ π' (encL wb ps x) cs
  | [], [], x, cs, hd, hv => by have := VRL.nil hv; subst this; simp [encL, VRL]
  | [p], [v], x, cs, hd, hv => by
    simp only [decL] at hd
    obtain ⟨c, m, rfl, hc, hm⟩ := VRL.cons hv
    have := VRL.nil hm; subst this
    simp only [encL, VRL, and_true]
    exact decP_sound hw hd hc
  | p :: q :: ps, v :: l, x, cs, hd, hv => by
    simp only [decL] at hd
    split at hd
    · rename_i y hy
      split at hd
      · rename_i z hz
        cases hd
        obtain ⟨c, m, rfl, hc, hm⟩ := VRL.cons hv
        simp only [encL, VRL]
        exact ⟨decP_sound hw hy hc, decL_sound hw hz hm⟩
      · cases hd
    · cases hd
  | [], _ :: _, x, cs, hd, hv => by simp [decL] at hd
  | [p], [], x, cs, hd, hv => by simp [decL] at hd
  | [p], _ :: _ :: _, x, cs, hd, hv => by simp [decL] at hd
  | p :: q :: ps, [], x, cs, hd, hv => by simp [decL] at hd

/-! ### results -/
/-- What is handed back, when the rest of it has been frozen. -/
structure Fro (Φ Ψ : Fr) (w1 : World) (π : Pi) (h : List Blk) (w : World) (K : Nat → Prop) (F : Fz) : Prop where
  hr : HR Φ w1 π h w
  le : Φ.le Ψ
  f : Ψ false = F
  told : Told F w π h K
theorem encRP_sound {F : Fz} {K : Nat → Prop} (hf : Fro Φ Ψ w1 π h w K F) {p : PT} {v : V} {x : p.D} {c : Value} (i : Nat) (hd : decRP h p v = some x) (hv : VR Φ π v c) (hk : isOwn p = false → ∀ b ∈ V.refs v, K (resB h 1000 b)) :
    (isOwn p = false → (encRP i p x).2 = [] ∧ ∀ π2, VR (only F) π2 (encRP i p x).1 c) ∧
    (isOwn p = true → ∃ b blk, (V.refs v).map (resB h 1000) = [b] ∧ (encRP i p x).2 = [blk] ∧ h[b]? = some blk ∧ blk.isRow = true ∧ ∀ (A : At) (π2 : Pi), π b = some A → π2 i = some A → VR (only F) π2 (encRP i p x).1 c) := by
  have hF : (Φ false).le (Ψ false) := hf.le false
  cases p with
  | one t =>
    refine ⟨fun _ => ⟨rfl, fun π2 => ?_⟩, fun e => absurd e (by simp [isOwn])⟩
    simp only [decRP] at hd
    have h1 := view_sound (wb := false) (Ψ := Ψ) hf.hr hf.le hF (by rw [hf.f]; exact hf.told) (hk rfl) hv
    have h2 : TR (Ψ false) t x [c] := decOne_sound (by simp) hd (by simp only [VRL, and_true]; exact h1)
    rw [hf.f] at h2
    exact encP_one (wb := false) (Φ := only F) h2
  | agg t =>
    refine ⟨fun _ => ⟨rfl, fun π2 => ?_⟩, fun e => absurd e (by simp [isOwn])⟩
    simp only [decRP] at hd
    split at hd
    · rename_i l
      simp only [VR] at hv
      obtain ⟨cs, rfl, hcs⟩ := hv
      have h1 := views_sound (wb := false) (Ψ := Ψ) hf.hr hf.le hF (by rw [hf.f]; exact hf.told) (fun b hb => hk rfl b (by simpa [V.refs] using hb)) hcs
      have h2 : TR (Ψ false) t x cs.toList := decOne_sound (by simp) hd h1
      rw [hf.f] at h2
      simp only [encRP, encP, VR]
      exact ⟨cs, rfl, TR.vs (w := false) (Φ := only F) h2⟩
    · cases hd
  | own t =>
    refine ⟨fun e => absurd e (by simp [isOwn]), fun _ => ?_⟩
    simp only [decRP] at hd
    split at hd
    · rename_i b sz n
      split at hd
      · rename_i t' xs hb
        split at hd
        · rename_i hT; subst hT
          cases hd
          refine ⟨b, _, by simp [V.refs, resB_id 1000 hb (by simp)], rfl, hb, rfl, fun A π2 hA h2 => ?_⟩
          simp only [VR] at hv
          obtain ⟨A0, a, cap, h3, h4, h5, h6⟩ := hv
          rw [hA] at h3; cases h3
          have hB := hf.hr.get hb (by simp) hA
          simp only [BR] at hB
          simp only [encRP, VR, W.len]
          refine ⟨A, a, cap, h2, hB.2.2.1, hB.2.1, ?_⟩
          rw [← hB.2.1, ← hB.2.2.1, h5, h4]; exact h6
        · cases hd
      · cases hd
    · cases hd
  | owns t =>
    refine ⟨fun e => absurd e (by simp [isOwn]), fun _ => ?_⟩
    simp only [decRP] at hd
    split at hd
    · rename_i b sz n
      split at hd
      · rename_i t' xs hb
        split at hd
        · rename_i hT; subst hT
          cases hd
          refine ⟨resB h 1000 b, _, by simp [V.refs], rfl, hb, rfl, fun A π2 hA h2 => ?_⟩
          simp only [VR] at hv
          obtain ⟨A0, a, cap, h3, h4, h5, h6⟩ := hv
          obtain ⟨A', h7, h8⟩ := resB_sound hf.hr 1000 b A0 h3
          rw [hA] at h7; cases h7
          have hB := hf.hr.get hb (by simp) hA
          simp only [BR] at hB
          simp only [encRP, VR, W.len]
          refine ⟨A, a, cap, h2, hB.2.1, hB.1, ?_⟩
          rw [← hB.1, h8.g, h8.o, h8.n, h8.len, h5]
          have : sz = 1 := by rw [← h4, ← h8.sz]; exact hB.2.1
          rw [this] at h6; exact h6
        · cases hd
      · cases hd
    · cases hd

theorem encRL_sound {F : Fz} {K : Nat → Prop} (hf : Fro Φ Ψ w1 π h w K F) : ∀ {ps : List PT} {l : List V} {x : PTs.D ps} {cs : List Value} (i : Nat), decRL h ps l = some x → VRL Φ π l cs → (∀ b ∈ frzIds h ps l, K b) →
    (encRL i ps x).2.length = (ownIds h ps l).length ∧ (∀ (k : Nat) (blk : Blk), (encRL i ps x).2[k]? = some blk → ∃ b, (ownIds h ps l)[k]? = some b ∧ h[b]? = some blk ∧ blk.isRow = true) ∧
    ∀ π2 : Pi, (∀ (k b : Nat) (A : At), (ownIds h ps l)[k]? = some b → π b = some A → π2 (i + k) = some A) → VRL (only F) π2 (encRL i ps x).1 cs := by
  have one : ∀ {p : PT} {v : V} {x : p.D} {c : Value} (i : Nat), decRP h p v = some x → VR Φ π v c → (∀ b ∈ (if isOwn p then [] else (V.refs v).map (resB h 1000)), K b) →
      (encRP i p x).2.length = (if isOwn p then (V.refs v).map (resB h 1000) else []).length ∧ (if isOwn p then (V.refs v).map (resB h 1000) else []).length = (if isOwn p then 1 else 0) ∧
      (∀ (k : Nat) (blk : Blk), (encRP i p x).2[k]? = some blk → ∃ b, (if isOwn p then (V.refs v).map (resB h 1000) else [])[k]? = some b ∧ h[b]? = some blk ∧ blk.isRow = true) ∧
      ∀ π2 : Pi, (∀ (k b : Nat) (A : At), (if isOwn p then (V.refs v).map (resB h 1000) else [])[k]? = some b → π b = some A → π2 (i + k) = some A) → VR (only F) π2 (encRP i p x).1 c := by
    intro p v x c i hd hv hk
    obtain ⟨h1, h2⟩ := encRP_sound hf i hd hv (fun e b hb => hk _ (by simp [e]; exact ⟨b, hb, rfl⟩))
    cases ho : isOwn p with
    | false =>
      obtain ⟨h3, h4⟩ := h1 ho
      simp only [Bool.false_eq_true, if_false, h3]
      exact ⟨rfl, rfl, fun k blk e => by simp at e, fun π2 _ => h4 π2⟩
    | true =>
      obtain ⟨b, blk, h3, h4, h5, h6, h7⟩ := h2 ho
      simp only [if_true, h3, h4]
      refine ⟨rfl, rfl, fun k blk' e => ?_, fun π2 hp => ?_⟩
      · cases k with
        | zero => simp at e; subst e; exact ⟨b, rfl, h5, h6⟩
        | succ k => simp at e
      · obtain ⟨A, hA, _⟩ := hf.hr.live b blk h5 (by intro e; subst e; cases h6)
        exact h7 A π2 hA (by simpa using hp 0 b A rfl hA)
  intro ps
  induction ps with
  | nil =>
    intro l x cs i hd hv hk
    cases l with
    | nil =>
      have := VRL.nil hv; subst this
      exact ⟨rfl, fun k blk e => by simp [encRL] at e, fun π2 _ => by simp [encRL, VRL]⟩
    | cons => simp [decRL] at hd
  | cons p ps ih =>
    intro l x cs i hd hv hk
    cases l with
    | nil => cases ps <;> simp [decRL] at hd
    | cons v l =>
      obtain ⟨c, m, rfl, hc, hm⟩ := VRL.cons hv
      cases ps with
      | nil =>
        cases l with
        | cons => simp [decRL] at hd
        | nil =>
          have := VRL.nil hm; subst this
          simp only [decRL] at hd
          have hid : ownIds h [p] [v] = if isOwn p then (V.refs v).map (resB h 1000) else [] := by simp [ownIds]
          have hfz : frzIds h [p] [v] = if isOwn p then [] else (V.refs v).map (resB h 1000) := by simp [frzIds]
          rw [hfz] at hk; rw [hid]
          obtain ⟨h1, h2, h3, h4⟩ := one i hd hc hk
          refine ⟨h1, h3, fun π2 hp => ?_⟩
          simp only [encRL, VRL, and_true]
          exact h4 π2 hp
      | cons q ps =>
        simp only [decRL] at hd
        split at hd
        · rename_i y hy
          split at hd
          · rename_i z hz
            cases hd
            have hid : ownIds h (p :: q :: ps) (v :: l) = (if isOwn p then (V.refs v).map (resB h 1000) else []) ++ ownIds h (q :: ps) l := by rw [ownIds]
            have hfz : frzIds h (p :: q :: ps) (v :: l) = (if isOwn p then [] else (V.refs v).map (resB h 1000)) ++ frzIds h (q :: ps) l := by rw [frzIds]
            rw [hfz] at hk; rw [hid]
            obtain ⟨h1, h2, h3, h4⟩ := one i hy hc (fun b hb => hk b (by simp only [List.mem_append]; exact .inl hb))
            obtain ⟨g1, g2, g3⟩ := ih (i + if isOwn p then 1 else 0) hz hm (fun b hb => hk b (by simp only [List.mem_append]; exact .inr hb))
            revert h1 h2 h3 h4
            generalize (if isOwn p then (V.refs v).map (resB h 1000) else []) = own
            generalize hn : (if isOwn p then 1 else 0) = n at g1 g2 g3
            intro h1 h2 h3 h4
            refine ⟨?_, fun k blk e => ?_, fun π2 hp => ?_⟩
            · simp only [encRL, hn, List.length_append, h1, g1]
            · simp only [encRL, hn] at e
              rcases Nat.lt_or_ge k own.length with hl | hl
              · rw [List.getElem?_append_left (by rw [h1]; exact hl)] at e
                rw [List.getElem?_append_left hl]
                exact h3 k blk e
              · rw [List.getElem?_append_right (by rw [h1]; exact hl), h1] at e
                rw [List.getElem?_append_right hl]
                exact g2 _ blk e
            · simp only [encRL, hn, VRL]
              refine ⟨h4 π2 fun k b A hb hA => hp k b A ?_ hA, g3 π2 fun k b A hb hA => ?_⟩
              · rw [List.getElem?_append_left (List.getElem?_eq_some_iff.1 hb).1]; exact hb
              · have := hp (n + k) b A (by rw [List.getElem?_append_right (by omega), h2, Nat.add_sub_cancel_left]; exact hb) hA
                rw [Nat.add_assoc]; exact this
          · cases hd
        · cases hd

theorem BR.rowMono {π2 : Pi} {F : Fz} {A : At} {blk : Blk} (hi : blk.isRow = true) (hle : (Φ false).le F) (hb : BR Φ π w A blk) : BR (only F) π2 w A blk := by
  have h1 : BR (only (Φ false)) π2 w A blk := BR.isRow (Φ := Φ) (Φ' := only (Φ false)) (π := π) hi rfl hb
  exact BR.turn (S := fun _ _ => False) h1 (fun x g off u hu => by cases x with | false => exact hle g off u hu | true => cases hu) (Pi.le_refl _) (Turn.refl w _) (fun _ _ _ _ e => e)
theorem isRow_owns {blk : Blk} (h : blk.isRow = true) : blk.owns = true := by cases blk <;> first | rfl | cases h

theorem encRP_rows (i : Nat) : ∀ (p : PT) (x : p.D), ∀ b ∈ (encRP i p x).2, b.isRow = true
  | .one t, x => fun b hb => by simp [encRP] at hb
  | .agg t, x => fun b hb => by simp [encRP] at hb
  | .own t, x => fun b hb => by simp [encRP] at hb; subst hb; rfl
  | .owns t, x => fun b hb => by simp [encRP] at hb; subst hb; rfl
theorem encRL_rows : ∀ (ps : List PT) (i : Nat) (x : PTs.D ps), ∀ b ∈ (encRL i ps x).2, b.isRow = true
  | [], i, x => fun b hb => by simp [encRL] at hb
  | [p], i, x => fun b hb => encRP_rows i p x b (by simpa [encRL] using hb)
  | p :: q :: r, i, x => fun b hb => by
    simp only [encRL, List.mem_append] at hb
    rcases hb with hb | hb
    · exact encRP_rows i p x.1 b hb
    · exact encRL_rows (q :: r) _ x.2 b hb
theorem encR_snd (qs : List PT) (y : PTs.D qs) : (encR qs y).2 = (encRL 0 qs y).2 := by
  unfold encR; split <;> simp_all
theorem encR_rows (qs : List PT) (y : PTs.D qs) : (encR qs y).2.all Blk.isRow = true := by
  rw [List.all_eq_true, encR_snd]; exact encRL_rows qs 0 y

theorem ownN_sound : ∀ (qs : List PT) (vs : List V) (h : List Blk) (π : Pi) (cs : List Value), HR Φ w1 π h w → VRL Φ π vs cs →
    ∃ π', π.le π' ∧ HR Φ w1 π' (ownN qs vs h).2 w ∧ VRL Φ π' (ownN qs vs h).1 cs
  | [], vs, h, π, cs, hr, hv => ⟨π, Pi.le_refl _, hr, hv⟩
  | p :: ps, [], h, π, cs, hr, hv => ⟨π, Pi.le_refl _, hr, hv⟩
  | p :: ps, v :: vs, h, π, cs, hr, hv => by
    obtain ⟨c, m, rfl, hc, hm⟩ := VRL.cons hv
    have keep : ∃ π', π.le π' ∧ HR Φ w1 π' (ownN ps vs h).2 w ∧ VRL Φ π' (v :: (ownN ps vs h).1) (c :: m) := by
      obtain ⟨π', q1, q2, q3⟩ := ownN_sound ps vs h π m hr hm
      exact ⟨π', q1, q2, by simp only [VRL]; exact ⟨VR.mono (Fr.le_refl _) q1 hc, q3⟩⟩
    have fresh : ∀ (t : Ty) (two : Bool), 0 < t.size → isNil v = true → ∃ π', π.le π' ∧ HR Φ w1 π' (ownN ps vs (h ++ [newBlk t two])).2 w ∧ VRL Φ π' (newSl t two h.length :: (ownN ps vs (h ++ [newBlk t two])).1) (c :: m) := by
      intro t two ht hn
      obtain ⟨π1, g1, g2, g3⟩ := hr.grow ht two
      obtain ⟨π', q1, q2, q3⟩ := ownN_sound ps vs (h ++ [newBlk t two]) π1 m g2 (VRL.mono (Fr.le_refl _) g1 hm)
      refine ⟨π', Pi.le_trans g1 q1, q2, ?_⟩
      simp only [VRL]
      refine ⟨VR.mono (Fr.le_refl _) q1 (g3 c ?_), q3⟩
      cases v <;> first
        | (simp [isNil] at hn; done)
        | exact hc
        | (simp only [VR] at hc ⊢; exact ⟨_, hc⟩)
    cases p with
    | one t => simpa only [ownN] using keep
    | agg t => simpa only [ownN] using keep
    | own t =>
      simp only [ownN]
      split
      · rename_i hn
        simp only [Bool.and_eq_true, decide_eq_true_eq] at hn
        exact fresh t false hn.2 hn.1
      · exact keep
    | owns t =>
      simp only [ownN]
      split
      · rename_i hn
        simp only [Bool.and_eq_true, decide_eq_true_eq] at hn
        exact fresh t true hn.2 hn.1
      · exact keep
open Classical in
theorem freeze0 {F : Fz} (hr : HR Φ w1 π h w) (hF : FzOk F w1) (hx : Fr.ext w1.heap.size (lend F w1) Φ) {qs : List PT} {vs : List V} {y : PTs.D qs} {c : Value} {cs : List Value} (hok : ownOk h qs vs = true) (hd : decRL h qs vs = some y)
    (hcs : VRL Φ π vs cs) (hback : ∀ (Θ : Fr) (π2 : Pi), VRL Θ π2 (encRL 0 qs y).1 cs → VR Θ π2 (encR qs y).1 c) :
    ∃ F' π2, Fr.ext w1.heap.size (only F) (only F') ∧ HR (only F') w1 π2 (encR qs y).2 w ∧ VR (only F') π2 (encR qs y).1 c := by
  simp only [ownOk, Bool.and_eq_true, List.all_eq_true, Bool.not_eq_true', List.contains_eq_mem, decide_eq_false_iff_not] at hok
  obtain ⟨hnd, hdis⟩ := hok
  have hnd := nodupB_iff hnd
  have hnb := encR_snd qs y
  let Own : Nat → Nat → Prop := fun g off => ∃ b blk A, b ∈ frzIds h qs vs ∧ h[b]? = some blk ∧ blk.owns = true ∧ π b = some A ∧ A.has g off
  let F' : Fz := fun g off => match Φ false g off with
    | some u => some u
    | none => if Own g off then wcell w g off else none
  have hle : (Φ false).le F' := fun g off u hu => by show (match Φ false g off with | some u => some u | none => _) = _; rw [hu]
  have hF'n : ∀ {g off u}, F' g off = some u → Φ false g off = some u ∨ (Own g off ∧ wcell w g off = some u) := by
    intro g off u hu
    have hu : (match Φ false g off with | some u => some u | none => if Own g off then wcell w g off else none) = some u := hu
    split at hu
    · rename_i u' e; exact .inl (e.trans hu)
    · split at hu
      · rename_i ho; exact .inr ⟨ho, hu⟩
      · cases hu
  let Ψ : Fr := fun x => if x then Φ true else F'
  have hf : Fro Φ Ψ w1 π h w (· ∈ frzIds h qs vs) F' := by
    refine ⟨hr, fun x => ?_, rfl, fun b blk A hb hbk hrow hA g off u hh hw => ?_⟩
    · cases x
      · exact hle
      · exact fun g off u hu => hu
    · have ho : Own g off := ⟨b, blk, A, hb, hbk, isRow_owns hrow, hA, hh⟩
      have hn := (hr.own b blk A hbk (isRow_owns hrow) hA g off hh).2.2 false
      show (match Φ false g off with | some u => some u | none => if Own g off then wcell w g off else none) = _
      rw [hn]; simp only [if_pos ho]; exact hw
  obtain ⟨e1, e2, e3⟩ := encRL_sound hf 0 hd hcs (fun b hb => hb)
  let π2 : Pi := fun k => ((ownIds h qs vs)[k]?).bind π
  have hrow : ∀ (k : Nat) (blk : Blk), (encR qs y).2[k]? = some blk → blk.isRow = true := fun k blk e => by
    rw [hnb] at e; obtain ⟨b, _, _, h3⟩ := e2 k blk e; exact h3
  refine ⟨F', π2, ⟨?_, ?_⟩, ?_, ?_⟩
  · intro x g off u hu
    cases x with
    | false => exact hle g off u (hx.le false g off u hu)
    | true => cases hu
  · intro x g off u hu
    cases x with
    | true => cases hu
    | false =>
      rcases hF'n hu with hu | ⟨⟨b, blk, A, _, h2, h3, h4, h5⟩, _⟩
      · exact hx.new false g off u hu
      · exact .inr (hr.own b blk A h2 h3 h4 g off h5).1
  · have hold : ∀ k blk A, (encR qs y).2[k]? = some blk → π2 k = some A → ∃ b, (ownIds h qs vs)[k]? = some b ∧ h[b]? = some blk ∧ blk.isRow = true ∧ π b = some A := by
      intro k blk A hk hA
      rw [hnb] at hk
      obtain ⟨b, h1, h2, h3⟩ := e2 k blk hk
      have : π b = some A := by simpa [π2, h1] using hA
      exact ⟨b, h1, h2, h3, this⟩
    refine ⟨fun x => ?_, hr.below, hr.base, fun k hk => ?_, fun k blk hk hne => ?_, fun k blk A hk ho hA g off hh => ?_, fun k k' blk blk' A A' hk ho hk' ho' hne hA hA' g off hh hh' => ?_⟩
    · intro g off u hu
      cases x with
      | true => cases hu
      | false =>
        rcases hF'n hu with hu | ⟨_, hu⟩
        · exact hr.fz false g off u hu
        · exact wcell_cell hu
    · have : (encR qs y).2[k]? = none := by
        rcases hk with hk | hk
        · exact hk
        · exact absurd (hrow k _ hk) (by simp [Blk.isRow])
      rw [hnb] at this
      have hk2 := List.getElem?_eq_none_iff.1 this
      show ((ownIds h qs vs)[k]?).bind π = none
      rw [List.getElem?_eq_none (by rw [← e1]; exact hk2)]; rfl
    · rw [hnb] at hk
      obtain ⟨b, h1, h2, h3⟩ := e2 k blk hk
      obtain ⟨A, h4, h5⟩ := hr.live b blk h2 (by intro e; subst e; cases h3)
      exact ⟨A, by simp [π2, h1, h4], BR.rowMono h3 hle h5⟩
    · obtain ⟨b, h1, h2, h3, h4⟩ := hold k blk A hk hA
      obtain ⟨q1, q2, q3⟩ := hr.own b blk A h2 (isRow_owns h3) h4 g off hh
      refine ⟨q1, q2, fun x => ?_⟩
      cases x with
      | true => rfl
      | false =>
        have hno : ¬ Own g off := by
          rintro ⟨b', blk', A', g1, g2, g3, g4, g5⟩
          have hbb : b ≠ b' := fun e => hdis b (List.mem_of_getElem? h1) (e ▸ g1)
          exact hr.apart b b' blk blk' A A' h2 (isRow_owns h3) g2 g3 hbb h4 g4 g off hh g5
        show (match Φ false g off with | some u => some u | none => if Own g off then wcell w g off else none) = none
        rw [q3 false]; simp only [if_neg hno]
    · obtain ⟨b, h1, h2, h3, h4⟩ := hold k blk A hk hA
      obtain ⟨b', h1', h2', h3', h4'⟩ := hold k' blk' A' hk' hA'
      have hbb : b ≠ b' := by
        intro e; subst e
        obtain ⟨l1, g1⟩ := List.getElem?_eq_some_iff.1 h1
        obtain ⟨l2, g2⟩ := List.getElem?_eq_some_iff.1 h1'
        have hp := List.pairwise_iff_getElem.1 hnd
        rcases Nat.lt_trichotomy k k' with hlt | heq | hgt
        · exact hp _ _ l1 l2 hlt (g1.trans g2.symm)
        · exact hne heq
        · exact hp _ _ l2 l1 hgt (g2.trans g1.symm)
      exact hr.apart b b' blk blk' A A' h2 (isRow_owns h3) h2' (isRow_owns h3') hbb h4 h4' g off hh hh'
  · exact hback _ _ (e3 π2 fun k b A hb hA => by simp [π2, hb, hA])

/-- A call's end: what is handed over stays the caller's own; what else is referred to is frozen. -/
theorem freeze {F : Fz} (hr : HR Φ w1 π h w) (hF : FzOk F w1) (hx : Fr.ext w1.heap.size (lend F w1) Φ) {qs : List PT} {v : V} {y : PTs.D qs} {c : Value} (hd : decR qs v h = some y) (hv : VR Φ π v c) :
    ∃ F' π2, Fr.ext w1.heap.size (only F) (only F') ∧ HR (only F') w1 π2 (encR qs y).2 w ∧ VR (only F') π2 (encR qs y).1 c := by
  unfold decR at hd
  split at hd
  · rename_i vs hvs
    split at hd
    rename_i vs' h' hown
    split at hd
    · rename_i hok
      -- the components
      obtain ⟨cs, hcs, hback⟩ : ∃ cs, VRL Φ π vs cs ∧ ∀ (Θ : Fr) (π2 : Pi), VRL Θ π2 (encRL 0 qs y).1 cs → VR Θ π2 (encR qs y).1 c := by
        unfold V.spread at hvs
        split at hvs
        · cases hvs
          rename_i p
          refine ⟨[c], by simp only [VRL, and_true]; exact hv, fun Θ π2 h2 => ?_⟩
          simpa [encR, encRL, VRL] using h2
        · rename_i l hne
          cases hvs
          simp only [VR] at hv
          obtain ⟨cs, rfl, hcs⟩ := hv
          refine ⟨cs.toList, hcs, fun Θ π2 h2 => ?_⟩
          have : (encR qs y).1 = .tup (encRL 0 qs y).1 := by
            unfold encR
            split
            · exact absurd rfl (hne _)
            · simp_all
          rw [this]
          simp only [VR]
          exact ⟨cs, rfl, h2⟩
        · cases hvs
      obtain ⟨π', _, hr', hcs'⟩ := ownN_sound qs vs h π cs hr hcs
      rw [hown] at hr' hcs'
      exact freeze0 hr' hF hx hok hd hcs' hback
    · cases hd
  · cases hd

theorem HR.start {F : Fz} (hF : FzOk F w) (hB : BaseOk w) : HR (lend F w) w (fun _ => none) [] w :=
  ⟨fun x => by cases x; exact hF; exact fun g off u hu => hu, Below.refl _ _, hB, fun _ _ => rfl, fun b blk h => by simp at h, fun b blk A h => by simp at h, fun b b' blk blk' A A' h => by simp at h⟩

theorem specOk_mk {C : Cfg} (hC : CfgOk C) {g : FuncId} {ps qs : List PT} {F : FT ps qs} {fl d : Nat}
    (hF : ∀ (R : Type) (x : PTs.D ps) (k : PTs.D qs → Option R), call C fl d g (encL true ps x) [] (getR qs k) = F R x k) : SpecOk C.P g (mkS ps qs F) := by
  intro R args k r h
  simp only [mkS] at h
  split at h
  · rename_i x hx
    rw [← hF] at h
    obtain ⟨v, h', h3, h4⟩ := call_ok hC fl d _ _ _ _ _ h
    unfold getR at h3
    split at h3
    · rename_i y hy
      have hle : ∀ (F : Fz) (w : World), FzOk F w → true = true → (lend F w false).le (lend F w true) := fun F w hz _ g off u hu => hz g off u hu
      refine ⟨_, _, h3, encR_rows qs y, fun F w cargs hz hB ha => ?_⟩
      · refine (h4 (lend F w) w w (fun _ => none) cargs (HR.start hz hB) (decL_sound (hle F w hz) hx ha)).mono ?_
        rintro e w' ⟨cv, Φ', π', rfl, hxx, _, hr, hv⟩
        obtain ⟨F', π2, q1, q2, q3⟩ := freeze hr hz hxx hy hv
        exact ⟨cv, F', π2, rfl, q1, q2, q3⟩
    · cases h3
  · cases h

theorem cfgOk_nil {P : Program} {hints : FuncId → Nat → List Hint} (h1 : ∀ (g : FuncId) (fn : Func), P.funcs[g]? = some fn → (fn.name == "runtime.NumGoroutine") = false) (h2 : P.follows .mixedOrders = true) (h3 : (P.cutTypes.toList.all fun c => P.ownRow c) = true) : CfgOk (Cw P [] hints) :=
  ⟨h1, fun g sp h => by simp [Cw] at h, h2, fun _ => h3⟩
theorem cfgOk_cons {P : Program} {l : List (FuncId × Spec)} {hints : FuncId → Nat → List Hint} {g : FuncId} {sp : Spec} (h : CfgOk (Cw P l hints)) (hs : SpecOk P g sp) : CfgOk (Cw P ((g, sp) :: l) hints) := by
  refine ⟨h.noGo, fun g' sp' h' => ?_, h.mixed, h.packs⟩
  simp only [Cw, List.lookup_cons] at h'
  split at h'
  · rename_i he
    have : g' = g := by simpa using he
    subst this
    cases h'
    exact fun {R} => hs (R := R)
  · exact h.spec g' sp' h'

theorem law_true {C : Cfg} (hC : CfgOk C) {g : FuncId} {args : List V} {fl d : Nat} (h : call C fl d g args [] getL = some ())
    {w : World} {cargs : Array Value} (hB : BaseOk w) (ha : VRL (fun _ => snap w) (fun _ => none) args cargs.toList) : Calls C.P g cargs w fun e w' => e = .returned (.bool true) ∧ Below w.heap.size w w' := by
  obtain ⟨v, h', h1, h2⟩ := call_ok hC fl d _ _ _ _ _ h
  have hs : HR (fun _ => snap w) w (fun _ => none) [] w :=
    ⟨fun _ g off u hu => hu, Below.refl _ _, hB, fun _ _ => rfl, fun b blk h => by simp at h, fun b blk A h => by simp at h, fun b b' blk blk' A A' h => by simp at h⟩
  refine (h2 _ w w (fun _ => none) cargs hs ha).mono ?_
  rintro e w' ⟨cv, Φ', π', rfl, _, _, hr, hv⟩
  unfold getL at h1
  split at h1
  · simp only [VR] at hv
    subst hv
    rcases br_some h1 with ⟨rfl, _⟩ | ⟨_, h1⟩
    · exact ⟨rfl, hr.below⟩
    · cases h1
  · cases h1
end
end Go.Eng
