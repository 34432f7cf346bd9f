/- The engine, part Z: what a law's arguments read as, and how its row is closed. -/
import Derived.Test.YtdfelkcioeinfaaDoorEnwY
import Derived.WalkKit
import Derived.ProofKit
import Derived.OpenShut
import Derived.ShutString
import Derived.ChangeOld
import Derived.Below
import Derived.Carry
import Derived.SizedLaws
set_option linter.unusedVariables false
set_option linter.unusedSimpArgs false
namespace Go.Eng
open Go Go.RowKit Go.ChangeShapes Go.WideShapes Go.ChangeAt
open Go.ChangeMaps (open_string shut_string)

/-! ### types of the table -/
def fitsFields (P : Program) (rec : TypeId → Ty → Bool) : List Field → Nat → Ty → Bool
  | [], _, .unit => true
  | [f], o, T => f.offset == o && P.cellsOf f.type == T.size && rec f.type T
  | f :: g :: l, o, .prod a b => f.offset == o && P.cellsOf f.type == a.size && rec f.type a && fitsFields P rec (g :: l) (o + a.size) b
  | _, _, _ => false
/-- The bytes of an element, not counting what stands between its parts. -/
def Ty.bytes : Ty → Nat
  | .int k => k.bits / 8
  | .bool => 1
  | .str => 16
  | .unit => 0
  | .prod a b => a.bytes + b.bytes
  | .slice _ => 24
def fits (P : Program) : Nat → TypeId → Ty → Bool
  | 0, _, _ => false
  | n + 1, t, T => match P.underlying t with
    | some .bool => decide (T = .bool)
    | some (.int k) => decide (T = .int k)
    | some .string => decide (T = .str)
    | some (.slice e) => match T with
      | .slice T' => fits P n e T' && P.cellsOf e == T'.size && decide (0 < T'.size) && decide (T'.bytes ≤ P.bytesOf e)
      | _ => false
    | some (.struct fs) => P.cellsOf t == T.size && fitsFields P (fits P n) fs.toList 0 T
    | _ => false

/-- What a machine's value keeps of bounds. -/
def WfT : (t : Ty) → t.D → Prop
  | .int k, n => wfI k n
  | .bool, _ => True
  | .str, s => s.size ≤ maxLen
  | .unit, _ => True
  | .prod a b, x => WfT a x.1 ∧ WfT b x.2
  | .slice t, l => l.length ≤ maxLen ∧ ∀ x ∈ l, WfT t x
theorem TR.wf {F : Fz} : ∀ {t : Ty} {x : t.D} {cs : List Value}, TR F t x cs → WfT t x
  | .int k, x, cs, h => by simp only [TR] at h; exact h.2
  | .bool, x, cs, h => trivial
  | .str, x, cs, h => by simp only [TR] at h; exact h.2
  | .unit, x, cs, h => trivial
  | .prod a b, x, cs, h => by
    simp only [TR] at h
    obtain ⟨c1, c2, rfl, h1, h2⟩ := h
    exact ⟨TR.wf h1, TR.wf h2⟩
  | .slice t, x, cs, h => by
    simp only [TR] at h
    obtain ⟨a, cap, rfl, h1, h2, h3⟩ := h
    refine ⟨Nat.le_trans h1 h2, fun y hy => ?_⟩
    obtain ⟨i, hi, rfl⟩ := List.mem_iff_getElem.1 hy
    obtain ⟨g, off, rfl, h4⟩ := h3 (Nat.lt_of_le_of_lt (Nat.zero_le _) hi)
    obtain ⟨ds, h5, _⟩ := h4 i hi
    exact TR.wf h5

/-- What memory gives room for. -/
def SzT : (t : Ty) → t.D → Prop
  | .prod a b, x => SzT a x.1 ∧ SzT b x.2
  | .slice t, l => l.length * t.bytes ≤ reachBytes ∧ ∀ x ∈ l, SzT t x
  | _, _ => True
section
variable {H : Type} {enc : TypeId × Value → H} {P : Program} {w : World} {base : Nat} {spare : Nat → Bool} {held : Bool}
def fitW (P : Program) (t : TypeId) (d : DataW H) : Prop := (DataW.weights P t d).all (· ≤ reachBytes) = true
theorem weightsAll_get {e : TypeId} : ∀ {l : List (DataW H)}, (DataW.weightsAll P e l).all (· ≤ reachBytes) = true → ∀ {i : Nat} {d : DataW H}, l[i]? = some d → fitW P e d
  | [], _, i, d, h => by simp at h
  | x :: l, ha, 0, d, h => by
    simp only [DataW.weightsAll, List.all_append, Bool.and_eq_true] at ha
    simp at h; subst h; exact ha.1
  | x :: l, ha, i + 1, d, h => by
    simp only [DataW.weightsAll, List.all_append, Bool.and_eq_true] at ha
    exact weightsAll_get ha.2 (by simpa using h)
theorem weightsEach_get : ∀ {ts : List TypeId} {l : List (DataW H)}, (DataW.weightsEach P ts l).all (· ≤ reachBytes) = true → ∀ {i : Nat} {t : TypeId} {d : DataW H}, ts[i]? = some t → l[i]? = some d → fitW P t d
  | [], _, _, i, t, d, h, _ => by simp at h
  | _ :: _, [], _, i, t, d, _, h => by simp at h
  | t0 :: ts, x :: l, ha, 0, t, d, h1, h => by
    simp only [DataW.weightsEach, List.all_append, Bool.and_eq_true] at ha
    simp at h h1; subst h h1; exact ha.1
  | t0 :: ts, x :: l, ha, i + 1, t, d, h1, h => by
    simp only [DataW.weightsEach, List.all_append, Bool.and_eq_true] at ha
    exact weightsEach_get ha.2 (by simpa using h1) (by simpa using h)
theorem fields_TR {rec : TypeId → Ty → Bool} {cs : List Value} {B : Field → Prop} :
    ∀ (l : List Field) (o : Nat) (T : Ty), fitsFields P rec l o T = true → (∀ f ∈ l, ∀ T', rec f.type T' = true → ∃ y : T'.D, TR (snap w) T' y ((cs.drop f.offset).take (P.cellsOf f.type)) ∧ (B f → SzT T' y)) →
      cs.length = o + T.size → ∃ y : T.D, TR (snap w) T y (cs.drop o) ∧ ((∀ f ∈ l, B f) → SzT T y)
  | [], o, T, h, hr, hl => by
    cases T <;> simp [fitsFields] at h
    exact ⟨(), by simp only [TR]; exact List.drop_eq_nil_of_le (by simp [Ty.size] at hl; omega), fun _ => trivial⟩
  | [f], o, T, h, hr, hl => by
    simp only [fitsFields, Bool.and_eq_true, beq_iff_eq] at h
    obtain ⟨⟨h1, h2⟩, h3⟩ := h
    obtain ⟨y, hy, hB⟩ := hr f (by simp) T h3
    rw [h1, h2, List.take_of_length_le (by simp; omega)] at hy
    exact ⟨y, hy, fun h => hB (h f (by simp))⟩
  | f :: g :: l, o, T, h, hr, hl => by
    cases T <;> simp [fitsFields] at h
    rename_i a b
    obtain ⟨⟨⟨h1, h2⟩, h3⟩, h4⟩ := h
    obtain ⟨y, hy, hB⟩ := hr f (by simp) a h3
    rw [h1, h2] at hy
    obtain ⟨z, hz, hBz⟩ := fields_TR (g :: l) (o + a.size) b h4 (fun f' hf => hr f' (by simp only [List.mem_cons] at hf ⊢; exact .inr hf)) (by simp [Ty.size] at hl; omega)
    refine ⟨(y, z), ?_, fun h => ⟨hB (h f (by simp)), hBz fun f' hf => h f' (by simp only [List.mem_cons] at hf ⊢; exact .inr hf)⟩⟩
    simp only [TR]
    refine ⟨_, _, ?_, hy, hz⟩
    rw [← List.drop_drop, List.take_append_drop]
theorem trod_TR : ∀ (n : Nat) (t : TypeId) (T : Ty), fits P n t T = true → ∀ (fuel : Nat) (cs : List Value) (x : DataW H × List MemPlace),
    DataW.trod enc P w base spare held fuel t cs = some x → ∃ y : T.D, TR (snap w) T y cs ∧ (fitW P t x.1 → SzT T y)
  | 0, t, T, h, _, _, _, _ => by simp [fits] at h
  | n + 1, t, T, h, fuel, cs, x, hx => by
    unfold fits at h
    split at h
    · rename_i ht
      obtain rfl := of_decide_eq_true h
      obtain ⟨b, rfl, _⟩ := DataW.trod_bool ht hx
      exact ⟨b, by simp [TR], fun _ => trivial⟩
    · rename_i k ht
      obtain rfl := of_decide_eq_true h
      obtain ⟨b, rfl, _, hw⟩ := DataW.trod_int ht hx
      exact ⟨b, show _ = _ ∧ _ from ⟨rfl, hw⟩, fun _ => trivial⟩
    · rename_i ht
      obtain rfl := of_decide_eq_true h
      obtain ⟨b, rfl, _, hw⟩ := DataW.trod_string ht hx
      exact ⟨b, show _ = _ ∧ _ from ⟨rfl, hw⟩, fun _ => trivial⟩
    · rename_i e ht
      split at h
      · rename_i T'
        simp only [Bool.and_eq_true, beq_iff_eq, decide_eq_true_eq] at h
        obtain ⟨⟨⟨h1, h2⟩, h3⟩, h4b⟩ := h
        rcases DataW.trod_slice ht hx with ⟨rfl, _⟩ | ⟨a, len, cap, elems, rest, m, rfl, rfl, hxe, _, hl, hm, hlen, hel, _⟩
        · exact ⟨[], by simp only [TR]; exact ⟨none, 0, rfl, Nat.le_refl _, by simp [maxLen], fun h => by simp at h⟩, fun _ => by simp [SzT]⟩
        · have key : ∀ i : Fin len, ∃ y : T'.D, (∀ d, elems[i.1]? = some d → fitW P e d.1 → SzT T' y) ∧ ∃ ds, TR (snap w) T' y ds ∧ a.spot = none ∧ a.block < w.heap.size ∧ ∀ j u, ds[j]? = some u → w.cell? ⟨a.block, a.off + (i * T'.size + j), none⟩ = some u := by
            intro ⟨i, hi⟩
            have h4 := hel i hi
            have h5 : elems[i]? = some elems[i] := List.getElem?_eq_getElem (by omega)
            rw [h5] at h4
            cases hc : w.cells? base (a.add (i * P.cellsOf e)) (P.cellsOf e) with
            | none => rw [hc] at h4; simp at h4
            | some ds =>
              rw [hc] at h4
              simp only [Option.bind_some] at h4
              obtain ⟨y, hy, hsy⟩ := trod_TR n e T' h1 m ds _ h4
              obtain ⟨_, hdl, hat⟩ := World.cells?_some hc
              rw [h2] at hdl hat
              have hspot : a.spot = none ∧ a.block < w.heap.size := by
                have h6 := hel 0 (by omega)
                have h7 : elems[0]? = some elems[0] := List.getElem?_eq_getElem (by omega)
                rw [h7] at h6
                cases hc0 : w.cells? base (a.add (0 * P.cellsOf e)) (P.cellsOf e) with
                | none => rw [hc0] at h6; simp at h6
                | some d0 =>
                  obtain ⟨_, hdl0, hat0⟩ := World.cells?_some hc0
                  have h8 := hat0 0 (by omega)
                  have h9 : d0[0]? = some d0[0] := List.getElem?_eq_getElem (by omega)
                  rw [h9] at h8
                  simp only [Nat.zero_mul, Addr.add, if_true, World.cell?] at h8
                  split at h8
                  · rename_i hb
                    split at h8
                    · cases h8
                    · rename_i hsp
                      exact ⟨by simpa using hsp, (Array.getElem?_eq_some_iff.1 hb).1⟩
                  · cases h8
              refine ⟨y, fun d hd hw => hsy (by rw [h5] at hd; cases hd; exact hw), ds, hy, hspot.1, hspot.2, fun j u hu => ?_⟩
              have hj : j < ds.length := (List.getElem?_eq_some_iff.1 hu).1
              have h6 := hat j (by omega)
              rw [hu] at h6
              rw [← h6]
              obtain ⟨ab, ao, asp⟩ := a
              simp only at hspot
              obtain ⟨rfl, _⟩ := hspot
              simp only [Addr.add, h2]
              by_cases hz : i * T'.size = 0 <;> by_cases hj0 : j = 0 <;> simp [hz, hj0, Nat.add_assoc]
          refine ⟨List.ofFn fun i : Fin len => (key i).choose, ?_, fun hW => ?_⟩
          rotate_left
          · unfold fitW at hW
            rw [hxe] at hW
            simp only [DataW.weights, ht, List.all_cons, List.all_append, Bool.and_eq_true, decide_eq_true_eq, List.length_map] at hW
            simp only [SzT, List.length_ofFn]
            refine ⟨Nat.le_trans (Nat.mul_le_mul (show len ≤ elems.length + rest.length by omega) h4b) hW.1, fun y hy => ?_⟩
            obtain ⟨i, rfl⟩ := List.mem_ofFn.1 hy
            have hi' : i.1 < elems.length := by have := i.2; omega
            exact (key i).choose_spec.1 elems[i.1] (List.getElem?_eq_getElem hi') (weightsAll_get hW.2.1 (i := i.1) (by simp [List.getElem?_eq_getElem hi']))
          simp only [TR]
          refine ⟨some a, cap, by simp, by simpa using hl, hm, fun h0 => ?_⟩
          rw [List.length_ofFn] at h0
          obtain ⟨_, _, _, hs, hb, _⟩ := (key ⟨0, h0⟩).choose_spec
          obtain ⟨ab, ao, asp⟩ := a
          simp only at hs hb
          subst hs
          refine ⟨ab, ao, rfl, fun i hi => ?_⟩
          rw [List.length_ofFn] at hi
          obtain ⟨_, ds, hd, _, _, hu⟩ := (key ⟨i, hi⟩).choose_spec
          exact ⟨ds, by rw [List.getElem_ofFn]; exact hd, hu⟩
      · cases h
    · rename_i fs ht
      simp only [Bool.and_eq_true, beq_iff_eq] at h
      obtain ⟨h1, h2⟩ := h
      obtain ⟨xs, m, rfl, rfl, hcl, hxl, hf⟩ := DataW.trod_struct ht hx
      have := fields_TR (w := w) (P := P) (rec := fits P n) (cs := cs) (B := fun f => ∀ (i : Nat) (d : DataW H × List MemPlace), fs[i]? = some f → xs[i]? = some d → fitW P f.type d.1) fs.toList 0 T h2 (fun f hfm T' hr => by
        obtain ⟨i, hi, hfi⟩ := List.mem_iff_getElem.1 hfm
        have hi' : i < fs.size := by simpa using hi
        have h3 := hf i f (by rw [Array.getElem?_eq_getElem hi']; simpa using hfi)
        have h4 : xs[i]? = some xs[i] := List.getElem?_eq_getElem (by omega)
        rw [h4] at h3
        obtain ⟨y, hy, hsy⟩ := trod_TR n f.type T' hr m _ _ h3
        exact ⟨y, hy, fun hB => hsy (hB i _ (by rw [Array.getElem?_eq_getElem hi']; simpa using hfi) h4)⟩) (by omega)
      obtain ⟨y, hy, hsy⟩ := this
      refine ⟨y, by simpa using hy, fun hW => hsy fun f hfm i d hi hd => ?_⟩
      unfold fitW at hW
      simp only [DataW.weights, ht] at hW
      exact weightsEach_get hW (i := i) (by simp [hi]) (by simp [hd])
    · cases h

def fitsP (P : Program) (n : Nat) (t : TypeId) : PT → Bool
  | .one T => fits P n t T && match P.underlying t with
    | some (.struct _) => false
    | _ => true
  | .agg T => fits P n t T && match P.underlying t with
    | some (.struct _) => true
    | _ => false
  | _ => false
def SzP : (p : PT) → p.D → Prop
  | .one t, x => SzT t x
  | .agg t, x => SzT t x
  | .own _, _ => True
  | .owns _, _ => True
def WfP : (p : PT) → p.D → Prop
  | .one t, x => WfT t x
  | .agg t, x => WfT t x
  | .own _, _ => True
  | .owns _, _ => True
theorem arg_VR {n : Nat} {t : TypeId} {p : PT} (hf : fitsP P n t p = true) {r : Reach} {b0 : Nat} {v : Value} (hv : Value.okWide P w r b0 t v) {d : DataW H} {ps : List MemPlace}
    (hd : DataW.Trod enc P w base spare held t v d ps) : ∃ x : p.D, (∀ π, VR (fun _ => snap w) π (encP false p x) v) ∧ WfP p x ∧ (fitW P t d → SzP p x) := by
  obtain ⟨fuel, hx⟩ := hd
  cases p with
  | one T =>
    simp only [fitsP, Bool.and_eq_true] at hf
    obtain ⟨h1, h2⟩ := hf
    have h1' := h1
    obtain ⟨y, hy, hsy⟩ := trod_TR n t T h1 _ _ _ hx
    have hcs : v.cells.toList = [v] := by
      cases n with
      | zero => simp [fits] at h1
      | succ n =>
        unfold fits at h1
        split at h1
        · rename_i ht; obtain ⟨b, rfl⟩ := okWide_bool ht hv; rfl
        · rename_i ht; obtain ⟨b, rfl⟩ := okWide_int ht hv; rfl
        · rename_i ht; obtain ⟨b, rfl⟩ := okWide_string ht hv; rfl
        · rename_i ht; obtain ⟨a, l, c, rfl⟩ := okWide_slice ht hv; rfl
        · rename_i ht; rw [ht] at h2; simp at h2
        · cases h1
    rw [hcs] at hy
    refine ⟨y, fun π => ?_, hy.wf, hsy⟩
    have h3 := TR.vs (Φ := fun _ => snap w) (π := π) (w := false) hy
    simp only [encP]
    split
    · rename_i u hu; rw [hu] at h3; simpa [VRL] using h3
    · simp [VR]
  | agg T =>
    simp only [fitsP, Bool.and_eq_true] at hf
    obtain ⟨h1, h2⟩ := hf
    obtain ⟨y, hy, hsy⟩ := trod_TR n t T h1 _ _ _ hx
    split at h2
    · rename_i fs ht
      obtain ⟨cs, rfl, _⟩ := okWide_struct ht hv
      exact ⟨y, fun π => by simp only [encP, VR]; exact ⟨cs, rfl, TR.vs (Φ := fun _ => snap w) (w := false) hy⟩, hy.wf, hsy⟩
    · cases h2
  | own T => simp [fitsP] at hf
  | owns T => simp [fitsP] at hf

def fitsL (P : Program) (n : Nat) : List TypeId → List PT → Bool
  | [], [] => true
  | t :: ts, p :: ps => fitsP P n t p && fitsL P n ts ps
  | _, _ => false
def WfL : (ps : List PT) → PTs.D ps → Prop
  | [], _ => True
  | [p], x => WfP p x
  | p :: q :: r, x => WfP p x.1 ∧ WfL (q :: r) x.2
def SzL : (ps : List PT) → PTs.D ps → Prop
  | [], _ => True
  | [p], x => SzP p x
  | p :: q :: r, x => SzP p x.1 ∧ SzL (q :: r) x.2
theorem args_VRL {n : Nat} {r : Reach} {b0 : Nat} : ∀ {ts : List TypeId} {ps : List PT} {vs : List Value} {ds : List (DataW H)} {p : List MemPlace}, fitsL P n ts ps = true →
    (∀ (j : Nat) t v, ts[j]? = some t → vs[j]? = some v → Value.okWide P w r b0 t v) → DataW.TrodAll enc P w base spare held ts vs ds p →
    ∃ x : PTs.D ps, (∀ π, VRL (fun _ => snap w) π (encL false ps x) vs) ∧ WfL ps x ∧ ((∀ (i : Nat) (t : TypeId) (d : DataW H), ts[i]? = some t → ds[i]? = some d → fitW P t d) → SzL ps x)
  | [], [], vs, ds, p, hf, hv, hd => by
    obtain ⟨rfl, rfl, rfl⟩ := trodAll_nil hd
    exact ⟨(), fun π => by simp [encL, VRL], trivial, fun _ => trivial⟩
  | [t], [q], vs, ds, p, hf, hv, hd => by
    obtain ⟨v, vs, d, ds, p, p', rfl, rfl, rfl, h1, h2⟩ := trodAll_cons hd
    obtain ⟨rfl, rfl, rfl⟩ := trodAll_nil h2
    simp only [fitsL, Bool.and_eq_true] at hf
    obtain ⟨x, hx, hw, hs⟩ := arg_VR hf.1 (hv 0 t v rfl rfl) h1
    exact ⟨x, fun π => by simp only [encL, VRL, and_true]; exact hx π, hw, fun h => hs (h 0 t d rfl rfl)⟩
  | t :: t' :: ts, q :: q' :: ps, vs, ds, p, hf, hv, hd => by
    obtain ⟨v, vs, d, ds, p, p', rfl, rfl, rfl, h1, h2⟩ := trodAll_cons hd
    rw [fitsL, Bool.and_eq_true] at hf
    obtain ⟨x, hx, hw, hs⟩ := arg_VR hf.1 (hv 0 t v rfl rfl) h1
    obtain ⟨y, hy, hz, hsz⟩ := args_VRL hf.2 (fun j t v h3 h4 => hv (j + 1) t v (by simpa using h3) (by simpa using h4)) h2
    exact ⟨(x, y), fun π => by simp only [encL, VRL]; exact ⟨hx π, hy π⟩, ⟨hw, hz⟩, fun h => ⟨hs (h 0 t d rfl rfl), hsz fun i t d h1 h2 => h (i + 1) t d (by simpa using h1) (by simpa using h2)⟩⟩
  | [], _ :: _, _, _, _, hf, _, _ => by simp [fitsL] at hf
  | _ :: _, [], _, _, _, hf, _, _ => by simp [fitsL] at hf
  | [t], _ :: _ :: _, _, _, _, hf, _, _ => by simp [fitsL] at hf
  | _ :: _ :: _, [_], _, _, _, hf, _, _ => by simp [fitsL] at hf

theorem trodAll_back (hl : laidOutB P = true) {W W' : World} (hb : Below W.heap.size W W') : ∀ {ts : List TypeId} {vs : List Value} {ds : List (DataW H)} {p : List MemPlace},
    (ts.all fun t => P.readableRec t && decide (t < P.types.size)) = true → DataW.TrodAll enc P W 0 (fun _ => true) true ts vs ds p →
    DataW.TrodAll enc P W' 0 (fun b => decide (b < W.heap.size)) true ts vs ds p
  | [], vs, ds, p, hr, h => by obtain ⟨rfl, rfl, rfl⟩ := trodAll_nil h; exact trodAll_mk0
  | t :: ts, vs, ds, p, hr, h => by
    obtain ⟨v, vs, d, ds, p, p', rfl, rfl, rfl, h1, h2⟩ := trodAll_cons h
    simp only [List.all_cons, Bool.and_eq_true, decide_eq_true_eq] at hr
    refine trodAll_cons_mk (Below.trod hl hr.1.1 hr.1.2 h1 hb ?_) (trodAll_back hl hb (by simpa using hr.2) h2)
    obtain ⟨m, hm⟩ := h1
    exact DataW.trod_lt m _ _ _ hm
theorem trodAll_len : ∀ {ts : List TypeId} {vs : List Value} {ds : List (DataW H)} {p : List MemPlace}, DataW.TrodAll enc P w base spare held ts vs ds p → ds.length = ts.length
  | [], vs, ds, p, h => by obtain ⟨rfl, rfl, rfl⟩ := trodAll_nil h; rfl
  | t :: ts, vs, ds, p, h => by
    obtain ⟨v, vs, d, ds, p, p', rfl, rfl, rfl, h1, h2⟩ := trodAll_cons h
    simp [trodAll_len h2]
end

theorem noGo_of {P : Program} (h : (P.funcs.toList.all fun fn => !(fn.name == "runtime.NumGoroutine")) = true) : ∀ (g : FuncId) (fn : Func), P.funcs[g]? = some fn → (fn.name == "runtime.NumGoroutine") = false := by
  intro g fn hg
  rw [List.all_eq_true] at h
  have := h fn (by rw [Array.mem_toList_iff]; exact Array.mem_of_getElem? hg)
  simpa using this
/-- What a law's row asks, out of its equation. -/
theorem law_contract {P : Program} {f : FuncId} {fn : Func} {s : ChangeSpec} {ps : List PT} {rt : TypeId} {n : Nat}
    (hfit : fitsL P n fn.params.toList ps = true) (hres : fn.resultTypes = #[rt]) (hrt : P.underlying rt = some .bool) (hl : laidOutB P = true)
    (hr : (fn.params.toList.all fun t => P.readableRec t && decide (t < P.types.size)) = true) (hvars : s.vars = [])
    (hs : ∀ (H : Type) (ds : List (DataW H)), ds.length = fn.params.toList.length → s.fn H ds = { results := [.lit (.bool true)], args := ds })
    (hlaw : ∀ x : PTs.D ps, WfL ps x → SzL ps x → ∃ (C : Cfg) (fl d : Nat), CfgOk C ∧ C.P = P ∧ call C fl d f (encL false ps x) [] getL = some ())
    {H : Type} {enc : TypeId × Value → H} (W : World) (base : Nat) (args : Array Value) (ds gs : List (DataW H)) (before : List MemPlace)
    (hval : ∀ (j : Nat) t v, fn.params[j]? = some t → args[j]? = some v → Value.okWide P W .any base t v)
    (hW : DataW.Whole enc P fn.params.toList s.vars false W args.toList ds gs before)
    (hz : (DataW.weightsEach P (fn.params.toList ++ s.plain.varTypes P) (ds ++ gs)).all (· ≤ reachBytes) = true) (hB : BaseOk W) :
    Calls P f args W fun e W' => ∃ v, e = .returned v ∧ s.post enc P fn false true false false W args v W' := by
  have hW' := hW
  obtain ⟨p, q, hA, hV, rfl, hfz, hnd⟩ := hW
  rw [hvars] at hV
  obtain ⟨rfl, rfl⟩ := trodVars_none hV
  obtain ⟨x, hx, hw, hs2⟩ := args_VRL hfit (fun j t v h1 h2 => hval j t v (by simpa using h1) (by simpa using h2)) hA
  obtain ⟨C, fl, d, hC, rfl, he⟩ := hlaw x hw (hs2 fun i t d h1 h2 => weightsEach_get hz (i := i) (by
    rw [List.getElem?_append_left (List.getElem?_eq_some_iff.1 h1).1]; exact h1) (by
    rw [List.getElem?_append_left (List.getElem?_eq_some_iff.1 h2).1]; exact h2))
  refine (law_true hC he hB (hx _)).mono ?_
  rintro e W' ⟨rfl, bel⟩
  refine ⟨_, rfl, ds, [], _, [], p, [], hW', ?_, ?_, ?_, bel.frame _, fun h => by cases h⟩
  · rw [hs H _ (by rw [List.append_nil]; exact trodAll_len hA), hres]
    exact trodAll_mk1 (shut_bool hrt _)
  · rw [hs H _ (by rw [List.append_nil]; exact trodAll_len hA), List.append_nil]
    exact trodAll_back hl bel hr hA
  · rw [hs H _ (by rw [List.append_nil]; exact trodAll_len hA), hvars]
    rfl
end Go.Eng
