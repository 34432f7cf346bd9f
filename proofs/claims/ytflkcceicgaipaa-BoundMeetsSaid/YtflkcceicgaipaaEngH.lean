/- The engine, part H: calls, and every operation. -/
import Derived.Test.YtflkcceicgaipaaEngG
set_option linter.unusedVariables false
set_option linter.unusedSimpArgs false
namespace Go.Eng
open Go Go.RowKit

section
variable {w0 w w1 : World} {π : Pi} {P : Program} {h : List Blk} {slot : Nat} {v : V} {u : Upd}

mutual
theorem VR.shift {π' : Pi} {n : Nat} (hs : ∀ b g, π b = some g → π' (n + b) = some g) : ∀ {x : V} {c : Value}, VR w0 π x c → VR w0 π' (V.shift n x) c
  | .any, _, _ => by simp [VR, V.shift]
  | .bool b, v, hv => by simpa [VR, V.shift] using hv
  | .int k m, v, hv => by simpa [VR, V.shift] using hv
  | .str s, v, hv => by simpa [VR, V.shift] using hv
  | .ptr b off, v, hv => by simp only [VR, V.shift] at hv ⊢; obtain ⟨g, hg, e⟩ := hv; exact ⟨g, hs _ _ hg, e⟩
  | .nilp, v, hv => by simpa [VR, V.shift] using hv
  | .ro t l, v, hv => by simpa only [VR, V.shift] using hv
  | .rop t x off, v, hv => by simpa only [VR, V.shift] using hv
  | .sl _ _ _, v, hv => by simp [VR] at hv
  | .slp _ _ _, v, hv => by simp [VR] at hv
  | .nsl, v, hv => by simpa [VR, V.shift] using hv
  | .fn f c, v, hv => by simp only [VR, V.shift] at hv ⊢; obtain ⟨cs, e, hc⟩ := hv; exact ⟨cs, e, VRL.shift hs hc⟩
  | .nilf, v, hv => by simpa [VR, V.shift] using hv
  | .iface t x, v, hv => by simp only [VR, V.shift] at hv ⊢; obtain ⟨u, e, hc⟩ := hv; exact ⟨u, e, VR.shift hs hc⟩
  | .nili, v, hv => by simpa [VR, V.shift] using hv
  | .agg l, v, hv => by simp only [VR, V.shift] at hv ⊢; obtain ⟨cs, e, hc⟩ := hv; exact ⟨cs, e, VRL.shift hs hc⟩
  | .tup l, v, hv => by simp only [VR, V.shift] at hv ⊢; obtain ⟨cs, e, hc⟩ := hv; exact ⟨cs, e, VRL.shift hs hc⟩
  | .map b, v, hv => by simp only [VR, V.shift] at hv ⊢; obtain ⟨g, hg, e⟩ := hv; exact ⟨g, hs _ _ hg, e⟩
theorem VRL.shift {π' : Pi} {n : Nat} (hs : ∀ b g, π b = some g → π' (n + b) = some g) : ∀ {l : List V} {m : List Value}, VRL w0 π l m → VRL w0 π' (V.shifts n l) m
  | [], [], _ => by simp [VRL, V.shifts]
  | x :: l, v :: m, hv => by simp only [VRL, V.shifts] at hv ⊢; exact ⟨VR.shift hs hv.1, VRL.shift hs hv.2⟩
  | [], _ :: _, hv => by simp [VRL] at hv
  | _ :: _, [], hv => by simp [VRL] at hv
end
theorem BR.shift {π' : Pi} {n g : Nat} {blk : Blk} (hs : ∀ b g, π b = some g → π' (n + b) = some g) (hb : BR w0 π w g blk) : BR w0 π' w g (blk.shift n) := by
  cases blk with
  | cells t c =>
    simp only [BR, Blk.shift] at hb ⊢
    obtain ⟨cs, h1, h2⟩ := hb
    exact ⟨cs, h1, VRL.shift hs h2⟩
  | free => exact hb
  | dead => trivial
  | row => exact hb
  | map => exact hb

theorem setN_length : ∀ (nb : List Blk) (h : List Blk) (i : Nat), (setN h i nb).length = h.length
  | [], h, i => rfl
  | b :: nb, h, i => by simp only [setN]; rw [setN_length]; simp
theorem setN_get : ∀ (nb : List Blk) (h : List Blk) (i b : Nat), i + nb.length ≤ h.length → (setN h i nb)[b]? = if i ≤ b ∧ b < i + nb.length then nb[b - i]? else h[b]?
  | [], h, i, b, hl => by simp [setN]; intro h1 h2; omega
  | x :: nb, h, i, b, hl => by
    simp only [List.length_cons] at hl
    simp only [setN]
    rw [setN_get nb _ _ _ (by simp; omega)]
    by_cases h1 : i + 1 ≤ b ∧ b < i + 1 + nb.length
    · rw [if_pos h1, if_pos (by simp; omega)]
      have : b - i = (b - (i + 1)) + 1 := by omega
      rw [this]; simp
    · rw [if_neg h1]
      by_cases h2 : b = i
      · subst h2
        rw [if_pos (by simp)]
        rw [List.getElem?_set_self (by omega)]; simp
      · rw [if_neg (by simp; omega), List.getElem?_set_ne (by omega)]
theorem allFree_get : ∀ (n i : Nat), allFree h i n = true → ∀ j, j < n → h[i + j]? = some .free
  | 0, i, _, j, hj => by omega
  | n + 1, i, hf, j, hj => by
    simp only [allFree, Bool.and_eq_true] at hf
    cases j with
    | zero => simpa using isFree_iff.1 hf.1
    | succ j => have := allFree_get n (i + 1) hf.2 j (by omega); rw [← this]; congr 1; omega

theorem HR.news {π2 : Pi} {nb : List Blk} {w' : World} (hr : HR w0 w1 π h w) (hf : allFree h slot nb.length = true) (hc : HR w0 w π2 nb w') :
    ∃ π', π.le π' ∧ HR w0 w1 π' (setN h slot (nb.map (Blk.shift slot))) w' ∧ ∀ b g, π2 b = some g → π' (slot + b) = some g := by
  have hall := allFree_get _ _ hf
  have hlen : slot + nb.length ≤ h.length ∨ nb.length = 0 := by
    rcases Nat.eq_zero_or_pos nb.length with h0 | h0
    · exact .inr h0
    · have := hall (nb.length - 1) (by omega)
      have := (List.getElem?_eq_some_iff.1 this).1
      omega
  have hbelow : Below w1.heap.size w1 w' := hr.below.trans (hc.below.mono hr.below.size)
  rcases hlen with hlen | h0
  case inr =>
    have : nb = [] := List.length_eq_zero_iff.1 h0
    subst this
    have hp2 : ∀ b, π2 b = none := fun b => hc.free b (.inl (by simp))
    refine ⟨π, fun _ _ h => h, ⟨hr.base, hbelow, hr.free, fun b blk hb hne => ?_, hr.inj⟩, fun b g hg => by rw [hp2 b] at hg; cases hg⟩
    obtain ⟨g, h1, h2, h3, h4⟩ := hr.live b blk hb hne
    exact ⟨g, h1, h2, Nat.lt_of_lt_of_le h3 hc.below.size, BR.mono (fun _ _ h => h) (hc.below.block g h3) h4⟩
  let π' : Pi := fun b => if slot ≤ b ∧ b < slot + nb.length then π2 (b - slot) else π b
  have hp : ∀ b g, π2 b = some g → π' (slot + b) = some g := by
    intro b g hg
    have hb : b < nb.length := by
      rcases Nat.lt_or_ge b nb.length with h' | h'
      · exact h'
      · rw [hc.free b (.inl (List.getElem?_eq_none h'))] at hg; cases hg
    show (if slot ≤ slot + b ∧ slot + b < slot + nb.length then π2 (slot + b - slot) else π (slot + b)) = some g
    rw [if_pos ⟨by omega, by omega⟩, Nat.add_sub_cancel_left]
    exact hg
  have hle : π.le π' := by
    intro b g hg
    show (if slot ≤ b ∧ b < slot + nb.length then π2 (b - slot) else π b) = some g
    rw [if_neg]
    · exact hg
    · rintro ⟨h1, h2⟩
      have := hall (b - slot) (by omega)
      rw [show slot + (b - slot) = b by omega] at this
      rw [hr.free b (.inr this)] at hg; cases hg
  refine ⟨π', hle, ⟨hr.base, hbelow, fun b hb => ?_, fun b blk hb hne => ?_, fun b b' g hg hg' => ?_⟩, hp⟩
  · rw [setN_get _ _ _ _ (by simpa using hlen)] at hb
    show (if slot ≤ b ∧ b < slot + nb.length then π2 (b - slot) else π b) = none
    simp only [List.length_map] at hb
    split
    · rename_i hin
      rw [if_pos hin] at hb
      refine hc.free _ ?_
      rw [List.getElem?_map] at hb
      cases hx : nb[b - slot]? with
      | none => exact .inl rfl
      | some x =>
        rw [hx] at hb
        rcases hb with hb | hb
        · cases hb
        · simp only [Option.map_some, Option.some.injEq] at hb
          cases x <;> simp [Blk.shift] at hb
          exact .inr rfl
    · rename_i hin
      rw [if_neg hin] at hb
      exact hr.free b hb
  · rw [setN_get _ _ _ _ (by simpa using hlen)] at hb
    simp only [List.length_map] at hb
    split at hb
    · rename_i hin
      rw [List.getElem?_map] at hb
      cases hx : nb[b - slot]? with
      | none => rw [hx] at hb; cases hb
      | some x =>
        rw [hx] at hb
        simp only [Option.map_some, Option.some.injEq] at hb
        subst hb
        obtain ⟨g, h1, h2, h3, h4⟩ := hc.live _ _ hx (by intro e; subst e; exact hne rfl)
        refine ⟨g, ?_, Nat.le_trans hr.below.size h2, h3, BR.shift hp h4⟩
        have := hp _ _ h1
        rwa [show slot + (b - slot) = b by omega] at this
    · obtain ⟨g, h1, h2, h3, h4⟩ := hr.live b blk hb hne
      exact ⟨g, hle _ _ h1, h2, Nat.lt_of_lt_of_le h3 hc.below.size, BR.mono hle (hc.below.block g h3) h4⟩
  · have e1 : (if slot ≤ b ∧ b < slot + nb.length then π2 (b - slot) else π b) = some g := hg
    have e2 : (if slot ≤ b' ∧ b' < slot + nb.length then π2 (b' - slot) else π b') = some g := hg'
    split at e1 <;> split at e2
    · have := hc.inj _ _ _ e1 e2; omega
    · have := hc.ge e1; have := hr.lt e2; omega
    · have := hr.lt e1; have := hc.ge e2; omega
    · exact hr.inj _ _ _ e1 e2

structure CfgOk (C : Cfg) : Prop where
  noGo : ∀ (g : FuncId) (fn : Func), C.P.funcs[g]? = some fn → (fn.name == "runtime.NumGoroutine") = false
  spec : ∀ g sp, C.spec g = some sp → SpecOk C.P g sp
  mixed : C.P.follows .mixedOrders = true

theorem VRL.map {ρ : Operand → V} {ρ' : Operand → Value} : ∀ (l : List Operand), (∀ x ∈ l, VR w0 π (ρ x) (ρ' x)) → VRL w0 π (l.map ρ) (l.map ρ')
  | [], _ => by simp [VRL]
  | x :: l, h => by simp only [List.map, VRL]; exact ⟨h x (by simp), VRL.map l fun y hy => h y (by simp [hy])⟩

theorem call_run {C : Cfg} (hC : CfgOk C) {g : FuncId} (hb : ((C.P.funcs[g]?).bind (·.body)).isSome = true) (args : Array Value) (w : World) : (callFunc g args).run C.P w = .ok (.enter g args) w := by
  cases hf : C.P.funcs[g]? with
  | none => simp [hf] at hb
  | some fn =>
    have h1 := hC.noGo g fn hf
    have h2 : fn.body.isNone = false := by
      rw [hf] at hb
      cases hx : fn.body with
      | none => simp [hx] at hb
      | some c => rfl
    simp only [callFunc, Sem.run_bind, run_program, Result.andThen_ok, hf, h1, h2, Bool.false_eq_true, if_false, Sem.run_pure]

theorem call_sound {C : Cfg} (hC : CfgOk C) {a : Go.Act} {o : Oper} {f : V} {fo : Operand} {xs : Array Operand} {ts : Array TypeId} {args : List V} (ho : o.op = .call { callee := .value fo, args := xs, argTypes := ts })
    (hr : HR w0 w1 π h w) (hf : VR w0 π f (a.eval fo)) (ha : VRL w0 π args (xs.toList.map a.eval)) (he : EffTo C.P slot h (callAct C f args) v u) : Good C.P o a w (Post w0 w1 π h v u) := by
  unfold callAct at he
  split at he
  case h_2 => exact he.elim
  rename_i g cap
  simp only [VR] at hf
  obtain ⟨cs, hfv, hcs⟩ := hf
  split at he
  · exact he.elim
  rename_i hb
  have hb' : ((C.P.funcs[g]?).bind (·.body)).isSome = true := by
    cases hx : ((C.P.funcs[g]?).bind (·.body)).isSome with
    | true => rfl
    | false => exact absurd (by rw [hx]; rfl) hb
  have hrun : (execOp a.eval o).run C.P w = .ok (.enter g (#[] ++ xs.map a.eval ++ cs)) w := by
    have : execOp a.eval o = (do let d ← resolve a.eval { callee := .value fo, args := xs, argTypes := ts } o.type; invoke d.target d.args) := by simp only [execOp, ho]
    rw [this]
    simp only [resolve, hfv, Deferred.ofValue, pure_bind, invoke]
    exact call_run hC hb' _ w
  have hargs : VRL w0 π (args ++ cap) (#[] ++ xs.map a.eval ++ cs).toList := by
    simp only [Array.toList_append, Array.toList_map]
    exact VRL.append ha hcs
  split at he
  · rename_i sp hsp
    split at he
    · rename_i hrefs
      obtain ⟨v0, nb, hcall, hlen, hfree, rfl, rfl⟩ := he
      have hrefs' : V.refsL (args ++ cap) = [] := by simpa using hrefs
      refine Good.enter hrun ((hcall w0 w _ (hr.base.trans (hr.below.mono hr.base.size)) (VRL.noRefs hrefs' hargs)).mono ?_)
      rintro e w' ⟨cv, π2, rfl, hc, hv⟩
      obtain ⟨π', hle, hhr, hp⟩ := HR.news hr (by rw [hlen]; exact hfree) hc
      exact ⟨cv, rfl, π', hle, by simpa [Upd.on] using hhr, VR.shift hp hv⟩
    · obtain ⟨h', hent, rfl⟩ := he
      refine Good.enter hrun ((hent w0 w1 w π _ hr hargs).mono ?_)
      rintro e w' ⟨cv, π2, rfl, hle, hc, hv⟩
      exact ⟨cv, rfl, π2, hle, by simpa [Upd.on] using hc, hv⟩
  · obtain ⟨h', hent, rfl⟩ := he
    refine Good.enter hrun ((hent w0 w1 w π _ hr hargs).mono ?_)
    rintro e w' ⟨cv, π2, rfl, hle, hc, hv⟩
    exact ⟨cv, rfl, π2, hle, by simpa [Upd.on] using hc, hv⟩

theorem builtin_sound {C : Cfg} {a : Go.Act} {dst : Option Tmp} {b : Builtin} {xs : Array Operand} {ts : Array TypeId} {ty : TypeId} {pos : String} {after : Array Edge} {guard : Option (Nat × Bool)} {args : List V}
    (hr : HR w0 w1 π h w) (ha : VRL w0 π args (xs.toList.map a.eval)) (he : EffTo C.P slot h (builtinAct C.P b ts.toList args) v u) :
    Good C.P { dst, op := .call { callee := .builtin b, args := xs, argTypes := ts }, type := ty, pos, after, guard } a w (Post w0 w1 π h v u) := by
  unfold builtinAct at he
  split at he
  · rename_i t tr x hts
    obtain ⟨c, m, hm, hx, hnil⟩ := VRL.cons ha
    have := VRL.nil hnil; subst this
    have hxs : xs.map a.eval = #[c] := by
      apply Array.ext'; simpa using hm
    have ht : ts[0]? = some t := by rw [← Array.getElem?_toList, hts]; rfl
    refine Good.gives (x := Builtin.len_ ts ty #[c]) ?_ hr (len_sound ht hx he)
    rw [← hxs]; rfl
  · rename_i x r
    obtain ⟨c, m, hm, hx, hrest⟩ := VRL.cons ha
    split at he
    · rename_i z hz
      obtain ⟨rfl, rfl⟩ := he
      obtain ⟨cz, hcz, hvz⟩ := fold_sound (P := C.P) (fun h1 h2 h3 => max2_sound h1 h2 h3) hx hrest hz
      refine Good.gives (x := Builtin.max_ ts ty (xs.map a.eval)) rfl hr ⟨rfl, fun w => ⟨cz, ?_, hvz⟩⟩
      have : (xs.map a.eval).toList = c :: m := by simpa using hm
      simp only [Builtin.max_, this]
      exact hcz w
    · exact he.elim
  · rename_i x r
    obtain ⟨c, m, hm, hx, hrest⟩ := VRL.cons ha
    split at he
    · rename_i z hz
      obtain ⟨rfl, rfl⟩ := he
      obtain ⟨cz, hcz, hvz⟩ := fold_sound (P := C.P) (fun h1 h2 h3 => min2_sound h1 h2 h3) hx hrest hz
      refine Good.gives (x := Builtin.min_ ts ty (xs.map a.eval)) rfl hr ⟨rfl, fun w => ⟨cz, ?_, hvz⟩⟩
      have : (xs.map a.eval).toList = c :: m := by simpa using hm
      simp only [Builtin.min_, this]
      exact hcz w
    · exact he.elim
  · exact he.elim

theorem op_sound {C : Cfg} (hC : CfgOk C) {a : Go.Act} {o : Oper} {ρ : Operand → V} (hr : HR w0 w1 π h w) (hρ : ∀ x ∈ o.op.operands, VR w0 π (ρ x) (a.eval x))
    (he : EffTo C.P slot h (opAct C o.op ρ h) v u) : Good C.P o a w (Post w0 w1 π h v u) := by
  obtain ⟨dst, op, ty, pos, after, guard⟩ := o
  cases op <;> simp only [opAct] at he <;> (try (exact he.elim))
  case move x =>
    obtain ⟨rfl, rfl⟩ := he
    exact Good.value (c := a.eval x) rfl ⟨π, fun _ _ h => h, hr, hρ x (by simp [Op.operands])⟩
  case assign x =>
    obtain ⟨rfl, rfl⟩ := he
    exact Good.value (c := a.eval x) rfl ⟨π, fun _ _ h => h, hr, hρ x (by simp [Op.operands])⟩
  case alloc e =>
    split at he
    · rename_i z hz
      split at he
      · rename_i hk
        obtain ⟨hf, rfl, rfl⟩ := he
        obtain ⟨c, hc, hv⟩ := zeroB_run (w0 := w0) (π := π) hz
        have hnew := HR.new (blk := .cells e z.cells) (o := .cells c.cells e) hr hf (by simp) (fun π' w' hle hw => ⟨_, hw, VRL.mono hle (VR.cells hv (known_ne hk))⟩)
        refine Good.value (c := .pointer (some ⟨w.heap.size, 0, none⟩)) (w' := { w with heap := w.heap.push (.cells c.cells e) }) ?_ ⟨_, Pi.le_up (hr.free slot (.inr (isFree_iff.1 hf))), by simpa [Upd.on] using hnew, ?_⟩
        · simp [execOp, Instr.alloc, hc, newVar, newRow]
        · simp [VR, Pi.up]
      · exact he.elim
    · exact he.elim
  case box e x =>
    split at he
    · rename_i hk
      obtain ⟨hf, rfl, rfl⟩ := he
      have hv := hρ x (by simp [Op.operands])
      have hnew := HR.new (blk := .cells e (ρ x).cells) (o := .cells (a.eval x).cells e) hr hf (by simp) (fun π' w' hle hw => ⟨_, hw, VRL.mono hle (VR.cells hv (known_ne hk))⟩)
      refine Good.value (c := .pointer (some ⟨w.heap.size, 0, none⟩)) (w' := { w with heap := w.heap.push (.cells (a.eval x).cells e) }) ?_ ⟨_, Pi.le_up (hr.free slot (.inr (isFree_iff.1 hf))), by simpa [Upd.on] using hnew, ?_⟩
      · simp [execOp, Instr.box, newVar, newRow]
      · simp [VR, Pi.up]
    · exact he.elim
  case build t ps =>
    refine Good.gives (x := Instr.build t (ps.map fun p => (p.1, a.eval p.2))) rfl hr (build_sound (by simp) ?_ he)
    have := VRL.map (w0 := w0) (π := π) (ρ := ρ) (ρ' := a.eval) (ps.toList.map (·.2)) (fun x hx => hρ x (by simpa [Op.operands] using hx))
    simpa [List.map_map, Function.comp_def] using this
  case load t x =>
    obtain ⟨rfl, cv, h1, h2⟩ := load_sound hr (hρ x (by simp [Op.operands])) he
    exact Good.value (c := cv) (w' := w) (by simp [execOp, h1]) ⟨π, fun _ _ h => h, by simpa [Upd.on] using hr, h2⟩
  case store t x y =>
    obtain ⟨rfl, w', h1, h2⟩ := store_sound hr (hρ x (by simp [Op.operands])) (hρ y (by simp [Op.operands])) he
    exact Good.skip (w' := w') (by simp [execOp, h1]) ⟨π, fun _ _ h => h, h2, by simp only [VR]; exact ⟨_, rfl, by simp [VRL]⟩⟩
  case nilCheck x =>
    have hv := hρ x (by simp [Op.operands])
    obtain ⟨rfl, rfl, hm⟩ := nil_sound hv he
    refine Good.value (c := a.eval x) (w' := w) ?_ ⟨π, fun _ _ h => h, hr, hv⟩
    simp only [execOp]
    rcases hm with ⟨_, e⟩ | ⟨_, _, e⟩ | ⟨_, _, _, e⟩ <;> rw [e] <;> rfl
  case binOp op t x y yt =>
    exact Good.gives (x := do eqGuard op t x y (a.eval x) (a.eval y); binOp op t (a.eval x) (a.eval y)) rfl hr (bin_sound (hρ x (by simp [Op.operands])) (hρ y (by simp [Op.operands])) he x y)
  case unOp op t x => exact Good.gives (x := Op.unary op (a.eval x)) rfl hr (un_sound (hρ x (by simp [Op.operands])) he)
  case convert s d x => exact Good.gives (x := convert s d (a.eval x)) rfl hr (conv_sound (hρ x (by simp [Op.operands])) he)
  case makeInterface t x =>
    have hv := hρ x (by simp [Op.operands])
    split at he
    · exact he.elim
    · exact he.elim
    · rename_i h1 h2
      obtain ⟨rfl, rfl⟩ := he
      cases hu : C.P.underlying t with
      | none => exact absurd hu h2
      | some d =>
        refine Good.value (c := .iface t (a.eval x)) (w' := w) ?_ ⟨π, fun _ _ h => h, hr, by simp only [VR]; exact ⟨_, rfl, hv⟩⟩
        cases d <;> first
          | exact absurd hu (h1 _)
          | simp [execOp, Instr.makeInterface, run_underlying hu]
  case makeFunc fn first cap =>
    cases fn with
    | func f =>
      simp only at he
      split at he
      · rename_i hfirst
        obtain ⟨rfl, rfl⟩ := he
        have hf0 : first = #[] := by simpa using hfirst
        subst hf0
        refine Good.value (c := .func (.func f) #[] (cap.map a.eval)) (w' := w) (by simp [execOp, Instr.makeFunc]) ⟨π, fun _ _ h => h, hr, ?_⟩
        simp only [VR]
        refine ⟨_, rfl, ?_⟩
        have := VRL.map (w0 := w0) (π := π) (ρ := ρ) (ρ' := a.eval) cap.toList (fun x hx => hρ x (by simpa [Op.operands] using hx))
        simpa using this
      · exact he.elim
    | method => exact he.elim
    | methodOf => exact he.elim
    | via => exact he.elim
    | yield => exact he.elim
  case fieldAddr t x f => exact Good.gives (x := Instr.fieldAt t (a.eval x) f) rfl hr (field_sound (hρ x (by simp [Op.operands])) he)
  case field t x f => exact Good.gives (x := Instr.field t (a.eval x) f) rfl hr (fieldOf_sound (hρ x (by simp [Op.operands])) he)
  case indexAddr t x i => exact Good.gives (x := Instr.indexAt t (a.eval x) (a.eval i)) rfl hr (index_sound (hρ x (by simp [Op.operands])) (hρ i (by simp [Op.operands])) he)
  case index t x i =>
    split at he
    · rename_i s k n hu hs hn
      rcases he with ⟨hb, rfl, rfl⟩ | ⟨_, hf⟩
      · simp only [W.and2_t, W.le_t, W.lt_t, W.ofNat, W.size] at hb
        have hx := hρ x (by simp [Op.operands]); rw [hs] at hx; simp only [VR] at hx
        have hi := hρ i (by simp [Op.operands]); rw [hn] at hi; simp only [VR] at hi
        refine Good.value (c := .int .u8 (W.byte s (W.toNat n))) (w' := w) ?_ ⟨π, fun _ _ h => h, hr, VR.int' ?_⟩
        · simp only [execOp, hx.1, hi.1, Sem.run_bind]
          rw [stringIndex_sound hu hb.1 hb.2]; rfl
        · rw [wfI_iff]
          have : 0 ≤ W.byte s (W.toNat n) ∧ W.byte s (W.toNat n) ≤ 255 := by
            unfold W.byte
            split
            · rename_i hlt; have := s[W.toNat n].toNat_lt; omega
            · omega
          simpa [IntKind.min, IntKind.max, IntKind.signed, IntKind.bits] using this
      · exact hf.elim
    · exact he.elim
  case extract x i =>
    split at he
    · rename_i l hl
      have hx := hρ x (by simp [Op.operands]); rw [hl] at hx; simp only [VR] at hx
      obtain ⟨cs, hcv, hcs⟩ := hx
      split at he
      · rename_i y hy
        obtain ⟨rfl, rfl⟩ := he
        obtain ⟨c, hc, hv⟩ := VRL.get hcs hy
        refine Good.value (c := c) (w' := w) ?_ ⟨π, fun _ _ h => h, hr, hv⟩
        simp [execOp, Instr.extract, hcv]
        rw [show cs[i]? = some c by simpa using hc]; rfl
      · exact he.elim
    · exact he.elim
  case call c =>
    obtain ⟨callee, args, ts⟩ := c
    cases callee with
    | value f =>
      have hargs := VRL.map (w0 := w0) (π := π) (ρ := ρ) (ρ' := a.eval) args.toList (fun x hx => hρ x (by simp only [Op.operands, Call.operands]; simp; exact .inr (by simpa using hx)))
      exact call_sound hC rfl hr (hρ f (by simp [Op.operands, Call.operands])) hargs he
    | invoke r m => exact he.elim
    | builtin b =>
      have hargs := VRL.map (w0 := w0) (π := π) (ρ := ρ) (ρ' := a.eval) args.toList (fun x hx => hρ x (by simp only [Op.operands, Call.operands]; simpa using hx))
      exact builtin_sound hr hargs he
end
end Go.Eng
