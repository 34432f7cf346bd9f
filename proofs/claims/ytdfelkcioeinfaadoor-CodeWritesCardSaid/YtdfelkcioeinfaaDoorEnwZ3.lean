/- The engine, part Z3: code from a loop's head on. -/
import Derived.Test.YtdfelkcioeinfaaDoorEnwZ
set_option linter.unusedVariables false
set_option linter.unusedSimpArgs false
namespace Go.Eng
open Go
def findL (id : Nat) : Code → Bool
  | .loop b => firstId b == id || findL id b
  | .seq a b => findL id a || findL id b
  | .cond _ a b => findL id a || findL id b
  | .block _ b => findL id b
  | _ => false
/-- From the head of the loop whose first region is 'id' on; 'n': its rounds; 'fs': those of the loops around it. -/
def execFrom {R : Type} (C : Cfg) (fl n0 : Nat) (g : FuncId) (rec : Rec R) (rl id n : Nat) (so : Option S) : Code → List (Nat × Nat) → Nat → List Nat → (Ex → S → Option R) → Option R
  | .seq a b, ex, m, fs, k => if findL id a then execFrom C fl n0 g rec rl id n so a ex (liveIn ex rl b m) fs fun e s' => match e with
      | .normal => exec C fl n0 g rec rl b ex m s' k
      | e => k e s'
    else execFrom C fl n0 g rec rl id n so b ex m fs k
  | .cond _ x y, ex, m, fs, k => if findL id x then execFrom C fl n0 g rec rl id n so x ex m fs k else execFrom C fl n0 g rec rl id n so y ex m fs k
  | .block bid body, ex, m, fs, k => execFrom C fl n0 g rec rl id n so body ((bid, m) :: ex) m fs fun e s' => match e with
    | .exit id' => if id' == bid then k .normal s' else k (.exit id') s'
    | e => k e s'
  | .loop body, ex, m, fs, k =>
    match fs with
    | [] => loopH (fun s k => exec C fl n0 g rec rl body ex (liveIn ex rl body 0) s k) (fun s => headF (liveIn ex rl body 0) n0 (hintF (C.hints g (firstId body)) s)) n so k
    | f :: fs => execFrom C fl n0 g rec rl id n so body ex (liveIn ex rl body 0) fs fun e s' => match e with
      | .normal => loopH (fun s k => exec C fl n0 g rec rl body ex (liveIn ex rl body 0) s k) (fun s => headF (liveIn ex rl body 0) n0 (hintF (C.hints g (firstId body)) s)) f (headF (liveIn ex rl body 0) n0 (hintF (C.hints g (firstId body)) s')) k
      | e => k e s'
  | _, _, _, _, _ => none
def callFrom {R : Type} (C : Cfg) (fl d n0 : Nat) (g : FuncId) (id n : Nat) (fs : List Nat) (so : Option S) (k : V → List Blk → Option R) : Option R :=
  match C.P.funcs[g]? with
  | none => none
  | some fn => match fn.body with
    | none => none
    | some c => execFrom C fl n0 g (call C fl d) (fn.results.toList.foldl (fun m r => match r with | .tmp t => m ||| 2 ^ t | .cell t _ => m ||| 2 ^ t) 0) id n so c [] 0 fs fun e s => match e with
      | .exit _ => none
      | _ => match results C.P fn s with
        | some v => k v s.h
        | none => none
/-- A loop's body, its head, what comes behind it. -/
structure LoopI (R : Type) where
  body : S → (Ex → S → Option R) → Option R
  head : S → Option S
  kont : Ex → S → Option R
def locFrom {R : Type} (C : Cfg) (fl n0 : Nat) (g : FuncId) (rec : Rec R) (rl id : Nat) : Code → List (Nat × Nat) → Nat → List Nat → (Ex → S → Option R) → Option (LoopI R)
  | .seq a b, ex, m, fs, k => if findL id a then locFrom C fl n0 g rec rl id a ex (liveIn ex rl b m) fs fun e s' => match e with
      | .normal => exec C fl n0 g rec rl b ex m s' k
      | e => k e s'
    else locFrom C fl n0 g rec rl id b ex m fs k
  | .cond _ x y, ex, m, fs, k => if findL id x then locFrom C fl n0 g rec rl id x ex m fs k else locFrom C fl n0 g rec rl id y ex m fs k
  | .block bid body, ex, m, fs, k => locFrom C fl n0 g rec rl id body ((bid, m) :: ex) m fs fun e s' => match e with
    | .exit id' => if id' == bid then k .normal s' else k (.exit id') s'
    | e => k e s'
  | .loop body, ex, m, fs, k =>
    match fs with
    | [] => some ⟨fun s k => exec C fl n0 g rec rl body ex (liveIn ex rl body 0) s k, fun s => headF (liveIn ex rl body 0) n0 (hintF (C.hints g (firstId body)) s), k⟩
    | f :: fs => locFrom C fl n0 g rec rl id body ex (liveIn ex rl body 0) fs fun e s' => match e with
      | .normal => loopH (fun s k => exec C fl n0 g rec rl body ex (liveIn ex rl body 0) s k) (fun s => headF (liveIn ex rl body 0) n0 (hintF (C.hints g (firstId body)) s)) f (headF (liveIn ex rl body 0) n0 (hintF (C.hints g (firstId body)) s')) k
      | e => k e s'
  | _, _, _, _, _ => none
def locate {R : Type} (C : Cfg) (fl : Nat) (rec : Rec R) (n0 : Nat) (g : FuncId) (id : Nat) (fs : List Nat) (k : V → List Blk → Option R) : LoopI R :=
  match C.P.funcs[g]? with
  | none => ⟨fun _ _ => none, fun _ => none, fun _ _ => none⟩
  | some fn => match fn.body with
    | none => ⟨fun _ _ => none, fun _ => none, fun _ _ => none⟩
    | some c => match locFrom C fl n0 g rec (fn.results.toList.foldl (fun m r => match r with | .tmp t => m ||| 2 ^ t | .cell t _ => m ||| 2 ^ t) 0) id c [] 0 fs (fun e s => match e with
        | .exit _ => none
        | _ => match results C.P fn s with
          | some v => k v s.h
          | none => none) with
      | some l => l
      | none => ⟨fun _ _ => none, fun _ => none, fun _ _ => none⟩
end Go.Eng
