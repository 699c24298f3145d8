/- Several texts in one. -/
import Derived.Test.YtilkjloabkgpaaaDoorP07A
import Derived.Test.YtilkjloabkgpaaaDoorP07B
set_option linter.unusedVariables false
set_option linter.unusedSimpArgs false
set_option linter.unnecessarySimpa false
/- Chapter 7, plainly: a reader of tokens, the writer's counterpart. -/
namespace Go.D07
open Go Go.Gw Go.Dn
set_option linter.unusedSimpArgs false
set_option maxRecDepth 100000

/-- a token told apart: 0 the end, 1 a name, 2 a word, 3 a number, 4 a text, 5 a sign -/
structure Tok where
  kind : Nat
  text : Str
  num : Int
  fresh : Bool
abbrev Toks := List Tok
def opK (t : Tok) : Bool := t.kind == 5 || t.kind == 2
def tIs (s : Str) : Toks → Bool
  | t :: _ => opK t && (t.text == s)
  | [] => false
def tAny (l : List Str) : Toks → Bool
  | t :: _ => opK t && l.contains t.text
  | [] => false
def tText : Toks → Str
  | t :: _ => t.text
  | [] => []
def tKind : Toks → Nat
  | t :: _ => t.kind
  | [] => 0
def tFresh : Toks → Bool
  | t :: _ => t.fresh
  | [] => false
def unaL : List Str := [[45], [43], [33], [116, 121, 112, 101, 111, 102], [100, 101, 108, 101, 116, 101], [118, 111, 105, 100]]
def updL : List Str := [[43, 43], [45, 45]]
def asgL : List Str := [[61], [43, 61], [45, 61], [42, 61], [47, 61], [37, 61]]
def eqL : List Str := [[61, 61], [33, 61], [61, 61, 61], [33, 61, 61]]
def ltL : List Str := [[60], [62], [60, 61], [62, 61], [105, 110, 115, 116, 97, 110, 99, 101, 111, 102]]
def addL : List Str := [[43], [45]]
def mulL : List Str := [[42], [47], [37]]
def lvS (no : Bool) (s : Str) : Int × Int :=
  if (s == ([124, 124] : Str)) = true then (3, 18)
  else if (s == ([38, 38] : Str)) = true then (4, 18)
  else if eqL.contains s = true then (5, 17)
  else if (ltL.contains s || (!no && s == ([105, 110] : Str))) = true then (6, 17)
  else if addL.contains s = true then (7, 17)
  else if mulL.contains s = true then (8, 17)
  else (0, 0)
def bindT (no : Bool) : Toks → Int × Int
  | t :: _ => if opK t = true then lvS no t.text else (0, 0)
  | [] => (0, 0)
def tNeed (s : Str) (t : Toks) : Option Toks := if tIs s t = true then some t.tail else none
abbrev PR (α : Type) := Option (α × Toks)
structure PG where
  expr : Bool → Toks → PR Node
  comma : Bool → Node → Toks → PR Node
  assign : Bool → Toks → PR Node
  binary : Bool → Int → Toks → PR Node
  bins : Bool → Int → Node → Toks → PR Node
  unary : Toks → PR Node
  mems : Bool → Node → Toks → PR Node
  made : Toks → PR Node
  prim : Toks → PR Node
  exprs : Str → Bool → Toks → PR (List Node)
  props : Toks → PR (List Node)
  func : Int → Toks → PR Node
  vars : Bool → Toks → PR (List Node)
  block : Toks → PR Node
  head : Toks → PR Node
  till : Str → Toks → PR Node
  loop : Toks → PR Node
  cases : Bool → Toks → PR (List Node)
  body : Toks → PR (List Node)
  stmt : Toks → PR Node
  stmts : Bool → Toks → PR (List Node)
def nd (k : Int) (l : List Node) : Node := ⟨k, [], 0, [], [], l⟩
def ndN (k : Int) (s : Str) (l : List Node) : Node := ⟨k, s, 0, [], [], l⟩
section
variable (g : PG)
def pExpr (no : Bool) (t : Toks) : PR Node := (g.assign no t).bind fun q => g.comma no q.1 q.2
def pComma (no : Bool) (x : Node) (t : Toks) : PR Node :=
  if tIs [44] t = true then (g.assign no t.tail).bind fun q => g.comma no (nd 21 [x, q.1]) q.2 else some (x, t)
def pAssign (no : Bool) (t : Toks) : PR Node := (g.binary no 3 t).bind fun q =>
  if tIs [63] q.2 = true then (g.assign false q.2.tail).bind fun y => (tNeed [58] y.2).bind fun t => (g.assign no t).bind fun z => some (nd 19 [q.1, y.1, z.1], z.2)
  else if tAny asgL q.2 = true then (if tgtK q.1.Kind = true then (g.assign no q.2.tail).bind fun y => some (ndN 20 (tText q.2) [q.1, y.1], y.2) else none)
  else some q
def pBinary (no : Bool) (least : Int) (t : Toks) : PR Node := (g.unary t).bind fun q => g.bins no least q.1 q.2
def pBins (no : Bool) (least : Int) (x : Node) (t : Toks) : PR Node :=
  if (decide ((bindT no t).1 < least) || (bindT no t).1 == 0) = true then some (x, t)
  else (g.binary no ((bindT no t).1 + 1) t.tail).bind fun y => g.bins no least (ndN (bindT no t).2 (tText t) [x, y.1]) y.2
def pUnary (t : Toks) : PR Node :=
  if tAny unaL t = true then (g.unary t.tail).bind fun y => some (ndN 15 (tText t) [y.1], y.2)
  else if tAny updL t = true then (g.unary t.tail).bind fun y => if tgtK y.1.Kind = true then some (⟨16, tText t, 1, [], [], [y.1]⟩, y.2) else none
  else (g.made t).bind fun q => (g.mems true q.1 q.2).bind fun q =>
    if (!tAny updL q.2 || tFresh q.2) = true then some q else if tgtK q.1.Kind = true then some (ndN 16 (tText q.2) [q.1], q.2.tail) else none
def pMems (calls : Bool) (x : Node) (t : Toks) : PR Node :=
  if tIs [46] t = true then (if (tKind t.tail == 1 || tKind t.tail == 2) = true then g.mems calls (ndN 11 (tText t.tail) [x]) t.tail.tail else none)
  else if tIs [91] t = true then (g.expr false t.tail).bind fun k => (tNeed [93] k.2).bind fun t => g.mems calls (nd 12 [x, k.1]) t
  else if (calls && tIs [40] t) = true then (g.exprs [41] false t.tail).bind fun l => g.mems calls (nd 13 (x :: l.1)) l.2
  else some (x, t)
def pMade (t : Toks) : PR Node :=
  if tIs [110, 101, 119] t = true then (g.made t.tail).bind fun q => (g.mems false q.1 q.2).bind fun q =>
    if tIs [40] q.2 = true then (g.exprs [41] false q.2.tail).bind fun l => some (nd 14 (q.1 :: l.1), l.2) else some (nd 14 [q.1], q.2)
  else g.prim t
def pPrim (t : Toks) : PR Node :=
  if (tKind t == 1) = true then some (ndN 3 (tText t) [], t.tail)
  else if (tKind t == 3) = true then (match t with | a :: r => some (⟨1, [], a.num, [], [], []⟩, r) | [] => none)
  else if (tKind t == 4) = true then some (⟨2, [], 0, tText t, [], []⟩, t.tail)
  else if tIs [116, 104, 105, 115] t = true then some (nd 4 [], t.tail)
  else if tIs [110, 117, 108, 108] t = true then some (nd 5 [], t.tail)
  else if tIs [102, 97, 108, 115, 101] t = true then some (nd 6 [], t.tail)
  else if tIs [116, 114, 117, 101] t = true then some (⟨6, [], 1, [], [], []⟩, t.tail)
  else if tIs [102, 117, 110, 99, 116, 105, 111, 110] t = true then g.func 10 t.tail
  else if tIs [40] t = true then (g.expr false t.tail).bind fun k => (tNeed [41] k.2).bind fun t => some (k.1, t)
  else if tIs [91] t = true then (g.exprs [93] true t.tail).bind fun l => some (nd 7 l.1, l.2)
  else if tIs [123] t = true then (g.props t.tail).bind fun l => some (nd 8 l.1, l.2)
  else none
def pExprs (shut : Str) (last : Bool) (t : Toks) : PR (List Node) :=
  if tIs shut t = true then some ([], t.tail)
  else (g.assign false t).bind fun x =>
    if tIs shut x.2 = true then some ([x.1], x.2.tail)
    else (tNeed [44] x.2).bind fun t => if (!last && tIs shut t) = true then none else (g.exprs shut last t).bind fun l => some (x.1 :: l.1, l.2)
def pProps (t : Toks) : PR (List Node) :=
  if tIs [125] t = true then some ([], t.tail)
  else if (tKind t == 4) = true then (tNeed [58] t.tail).bind fun t1 => (g.assign false t1).bind fun x =>
    if tIs [125] x.2 = true then some ([⟨9, [], 0, tText t, [], [x.1]⟩], x.2.tail)
    else (tNeed [44] x.2).bind fun t2 => (g.props t2).bind fun l => some (⟨9, [], 0, tText t, [], [x.1]⟩ :: l.1, l.2)
  else none
/-- names with commas between, up to a bracket; the first reader's fuel is the tokens themselves -/
def pNames : Toks → PR (List Str)
  | a :: b :: r => if (a.kind == 1) = true then (if tIs [41] (b :: r) = true then some ([a.text], r) else if tIs [44] (b :: r) = true then (pNames r).bind fun l => some (a.text :: l.1, l.2) else none) else none
  | _ => none
def pParams (t : Toks) : PR (List Str) := if tIs [41] t = true then some ([], t.tail) else pNames t
def pFunc (kind : Int) (t : Toks) : PR Node :=
  (if (tKind t == 1) = true then some (tText t, t.tail) else if (kind == 39) = true then none else some ([], t)).bind fun m => (tNeed [40] m.2).bind fun t => (pParams t).bind fun ns => (tNeed [123] ns.2).bind fun t => (g.stmts true t).bind fun l => (tNeed [125] l.2).bind fun t => some (⟨kind, m.1, 0, [], ns.1, l.1⟩, t)
def pVars (no : Bool) (t : Toks) : PR (List Node) :=
  if (tKind t == 1) = true then
    (if tIs [61] t.tail = true then (g.assign no t.tail.tail).bind fun y => some ([y.1], y.2) else some ([], t.tail)).bind fun d =>
      if tIs [44] d.2 = true then (g.vars no d.2.tail).bind fun l => some (ndN 23 (tText t) d.1 :: l.1, l.2) else some ([ndN 23 (tText t) d.1], d.2)
  else none
def pBlock (t : Toks) : PR Node := (tNeed [123] t).bind fun t => (g.stmts false t).bind fun l => (tNeed [125] l.2).bind fun t => some (nd 25 l.1, t)
def pHead (t : Toks) : PR Node := (tNeed [40] t).bind fun t => (g.expr false t).bind fun x => (tNeed [41] x.2).bind fun t => some (x.1, t)
def pUntil (s : Str) (t : Toks) : PR Node := if tIs s t = true then some (nd 42 [], t.tail) else (g.expr false t).bind fun x => (tNeed s x.2).bind fun t => some (x.1, t)
def pStops (t : Toks) : Bool := tIs [125] t || tKind t == 0 || tFresh t
def pEnd (t : Toks) : Option Toks := if tIs [59] t = true then some t.tail else if pStops t = true then some t else none
def bodyN (x : Node) : Node := if (x.Kind == 25) = true then x else nd 25 [x]
def eachN (x : Node) : Bool := if (x.Kind == 22) = true then (match x.L with | [d] => d.L.isEmpty | _ => false) else tgtK x.Kind
def pFirst (t : Toks) : PR Node :=
  if tIs [118, 97, 114] t = true then (g.vars true t.tail).bind fun l => some (nd 22 l.1, l.2)
  else if tIs [59] t = true then some (nd 42 [], t) else g.expr true t
def pLoop (t : Toks) : PR Node := (tNeed [40] t).bind fun t => (pFirst g t).bind fun q =>
  if (eachN q.1 && tIs [105, 110] q.2) = true then (g.expr false q.2.tail).bind fun x => (tNeed [41] x.2).bind fun t => (g.stmt t).bind fun b => some (nd 30 [q.1, x.1, bodyN b.1], b.2)
  else (tNeed [59] q.2).bind fun t => (g.till [59] t).bind fun x => (g.till [41] x.2).bind fun y => (g.stmt y.2).bind fun b => some (nd 29 [q.1, x.1, y.1, bodyN b.1], b.2)
def pCatch (t : Toks) : PR (Str × Node) :=
  if tIs [99, 97, 116, 99, 104] t = true then (tNeed [40] t.tail).bind fun t => if (tKind t == 1) = true then (tNeed [41] t.tail).bind fun t1 => (g.block t1).bind fun b => some ((tText t, b.1), b.2) else none
  else some (([], nd 42 []), t)
def pFinal (t : Toks) : PR Node := if tIs [102, 105, 110, 97, 108, 108, 121] t = true then g.block t.tail else some (nd 42 [], t)
def pTry (t : Toks) : PR Node := (g.block t).bind fun b => (pCatch g b.2).bind fun c => (pFinal g c.2).bind fun f =>
  if (f.1.Kind == 42 && c.1.2.Kind == 42) = true then none else some (ndN 35 c.1.1 [b.1, c.1.2, f.1], f.2)
def pCases (others : Bool) (t : Toks) : PR (List Node) :=
  if tIs [125] t = true then some ([], t.tail)
  else if (others && tIs [100, 101, 102, 97, 117, 108, 116] t) = true then (tNeed [58] t.tail).bind fun t => (g.body t).bind fun l => (g.cases false l.2).bind fun r => some (nd 37 (nd 42 [] :: l.1) :: r.1, r.2)
  else (tNeed [99, 97, 115, 101] t).bind fun t => (g.expr false t).bind fun x => (tNeed [58] x.2).bind fun t => (g.body t).bind fun l => (g.cases others l.2).bind fun r => some (nd 37 (x.1 :: l.1) :: r.1, r.2)
def pBody (t : Toks) : PR (List Node) :=
  if (tAny [[99, 97, 115, 101], [100, 101, 102, 97, 117, 108, 116], [125]] t || tKind t == 0) = true then some ([], t) else (g.stmt t).bind fun x => (g.body x.2).bind fun l => some (x.1 :: l.1, l.2)
def pLeap (k : Int) (t : Toks) : PR Node :=
  if (tKind t == 1 && !tFresh t) = true then (pEnd t.tail).bind fun t1 => some (ndN k (tText t) [], t1) else (pEnd t).bind fun t => some (nd k [], t)
def pStmt (t : Toks) : PR Node :=
  if tIs [123] t = true then g.block t
  else if tIs [59] t = true then some (nd 40 [], t.tail)
  else if tIs [118, 97, 114] t = true then (g.vars false t.tail).bind fun l => (pEnd l.2).bind fun t => some (nd 22 l.1, t)
  else if tIs [105, 102] t = true then (g.head t.tail).bind fun x => (g.stmt x.2).bind fun b => if tIs [101, 108, 115, 101] b.2 = true then (g.stmt b.2.tail).bind fun c => some (nd 26 [x.1, bodyN b.1, bodyN c.1], c.2) else some (nd 26 [x.1, bodyN b.1], b.2)
  else if tIs [119, 104, 105, 108, 101] t = true then (g.head t.tail).bind fun x => (g.stmt x.2).bind fun b => some (nd 27 [x.1, bodyN b.1], b.2)
  else if tIs [100, 111] t = true then (g.stmt t.tail).bind fun b => (tNeed [119, 104, 105, 108, 101] b.2).bind fun t => (g.head t).bind fun x => (pEnd x.2).bind fun t => some (nd 28 [bodyN b.1, x.1], t)
  else if tIs [102, 111, 114] t = true then g.loop t.tail
  else if tIs [98, 114, 101, 97, 107] t = true then pLeap 31 t.tail
  else if tIs [99, 111, 110, 116, 105, 110, 117, 101] t = true then pLeap 32 t.tail
  else if tIs [114, 101, 116, 117, 114, 110] t = true then (if (!tIs [59] t.tail && !pStops t.tail) = true then (g.expr false t.tail).bind fun x => (pEnd x.2).bind fun t => some (nd 33 [x.1], t) else (pEnd t.tail).bind fun t => some (nd 33 [], t))
  else if tIs [116, 104, 114, 111, 119] t = true then (if tFresh t.tail = true then none else (g.expr false t.tail).bind fun x => (pEnd x.2).bind fun t => some (nd 34 [x.1], t))
  else if tIs [116, 114, 121] t = true then pTry g t.tail
  else if tIs [115, 119, 105, 116, 99, 104] t = true then (g.head t.tail).bind fun x => (tNeed [123] x.2).bind fun t => (g.cases true t).bind fun l => some (nd 36 (x.1 :: l.1), l.2)
  else if tIs [102, 117, 110, 99, 116, 105, 111, 110] t = true then none
  else if (tKind t == 1 && tIs [58] t.tail) = true then (g.stmt t.tail.tail).bind fun x => some (ndN 38 (tText t) [x.1], x.2)
  else (g.expr false t).bind fun x => (pEnd x.2).bind fun t => some (nd 24 [x.1], t)
def pStmts (funcs : Bool) (t : Toks) : PR (List Node) :=
  if (tIs [125] t || tKind t == 0) = true then some ([], t)
  else (if (funcs && tIs [102, 117, 110, 99, 116, 105, 111, 110] t) = true then g.func 39 t.tail else g.stmt t).bind fun x => (g.stmts funcs x.2).bind fun l => some (x.1 :: l.1, l.2)
end
def pG : Nat → PG
  | 0 => ⟨fun _ _ => none, fun _ _ _ => none, fun _ _ => none, fun _ _ _ => none, fun _ _ _ _ => none, fun _ => none, fun _ _ _ => none, fun _ => none, fun _ => none, fun _ _ _ => none, fun _ => none, fun _ _ => none, fun _ _ => none, fun _ => none, fun _ => none, fun _ _ => none, fun _ => none, fun _ _ => none, fun _ => none, fun _ => none, fun _ _ => none⟩
  | n + 1 => ⟨pExpr (pG n), pComma (pG n), pAssign (pG n), pBinary (pG n), pBins (pG n), pUnary (pG n), pMems (pG n), pMade (pG n), pPrim (pG n), pExprs (pG n), pProps (pG n), pFunc (pG n), pVars (pG n), pBlock (pG n), pHead (pG n), pUntil (pG n), pLoop (pG n), pCases (pG n), pBody (pG n), pStmt (pG n), pStmts (pG n)⟩
end Go.D07


/- Chapter 7, plainly: the reader's rules. -/
namespace Go.D07
open Go Go.Gw Go.Dn
set_option linter.unusedSimpArgs false
set_option maxRecDepth 100000

/-- with fuel enough the answer is this -/
def Ok {α : Type} (f : Nat → Option α) (v : α) : Prop := ∃ N, ∀ n, N ≤ n → f n = some v
theorem Ok.ret {α : Type} (v : α) : Ok (fun _ => some v) v := ⟨0, fun _ _ => rfl⟩
theorem Ok.up {α : Type} {f g : Nat → Option α} {v : α} (hg : Ok g v) (h : ∀ n, f (n + 1) = g n) : Ok f v := by
  obtain ⟨N, hN⟩ := hg
  refine ⟨N + 1, fun n hn => ?_⟩
  match n, hn with
  | m + 1, hn => exact (h m).trans (hN m (by omega))
theorem Ok.bind {α β : Type} {f : Nat → Option α} {g : α → Nat → Option β} {a : α} {b : β} (h1 : Ok f a) (h2 : Ok (g a) b) : Ok (fun n => (f n).bind fun q => g q n) b := by
  obtain ⟨N, hN⟩ := h1
  obtain ⟨M, hM⟩ := h2
  refine ⟨N + M, fun n hn => ?_⟩
  show (f n).bind _ = _
  rw [hN n (by omega)]
  exact hM n (by omega)
theorem Ok.uniq {α : Type} {f : Nat → Option α} {v w : α} (h1 : Ok f v) (h2 : Ok f w) : v = w := by
  obtain ⟨N, hN⟩ := h1
  obtain ⟨M, hM⟩ := h2
  have e1 := hN (N + M) (by omega)
  have e2 := hM (N + M) (by omega)
  rw [e1] at e2
  exact Option.some.inj e2
theorem Ok.eq {α : Type} {f g : Nat → Option α} {v : α} (h : Ok g v) (e : f = g) : Ok f v := e ▸ h
abbrev EXPR (no : Bool) (t : Toks) (v : Node × Toks) : Prop := Ok (fun n => (pG n).expr no t) v
abbrev COMMA (no : Bool) (x : Node) (t : Toks) (v : Node × Toks) : Prop := Ok (fun n => (pG n).comma no x t) v
abbrev ASSIGN (no : Bool) (t : Toks) (v : Node × Toks) : Prop := Ok (fun n => (pG n).assign no t) v
abbrev BINARY (no : Bool) (l : Int) (t : Toks) (v : Node × Toks) : Prop := Ok (fun n => (pG n).binary no l t) v
abbrev BINS (no : Bool) (l : Int) (x : Node) (t : Toks) (v : Node × Toks) : Prop := Ok (fun n => (pG n).bins no l x t) v
abbrev UNARY (t : Toks) (v : Node × Toks) : Prop := Ok (fun n => (pG n).unary t) v
abbrev MEMS (calls : Bool) (x : Node) (t : Toks) (v : Node × Toks) : Prop := Ok (fun n => (pG n).mems calls x t) v
abbrev MADE (t : Toks) (v : Node × Toks) : Prop := Ok (fun n => (pG n).made t) v
abbrev PRIM (t : Toks) (v : Node × Toks) : Prop := Ok (fun n => (pG n).prim t) v
abbrev EXPRS (s : Str) (last : Bool) (t : Toks) (v : List Node × Toks) : Prop := Ok (fun n => (pG n).exprs s last t) v
abbrev PROPS (t : Toks) (v : List Node × Toks) : Prop := Ok (fun n => (pG n).props t) v
abbrev FUNC (k : Int) (t : Toks) (v : Node × Toks) : Prop := Ok (fun n => (pG n).func k t) v
abbrev VARS (no : Bool) (t : Toks) (v : List Node × Toks) : Prop := Ok (fun n => (pG n).vars no t) v
abbrev BLOCK (t : Toks) (v : Node × Toks) : Prop := Ok (fun n => (pG n).block t) v
abbrev HEAD (t : Toks) (v : Node × Toks) : Prop := Ok (fun n => (pG n).head t) v
abbrev TILL (s : Str) (t : Toks) (v : Node × Toks) : Prop := Ok (fun n => (pG n).till s t) v
abbrev LOOP (t : Toks) (v : Node × Toks) : Prop := Ok (fun n => (pG n).loop t) v
abbrev CASES (o : Bool) (t : Toks) (v : List Node × Toks) : Prop := Ok (fun n => (pG n).cases o t) v
abbrev BODY (t : Toks) (v : List Node × Toks) : Prop := Ok (fun n => (pG n).body t) v
abbrev STMT (t : Toks) (v : Node × Toks) : Prop := Ok (fun n => (pG n).stmt t) v
abbrev STMTS (f : Bool) (t : Toks) (v : List Node × Toks) : Prop := Ok (fun n => (pG n).stmts f t) v
section
variable {no calls last : Bool} {t t1 t2 t3 t4 t5 : Toks} {x y z : Node} {v : Node × Toks} {l l1 l2 : List Node} {least : Int} {s : Str}
theorem tNeed_ok (h : tIs s t = true) : tNeed s t = some t.tail := by unfold tNeed; rw [if_pos h]
theorem r_expr (h1 : ASSIGN no t (x, t1)) (h2 : COMMA no x t1 v) : EXPR no t v :=
  (h1.bind (g := fun q n => (pG n).comma no q.1 q.2) h2).up fun _ => rfl
theorem r_comma_end (h : tIs [44] t = false) : COMMA no x t (x, t) :=
  (Ok.ret (x, t)).up fun n => by show pComma (pG n) no x t = _; unfold pComma; rw [h]; rfl
theorem r_comma_go (h : tIs [44] t = true) (h1 : ASSIGN no t.tail (y, t1)) (h2 : COMMA no (nd 21 [x, y]) t1 v) : COMMA no x t v :=
  (h1.bind (g := fun q n => (pG n).comma no (nd 21 [x, q.1]) q.2) h2).up fun n => by show pComma (pG n) no x t = _; unfold pComma; rw [if_pos h]
theorem r_assign_plain (h1 : BINARY no 3 t (x, t1)) (h2 : tIs [63] t1 = false) (h3 : tAny asgL t1 = false) : ASSIGN no t (x, t1) :=
  (h1.bind (g := fun q n => if tIs [63] q.2 = true then ((pG n).assign false q.2.tail).bind fun y => (tNeed [58] y.2).bind fun t => ((pG n).assign no t).bind fun z => some (nd 19 [q.1, y.1, z.1], z.2)
    else if tAny asgL q.2 = true then (if tgtK q.1.Kind = true then ((pG n).assign no q.2.tail).bind fun y => some (ndN 20 (tText q.2) [q.1, y.1], y.2) else none) else some q)
    ((Ok.ret (x, t1)).eq (by funext n; simp only [h2, h3, Bool.false_eq_true, if_false]))).up fun _ => rfl
theorem r_assign_cond (h1 : BINARY no 3 t (x, t1)) (h2 : tIs [63] t1 = true) (h3 : ASSIGN false t1.tail (y, t2)) (h4 : tIs [58] t2 = true) (h5 : ASSIGN no t2.tail (z, t3)) : ASSIGN no t (nd 19 [x, y, z], t3) :=
  (h1.bind (g := fun q n => if tIs [63] q.2 = true then ((pG n).assign false q.2.tail).bind fun y => (tNeed [58] y.2).bind fun t => ((pG n).assign no t).bind fun z => some (nd 19 [q.1, y.1, z.1], z.2)
    else if tAny asgL q.2 = true then (if tgtK q.1.Kind = true then ((pG n).assign no q.2.tail).bind fun y => some (ndN 20 (tText q.2) [q.1, y.1], y.2) else none) else some q)
    ((h3.bind (g := fun y n => (tNeed [58] y.2).bind fun t => ((pG n).assign no t).bind fun z => some (nd 19 [x, y.1, z.1], z.2))
      ((h5.bind (g := fun z _ => some (nd 19 [x, y, z.1], z.2)) (Ok.ret _)).eq (by funext n; simp only [tNeed_ok h4, Option.bind_some]))).eq (by funext n; simp only [h2, if_true]))).up fun _ => rfl
theorem r_assign_asg (h1 : BINARY no 3 t (x, t1)) (h2 : tIs [63] t1 = false) (h3 : tAny asgL t1 = true) (h4 : tgtK x.Kind = true) (h5 : ASSIGN no t1.tail (y, t2)) : ASSIGN no t (ndN 20 (tText t1) [x, y], t2) :=
  (h1.bind (g := fun q n => if tIs [63] q.2 = true then ((pG n).assign false q.2.tail).bind fun y => (tNeed [58] y.2).bind fun t => ((pG n).assign no t).bind fun z => some (nd 19 [q.1, y.1, z.1], z.2)
    else if tAny asgL q.2 = true then (if tgtK q.1.Kind = true then ((pG n).assign no q.2.tail).bind fun y => some (ndN 20 (tText q.2) [q.1, y.1], y.2) else none) else some q)
    ((h5.bind (g := fun y _ => some (ndN 20 (tText t1) [x, y.1], y.2)) (Ok.ret _)).eq (by funext n; simp only [h2, h3, h4, Bool.false_eq_true, if_false, if_true]))).up fun _ => rfl
theorem r_binary (h1 : UNARY t (x, t1)) (h2 : BINS no least x t1 v) : BINARY no least t v :=
  (h1.bind (g := fun q n => (pG n).bins no least q.1 q.2) h2).up fun _ => rfl
theorem r_bins_end (h : (decide ((bindT no t).1 < least) || (bindT no t).1 == 0) = true) : BINS no least x t (x, t) :=
  (Ok.ret (x, t)).up fun n => by show pBins (pG n) no least x t = _; unfold pBins; rw [if_pos h]
theorem r_bins_go (h : (decide ((bindT no t).1 < least) || (bindT no t).1 == 0) = false) (h1 : BINARY no ((bindT no t).1 + 1) t.tail (y, t1)) (h2 : BINS no least (ndN (bindT no t).2 (tText t) [x, y]) t1 v) : BINS no least x t v :=
  (h1.bind (g := fun q n => (pG n).bins no least (ndN (bindT no t).2 (tText t) [x, q.1]) q.2) h2).up fun n => by show pBins (pG n) no least x t = _; unfold pBins; rw [if_neg (by rw [h]; decide)]
theorem r_unary_un (h : tAny unaL t = true) (h1 : UNARY t.tail (y, t1)) : UNARY t (ndN 15 (tText t) [y], t1) :=
  (h1.bind (g := fun q _ => some (ndN 15 (tText t) [q.1], q.2)) (Ok.ret _)).up fun n => by show pUnary (pG n) t = _; unfold pUnary; rw [if_pos h]
theorem r_unary_pre (h : tAny unaL t = false) (h' : tAny updL t = true) (h1 : UNARY t.tail (y, t1)) (h2 : tgtK y.Kind = true) : UNARY t (⟨16, tText t, 1, [], [], [y]⟩, t1) :=
  (h1.bind (g := fun q _ => if tgtK q.1.Kind = true then some ((⟨16, tText t, 1, [], [], [q.1]⟩ : Node), q.2) else none) ((Ok.ret _).eq (by funext n; simp only [h2, if_true]))).up fun n => by show pUnary (pG n) t = _; unfold pUnary; rw [if_neg (by rw [h]; decide), if_pos h']
theorem r_unary_plain (h : tAny unaL t = false) (h' : tAny updL t = false) (h1 : MADE t (x, t1)) (h2 : MEMS true x t1 (y, t2)) (h3 : tAny updL t2 = false) : UNARY t (y, t2) :=
  (h1.bind (g := fun q n => ((pG n).mems true q.1 q.2).bind fun q => if (!tAny updL q.2 || tFresh q.2) = true then some q else if tgtK q.1.Kind = true then some (ndN 16 (tText q.2) [q.1], q.2.tail) else none)
    (h2.bind (g := fun q _ => if (!tAny updL q.2 || tFresh q.2) = true then some q else if tgtK q.1.Kind = true then some (ndN 16 (tText q.2) [q.1], q.2.tail) else none) ((Ok.ret _).eq (by funext n; simp only [h3, Bool.not_false, Bool.true_or, if_true])))).up fun n => by
      show pUnary (pG n) t = _; unfold pUnary; rw [if_neg (by rw [h]; decide), if_neg (by rw [h']; decide)]
theorem r_unary_post (h : tAny unaL t = false) (h' : tAny updL t = false) (h1 : MADE t (x, t1)) (h2 : MEMS true x t1 (y, t2)) (h3 : tAny updL t2 = true) (h4 : tFresh t2 = false) (h5 : tgtK y.Kind = true) : UNARY t (ndN 16 (tText t2) [y], t2.tail) :=
  (h1.bind (g := fun q n => ((pG n).mems true q.1 q.2).bind fun q => if (!tAny updL q.2 || tFresh q.2) = true then some q else if tgtK q.1.Kind = true then some (ndN 16 (tText q.2) [q.1], q.2.tail) else none)
    (h2.bind (g := fun q _ => if (!tAny updL q.2 || tFresh q.2) = true then some q else if tgtK q.1.Kind = true then some (ndN 16 (tText q.2) [q.1], q.2.tail) else none) ((Ok.ret _).eq (by funext n; simp only [h3, h4, h5, Bool.not_true, Bool.or_self, Bool.false_eq_true, if_false, if_true])))).up fun n => by
      show pUnary (pG n) t = _; unfold pUnary; rw [if_neg (by rw [h]; decide), if_neg (by rw [h']; decide)]
theorem r_mems_end (h1 : tIs [46] t = false) (h2 : tIs [91] t = false) (h3 : (calls && tIs [40] t) = false) : MEMS calls x t (x, t) :=
  (Ok.ret (x, t)).up fun n => by show pMems (pG n) calls x t = _; unfold pMems; rw [if_neg (by rw [h1]; decide), if_neg (by rw [h2]; decide), if_neg (by rw [h3]; decide)]
theorem r_mems_dot (h1 : tIs [46] t = true) (h2 : (tKind t.tail == 1 || tKind t.tail == 2) = true) (h3 : MEMS calls (ndN 11 (tText t.tail) [x]) t.tail.tail v) : MEMS calls x t v :=
  h3.up fun n => by show pMems (pG n) calls x t = _; unfold pMems; rw [if_pos h1, if_pos h2]
theorem r_mems_idx (h1 : tIs [46] t = false) (h2 : tIs [91] t = true) (h3 : EXPR false t.tail (y, t1)) (h4 : tIs [93] t1 = true) (h5 : MEMS calls (nd 12 [x, y]) t1.tail v) : MEMS calls x t v :=
  (h3.bind (g := fun k n => (tNeed [93] k.2).bind fun t => (pG n).mems calls (nd 12 [x, k.1]) t) (h5.eq (by funext n; simp only [tNeed_ok h4, Option.bind_some]))).up fun n => by
    show pMems (pG n) calls x t = _; unfold pMems; rw [if_neg (by rw [h1]; decide), if_pos h2]
theorem r_mems_call (h1 : tIs [46] t = false) (h2 : tIs [91] t = false) (h3 : tIs [40] t = true) (h4 : EXPRS [41] false t.tail (l, t1)) (h5 : MEMS true (nd 13 (x :: l)) t1 v) : MEMS true x t v :=
  (h4.bind (g := fun k n => (pG n).mems true (nd 13 (x :: k.1)) k.2) h5).up fun n => by
    show pMems (pG n) true x t = _; unfold pMems; rw [if_neg (by rw [h1]; decide), if_neg (by rw [h2]; decide), if_pos (by rw [h3]; decide)]
theorem r_made_new (h1 : tIs [110, 101, 119] t = true) (h2 : MADE t.tail (x, t1)) (h3 : MEMS false x t1 (y, t2)) (h4 : tIs [40] t2 = true) (h5 : EXPRS [41] false t2.tail (l, t3)) : MADE t (nd 14 (y :: l), t3) :=
  (h2.bind (g := fun q n => ((pG n).mems false q.1 q.2).bind fun q => if tIs [40] q.2 = true then ((pG n).exprs [41] false q.2.tail).bind fun l => some (nd 14 (q.1 :: l.1), l.2) else some (nd 14 [q.1], q.2))
    (h3.bind (g := fun q n => if tIs [40] q.2 = true then ((pG n).exprs [41] false q.2.tail).bind fun l => some (nd 14 (q.1 :: l.1), l.2) else some (nd 14 [q.1], q.2))
      ((h5.bind (g := fun l _ => some (nd 14 (y :: l.1), l.2)) (Ok.ret _)).eq (by funext n; simp only [h4, if_true])))).up fun n => by show pMade (pG n) t = _; unfold pMade; rw [if_pos h1]
theorem r_made_prim (h1 : tIs [110, 101, 119] t = false) (h2 : PRIM t v) : MADE t v :=
  h2.up fun n => by show pMade (pG n) t = _; unfold pMade; rw [if_neg (by rw [h1]; decide)]
theorem r_exprs_nil (h : tIs s t = true) : EXPRS s last t ([], t.tail) :=
  (Ok.ret _).up fun n => by show pExprs (pG n) s last t = _; unfold pExprs; rw [if_pos h]
theorem r_exprs_one (h : tIs s t = false) (h1 : ASSIGN false t (x, t1)) (h2 : tIs s t1 = true) : EXPRS s last t ([x], t1.tail) :=
  (h1.bind (g := fun x n => if tIs s x.2 = true then some ([x.1], x.2.tail) else (tNeed [44] x.2).bind fun t => if (!last && tIs s t) = true then none else ((pG n).exprs s last t).bind fun l => some (x.1 :: l.1, l.2))
    ((Ok.ret _).eq (by funext n; simp only [h2, if_true]))).up fun n => by show pExprs (pG n) s last t = _; unfold pExprs; rw [if_neg (by rw [h]; decide)]
theorem r_exprs_more (h : tIs s t = false) (h1 : ASSIGN false t (x, t1)) (h2 : tIs s t1 = false) (h3 : tIs [44] t1 = true) (h4 : tIs s t1.tail = false) (h5 : EXPRS s last t1.tail (l, t2)) : EXPRS s last t (x :: l, t2) :=
  (h1.bind (g := fun x n => if tIs s x.2 = true then some ([x.1], x.2.tail) else (tNeed [44] x.2).bind fun t => if (!last && tIs s t) = true then none else ((pG n).exprs s last t).bind fun l => some (x.1 :: l.1, l.2))
    ((h5.bind (g := fun l _ => some (x :: l.1, l.2)) (Ok.ret _)).eq (by funext n; simp only [h2, tNeed_ok h3, Option.bind_some, h4, Bool.and_false, Bool.false_eq_true, if_false]))).up fun n => by show pExprs (pG n) s last t = _; unfold pExprs; rw [if_neg (by rw [h]; decide)]
theorem r_props_nil (h : tIs [125] t = true) : PROPS t ([], t.tail) :=
  (Ok.ret _).up fun n => by show pProps (pG n) t = _; unfold pProps; rw [if_pos h]
theorem r_props_one (h : tIs [125] t = false) (h0 : tKind t = 4) (h' : tIs [58] t.tail = true) (h1 : ASSIGN false t.tail.tail (x, t1)) (h2 : tIs [125] t1 = true) : PROPS t ([⟨9, [], 0, tText t, [], [x]⟩], t1.tail) :=
  (h1.bind (g := fun x n => if tIs [125] x.2 = true then some ([(⟨9, [], 0, tText t, [], [x.1]⟩ : Node)], x.2.tail) else (tNeed [44] x.2).bind fun t2 => ((pG n).props t2).bind fun l => some ((⟨9, [], 0, tText t, [], [x.1]⟩ : Node) :: l.1, l.2))
    ((Ok.ret _).eq (by funext n; simp only [h2, if_true]))).up fun n => by
      show pProps (pG n) t = _; unfold pProps; rw [if_neg (by rw [h]; decide), if_pos (by rw [h0]; rfl), tNeed_ok h']; rfl
theorem r_props_more (h : tIs [125] t = false) (h0 : tKind t = 4) (h' : tIs [58] t.tail = true) (h1 : ASSIGN false t.tail.tail (x, t1)) (h2 : tIs [125] t1 = false) (h3 : tIs [44] t1 = true) (h5 : PROPS t1.tail (l, t2)) : PROPS t (⟨9, [], 0, tText t, [], [x]⟩ :: l, t2) :=
  (h1.bind (g := fun x n => if tIs [125] x.2 = true then some ([(⟨9, [], 0, tText t, [], [x.1]⟩ : Node)], x.2.tail) else (tNeed [44] x.2).bind fun t2 => ((pG n).props t2).bind fun l => some ((⟨9, [], 0, tText t, [], [x.1]⟩ : Node) :: l.1, l.2))
    ((h5.bind (g := fun l _ => some ((⟨9, [], 0, tText t, [], [x]⟩ : Node) :: l.1, l.2)) (Ok.ret _)).eq (by funext n; simp only [h2, tNeed_ok h3, Option.bind_some, Bool.false_eq_true, if_false]))).up fun n => by
      show pProps (pG n) t = _; unfold pProps; rw [if_neg (by rw [h]; decide), if_pos (by rw [h0]; rfl), tNeed_ok h']; rfl
theorem r_name {a : Tok} {r : Toks} (h : a.kind = 1) : PRIM (a :: r) (ndN 3 a.text [], r) :=
  (Ok.ret _).up fun n => by show pPrim (pG n) (a :: r) = _; unfold pPrim; rw [if_pos (by show (a.kind == 1) = true; rw [h]; rfl)]; rfl
theorem r_num {a : Tok} {r : Toks} (h : a.kind = 3) : PRIM (a :: r) (⟨1, [], a.num, [], [], []⟩, r) :=
  (Ok.ret _).up fun n => by
    show pPrim (pG n) (a :: r) = _; unfold pPrim
    have e1 : (tKind (a :: r) == 1) = false := by show (a.kind == 1) = false; rw [h]; rfl
    have e2 : (tKind (a :: r) == 3) = true := by show (a.kind == 3) = true; rw [h]; rfl
    rw [e1, e2]; rfl
theorem r_str {a : Tok} {r : Toks} (h : a.kind = 4) : PRIM (a :: r) (⟨2, [], 0, a.text, [], []⟩, r) :=
  (Ok.ret _).up fun n => by
    show pPrim (pG n) (a :: r) = _; unfold pPrim
    have e1 : (tKind (a :: r) == 1) = false := by show (a.kind == 1) = false; rw [h]; rfl
    have e2 : (tKind (a :: r) == 3) = false := by show (a.kind == 3) = false; rw [h]; rfl
    have e3 : (tKind (a :: r) == 4) = true := by show (a.kind == 4) = true; rw [h]; rfl
    rw [e1, e2, e3]; rfl
/-- the token at the head is this sign or word -/
structure IsOp (a : Tok) (w : Str) : Prop where
  op : opK a = true
  text : a.text = w
theorem IsOp.is {a : Tok} {w : Str} (h : IsOp a w) (s : Str) (r : Toks) : tIs s (a :: r) = (w == s) := by
  show (opK a && (a.text == s)) = _; rw [h.op, h.text, Bool.true_and]
theorem IsOp.any {a : Tok} {w : Str} (h : IsOp a w) (l : List Str) (r : Toks) : tAny l (a :: r) = l.contains w := by
  show (opK a && l.contains a.text) = _; rw [h.op, h.text, Bool.true_and]
theorem IsOp.kind {a : Tok} {w : Str} (h : IsOp a w) : a.kind = 5 ∨ a.kind = 2 := by
  have := h.op; unfold opK at this; simpa using this
theorem IsOp.kinds {a : Tok} {w : Str} (h : IsOp a w) (r : Toks) : (tKind (a :: r) == 1) = false ∧ (tKind (a :: r) == 3) = false ∧ (tKind (a :: r) == 4) = false ∧ (tKind (a :: r) == 0) = false := by
  show (a.kind == 1) = false ∧ (a.kind == 3) = false ∧ (a.kind == 4) = false ∧ (a.kind == 0) = false
  rcases h.kind with e | e <;> rw [e] <;> decide
theorem IsOp.bind {a : Tok} {w : Str} (h : IsOp a w) (no : Bool) (r : Toks) : bindT no (a :: r) = lvS no w := by
  show (if opK a = true then lvS no a.text else (0, 0)) = _; rw [h.op, h.text]; rfl
theorem r_word {a : Tok} {r : Toks} {w : Str} {x : Node} (h : IsOp a w) (hw : w = [116, 104, 105, 115] ∧ x = nd 4 [] ∨ w = [110, 117, 108, 108] ∧ x = nd 5 [] ∨ w = [102, 97, 108, 115, 101] ∧ x = nd 6 [] ∨ w = [116, 114, 117, 101] ∧ x = ⟨6, [], 1, [], [], []⟩) : PRIM (a :: r) (x, r) :=
  (Ok.ret _).up fun n => by
    obtain ⟨k1, k2, k3, _⟩ := h.kinds r
    show pPrim (pG n) (a :: r) = _; unfold pPrim
    rw [k1, k2, k3]
    simp only [h.is]
    rcases hw with ⟨rfl, rfl⟩ | ⟨rfl, rfl⟩ | ⟨rfl, rfl⟩ | ⟨rfl, rfl⟩ <;> rfl
theorem r_func {a : Tok} {r : Toks} (h : IsOp a [102, 117, 110, 99, 116, 105, 111, 110]) (h1 : FUNC 10 r v) : PRIM (a :: r) v :=
  h1.up fun n => by
    obtain ⟨k1, k2, k3, _⟩ := h.kinds r
    show pPrim (pG n) (a :: r) = _; unfold pPrim
    rw [k1, k2, k3]
    simp only [h.is]
    rfl
theorem r_paren {a : Tok} {r : Toks} (h : IsOp a [40]) (h1 : EXPR false r (x, t1)) (h2 : tIs [41] t1 = true) : PRIM (a :: r) (x, t1.tail) :=
  (h1.bind (g := fun k _ => (tNeed [41] k.2).bind fun t => some (k.1, t)) ((Ok.ret _).eq (by funext n; simp only [tNeed_ok h2, Option.bind_some]))).up fun n => by
    obtain ⟨k1, k2, k3, _⟩ := h.kinds r
    show pPrim (pG n) (a :: r) = _; unfold pPrim
    rw [k1, k2, k3]
    simp only [h.is]
    rfl
theorem r_array {a : Tok} {r : Toks} (h : IsOp a [91]) (h1 : EXPRS [93] true r (l, t1)) : PRIM (a :: r) (nd 7 l, t1) :=
  (h1.bind (g := fun l _ => some (nd 7 l.1, l.2)) (Ok.ret _)).up fun n => by
    obtain ⟨k1, k2, k3, _⟩ := h.kinds r
    show pPrim (pG n) (a :: r) = _; unfold pPrim
    rw [k1, k2, k3]
    simp only [h.is]
    rfl
theorem r_object {a : Tok} {r : Toks} (h : IsOp a [123]) (h1 : PROPS r (l, t1)) : PRIM (a :: r) (nd 8 l, t1) :=
  (h1.bind (g := fun l _ => some (nd 8 l.1, l.2)) (Ok.ret _)).up fun n => by
    obtain ⟨k1, k2, k3, _⟩ := h.kinds r
    show pPrim (pG n) (a :: r) = _; unfold pPrim
    rw [k1, k2, k3]
    simp only [h.is]
    rfl
end
end Go.D07


/- Chapter 7, plainly: what the writer lays down of an expression is read as that expression. -/
namespace Go.D07
open Go Go.Gw Go.Dn
set_option linter.unusedSimpArgs false
set_option maxRecDepth 100000

/-- the signs and the words that the writer lays down -/
def opsA : List Str := [[40], [41], [91], [93], [123], [125], [46], [44], [58], [59], [63], [116, 104, 105, 115], [110, 117, 108, 108], [116, 114, 117, 101], [102, 97, 108, 115, 101], [102, 117, 110, 99, 116, 105, 111, 110], [110, 101, 119], [45], [43], [33], [116, 121, 112, 101, 111, 102], [100, 101, 108, 101, 116, 101], [118, 111, 105, 100], [43, 43], [45, 45], [42], [47], [37], [60], [62], [60, 61], [62, 61], [61, 61], [33, 61], [61, 61, 61], [33, 61, 61], [105, 110], [105, 110, 115, 116, 97, 110, 99, 101, 111, 102], [38, 38], [124, 124], [61], [43, 61], [45, 61], [42, 61], [47, 61], [37, 61], [118, 97, 114], [105, 102], [101, 108, 115, 101], [119, 104, 105, 108, 101], [100, 111], [102, 111, 114], [98, 114, 101, 97, 107], [99, 111, 110, 116, 105, 110, 117, 101], [114, 101, 116, 117, 114, 110], [116, 104, 114, 111, 119], [116, 114, 121], [99, 97, 116, 99, 104], [102, 105, 110, 97, 108, 108, 121], [115, 119, 105, 116, 99, 104], [99, 97, 115, 101], [100, 101, 102, 97, 117, 108, 116]]
/-- how a token is told apart -/
structure Cls (c : Str → Tok) : Prop where
  op : ∀ w ∈ opsA, IsOp (c w) w
  name : ∀ s, nameP s = true → (c s).kind = 1 ∧ (c s).text = s
  ident : ∀ s, identP s = true → ((c s).kind = 1 ∨ (c s).kind = 2) ∧ (c s).text = s
  num : ∀ n : Int, 0 ≤ n → n ≤ 9007199254740991 → (c (Lib.itoa n)).kind = 3 ∧ (c (Lib.itoa n)).num = n
  str : ∀ s, evenP s = true → s.length ≤ 100000000 → (c (quoteP s)).kind = 4 ∧ (c (quoteP s)).text = s
  fresh : ∀ s, (c s).fresh = false
  opt : ∀ s, opK (c s) = true → (c s).text = s
/-- what may begin an expression -/
def begL : List Str := [[116, 104, 105, 115], [110, 117, 108, 108], [116, 114, 117, 101], [102, 97, 108, 115, 101], [102, 117, 110, 99, 116, 105, 111, 110], [40], [91], [123], [110, 101, 119], [45], [43], [33], [116, 121, 112, 101, 111, 102], [100, 101, 108, 101, 116, 101], [118, 111, 105, 100], [43, 43], [45, 45]]
def opB (w : Str) : Bool := unaL.contains w || updL.contains w
/-- an expression's first token; tight: no operator -/
def Beg (tight : Bool) (t : Toks) : Prop := ∃ a r, t = a :: r ∧ a.fresh = false ∧ (a.kind = 1 ∨ a.kind = 3 ∨ a.kind = 4 ∨ ∃ w, IsOp a w ∧ w ∈ begL ∧ (tight = true → opB w = false))
theorem Beg.loose {b : Bool} {t : Toks} (h : Beg b t) : Beg false t := by
  obtain ⟨a, r, e, hf, h⟩ := h
  refine ⟨a, r, e, hf, ?_⟩
  rcases h with h | h | h | ⟨w, h1, h2, _⟩
  · exact .inl h
  · exact .inr (.inl h)
  · exact .inr (.inr (.inl h))
  · exact .inr (.inr (.inr ⟨w, h1, h2, fun e => by cases e⟩))
theorem opK_no {a : Tok} (h : a.kind = 1 ∨ a.kind = 3 ∨ a.kind = 4) : opK a = false := by
  unfold opK; rcases h with h | h | h <;> rw [h] <;> rfl
theorem Beg.is {b : Bool} {t : Toks} (h : Beg b t) {s : Str} (hs : begL.contains s = false) : tIs s t = false := by
  obtain ⟨a, r, rfl, _, h⟩ := h
  rcases h with h | h | h | ⟨w, h1, h2, _⟩
  · show (opK a && _) = false; rw [opK_no (.inl h)]; rfl
  · show (opK a && _) = false; rw [opK_no (.inr (.inl h))]; rfl
  · show (opK a && _) = false; rw [opK_no (.inr (.inr h))]; rfl
  · rw [h1.is, beq_eq_false_iff_ne]
    rintro rfl
    rw [show begL.contains w = true by simpa using h2] at hs
    cases hs
theorem Beg.any {b : Bool} {t : Toks} (h : Beg b t) {l : List Str} (hs : ∀ w ∈ begL, l.contains w = false) : tAny l t = false := by
  obtain ⟨a, r, rfl, _, h⟩ := h
  rcases h with h | h | h | ⟨w, h1, h2, _⟩
  · show (opK a && _) = false; rw [opK_no (.inl h)]; rfl
  · show (opK a && _) = false; rw [opK_no (.inr (.inl h))]; rfl
  · show (opK a && _) = false; rw [opK_no (.inr (.inr h))]; rfl
  · rw [h1.any]; exact hs w h2
theorem Beg.una {t : Toks} (h : Beg true t) : tAny unaL t = false ∧ tAny updL t = false := by
  obtain ⟨a, r, rfl, _, h⟩ := h
  rcases h with h | h | h | ⟨w, h1, h2, h3⟩
  · exact ⟨by show (opK a && _) = false; rw [opK_no (.inl h)]; rfl, by show (opK a && _) = false; rw [opK_no (.inl h)]; rfl⟩
  · exact ⟨by show (opK a && _) = false; rw [opK_no (.inr (.inl h))]; rfl, by show (opK a && _) = false; rw [opK_no (.inr (.inl h))]; rfl⟩
  · exact ⟨by show (opK a && _) = false; rw [opK_no (.inr (.inr h))]; rfl, by show (opK a && _) = false; rw [opK_no (.inr (.inr h))]; rfl⟩
  · have := h3 rfl
    unfold opB at this
    rw [Bool.or_eq_false_iff] at this
    rw [h1.any, h1.any]; exact this
theorem Beg.kind0 {b : Bool} {t : Toks} (h : Beg b t) : (tKind t == 0) = false := by
  obtain ⟨a, r, rfl, _, h⟩ := h
  show (a.kind == 0) = false
  rcases h with h | h | h | ⟨w, h1, _⟩
  · rw [h]; rfl
  · rw [h]; rfl
  · rw [h]; rfl
  · rcases h1.kind with e | e <;> rw [e] <;> rfl
theorem Beg.fresh {b : Bool} {t : Toks} (h : Beg b t) : tFresh t = false := by
  obtain ⟨a, r, rfl, h, _⟩ := h
  exact h
/-- how tightly what follows holds on to what stands ahead: 12 a member, 11 a call, 10 an update, 3 to 8 an operator, 2 a condition, 1 an assignment, 0 a comma -/
def folS (no : Bool) (w : Str) : Int :=
  if ((lvS no w).1 == 0) = false then (lvS no w).1
  else if (w == ([46] : Str) || w == ([91] : Str)) = true then 12
  else if (w == ([40] : Str)) = true then 11
  else if updL.contains w = true then 10
  else if (w == ([63] : Str)) = true then 2
  else if asgL.contains w = true then 1
  else if (w == ([44] : Str)) = true then 0
  else -1
def folT (no : Bool) : Toks → Int
  | t :: _ => if opK t = true then folS no t.text else -1
  | [] => -1
theorem IsOp.fol {a : Tok} {w : Str} (h : IsOp a w) (no : Bool) (r : Toks) : folT no (a :: r) = folS no w := by
  show (if opK a = true then folS no a.text else -1) = _; rw [h.op, h.text]; rfl
theorem tIs_elim {s : Str} {t : Toks} (h : tIs s t = true) : ∃ a r, t = a :: r ∧ IsOp a s := by
  cases t with
  | nil => cases h
  | cons a r =>
    have h : (opK a && (a.text == s)) = true := h
    rw [Bool.and_eq_true] at h
    exact ⟨a, r, rfl, h.1, eq_of_beq h.2⟩
theorem tAny_elim {l : List Str} {t : Toks} (h : tAny l t = true) : ∃ a r w, t = a :: r ∧ IsOp a w ∧ w ∈ l := by
  cases t with
  | nil => cases h
  | cons a r =>
    have h : (opK a && l.contains a.text) = true := h
    rw [Bool.and_eq_true] at h
    exact ⟨a, r, a.text, rfl, ⟨h.1, rfl⟩, by simpa using h.2⟩
theorem fol_is {no : Bool} {t : Toks} {s : Str} (h : folT no t ≠ folS no s) : tIs s t = false := by
  cases e : tIs s t with
  | false => rfl
  | true =>
    obtain ⟨a, r, rfl, ho⟩ := tIs_elim e
    exact absurd (ho.fol no r) h
theorem fol_any {no : Bool} {t : Toks} {l : List Str} {k : Int} (hl : ∀ w ∈ l, folS no w = k) (h : folT no t ≠ k) : tAny l t = false := by
  cases e : tAny l t with
  | false => rfl
  | true =>
    obtain ⟨a, r, w, rfl, ho, hw⟩ := tAny_elim e
    exact absurd ((ho.fol no r).trans (hl w hw)) h
theorem fol_dot {no : Bool} {t : Toks} (h : folT no t < 12) : tIs [46] t = false ∧ tIs [91] t = false :=
  ⟨fol_is (no := no) (by rw [show folS no [46] = 12 by cases no <;> decide]; omega), fol_is (no := no) (by rw [show folS no [91] = 12 by cases no <;> decide]; omega)⟩
theorem fol_call {no : Bool} {t : Toks} (h : folT no t < 11) : tIs [40] t = false := fol_is (no := no) (by rw [show folS no [40] = 11 by cases no <;> decide]; omega)
theorem fol_upd {no : Bool} {t : Toks} (h : folT no t < 10) : tAny updL t = false := fol_any (no := no) (k := 10) (by cases no <;> decide) (by omega)
theorem fol_asg {no : Bool} {t : Toks} (h : folT no t < 1) : tAny asgL t = false := fol_any (no := no) (k := 1) (by cases no <;> decide) (by omega)
theorem fol_cond {no : Bool} {t : Toks} (h : folT no t < 2) : tIs [63] t = false := fol_is (no := no) (by rw [show folS no [63] = 2 by cases no <;> decide]; omega)
theorem fol_comma {no : Bool} {t : Toks} (h : folT no t < 0) : tIs [44] t = false := fol_is (no := no) (by rw [show folS no [44] = 0 by cases no <;> decide]; omega)
theorem fol_bind {no : Bool} {t : Toks} : (bindT no t).1 = 0 ∨ (bindT no t).1 = folT no t := by
  cases t with
  | nil => exact .inl rfl
  | cons a r =>
    show (if opK a = true then lvS no a.text else (0, 0)).1 = 0 ∨ (if opK a = true then lvS no a.text else (0, 0)).1 = (if opK a = true then folS no a.text else -1)
    cases opK a with
    | false => exact .inl rfl
    | true =>
      simp only [if_true]
      unfold folS
      cases h : (lvS no a.text).1 == 0 with
      | true => exact .inl (eq_of_beq h)
      | false => exact .inr rfl
theorem bins_end {no : Bool} {t : Toks} {least : Int} {x : Node} (h : folT no t < least) : BINS no least x t (x, t) := by
  refine r_bins_end ?_
  rcases fol_bind (no := no) (t := t) with e | e
  · rw [e]; simp
  · rw [e, show decide (folT no t < least) = true by simpa using h]; rfl
theorem comma_end {no : Bool} {t : Toks} {x : Node} (h : folT no t < 0) : COMMA no x t (x, t) := r_comma_end (fol_comma h)
theorem mems_end {no : Bool} {t : Toks} {x : Node} {calls : Bool} (h : folT no t < 11) : MEMS calls x t (x, t) :=
  r_mems_end (fol_dot (no := no) (by omega)).1 (fol_dot (no := no) (by omega)).2 (by rw [fol_call h, Bool.and_false])
/-- made, and its members -/
def MM (calls : Bool) (t : Toks) (v : Node × Toks) : Prop := ∃ y t1, MADE t (y, t1) ∧ MEMS calls y t1 v
theorem un_of_mm {no : Bool} {t r : Toks} {x : Node} (hb : Beg true t) (h : MM true t (x, r)) (hf : folT no r ≤ 8) : UNARY t (x, r) := by
  obtain ⟨y, t1, h1, h2⟩ := h
  exact r_unary_plain hb.una.1 hb.una.2 h1 h2 (fol_upd (no := no) (by omega))
/-- no in where none may stand -/
def inOK (no : Bool) (x : Node) : Prop := ¬ (no = true ∧ x.Kind = 17 ∧ x.Name = [105, 110])
section
variable (c : Str → Tok)
def T (l : List Str) : Toks := l.map c
theorem T_app (a b : List Str) : T c (a ++ b) = T c a ++ T c b := by simp [T]
theorem T_cons (a : Str) (b : List Str) : T c (a :: b) = c a :: T c b := rfl
/-- an expression's tokens are read as that expression -/
structure RT (x : Node) : Prop where
  beg : ∀ no r, Beg (decide (11 ≤ (tkN x).lvl)) (T c ((tkN x).ex no) ++ r)
  lab : ∀ no r, tIs [58] r = false → tKind (T c ((tkN x).ex no) ++ r) = 1 → tIs [58] (T c ((tkN x).ex no) ++ r).tail = false
  mm : ∀ no r v calls, inOK no x → (12 ≤ (tkN x).lvl ∨ (11 ≤ (tkN x).lvl ∧ calls = true)) → MEMS calls x r v → MM calls (T c ((tkN x).ex no) ++ r) v
  un : ∀ no r, inOK no x → 9 ≤ (tkN x).lvl → folT no r ≤ 8 → UNARY (T c ((tkN x).ex no) ++ r) (x, r)
  bin : ∀ no r v least, inOK no x → 3 ≤ least → least ≤ (tkN x).lvl → folT no r ≤ 8 → folT no r ≤ (tkN x).lvl → BINS no least x r v → BINARY no least (T c ((tkN x).ex no) ++ r) v
  asg : ∀ no r, inOK no x → 1 ≤ (tkN x).lvl → folT no r ≤ 0 → ASSIGN no (T c ((tkN x).ex no) ++ r) (x, r)
  exp : ∀ no r v, inOK no x → folT no r ≤ 0 → COMMA no x r v → EXPR no (T c ((tkN x).ex no) ++ r) v
variable {c}
/-- the lower levels follow from the higher ones -/
theorem rt_asg {x : Node} (h : ∀ no r, inOK no x → 1 ≤ (tkN x).lvl → folT no r ≤ 0 → ASSIGN no (T c ((tkN x).ex no) ++ r) (x, r)) (hl : 1 ≤ (tkN x).lvl) :
    ∀ no r v, inOK no x → folT no r ≤ 0 → COMMA no x r v → EXPR no (T c ((tkN x).ex no) ++ r) v := fun no r v hi hf hc => r_expr (h no r hi hl hf) hc
theorem rt_bin {x : Node} (h : ∀ no r v least, inOK no x → 3 ≤ least → least ≤ (tkN x).lvl → folT no r ≤ 8 → folT no r ≤ (tkN x).lvl → BINS no least x r v → BINARY no least (T c ((tkN x).ex no) ++ r) v) (hl : 3 ≤ (tkN x).lvl) :
    ∀ no r, inOK no x → 1 ≤ (tkN x).lvl → folT no r ≤ 0 → ASSIGN no (T c ((tkN x).ex no) ++ r) (x, r) := fun no r hi _ hf =>
  r_assign_plain (h no r _ 3 hi (by omega) hl (by omega) (by omega) (bins_end (by omega))) (fol_cond (no := no) (by omega)) (fol_asg (no := no) (by omega))
theorem rt_un {x : Node} (h : ∀ no r, inOK no x → 9 ≤ (tkN x).lvl → folT no r ≤ 8 → UNARY (T c ((tkN x).ex no) ++ r) (x, r)) (hl : 9 ≤ (tkN x).lvl) :
    ∀ no r v least, inOK no x → 3 ≤ least → least ≤ (tkN x).lvl → folT no r ≤ 8 → folT no r ≤ (tkN x).lvl → BINS no least x r v → BINARY no least (T c ((tkN x).ex no) ++ r) v := fun no r v least hi _ _ hf _ hb =>
  r_binary (h no r hi hl hf) hb
theorem rt_mm {x : Node} (hg : ∀ no r, Beg (decide (11 ≤ (tkN x).lvl)) (T c ((tkN x).ex no) ++ r)) (h : ∀ no r v calls, inOK no x → (12 ≤ (tkN x).lvl ∨ (11 ≤ (tkN x).lvl ∧ calls = true)) → MEMS calls x r v → MM calls (T c ((tkN x).ex no) ++ r) v) (hl : 11 ≤ (tkN x).lvl) :
    ∀ no r, inOK no x → 9 ≤ (tkN x).lvl → folT no r ≤ 8 → UNARY (T c ((tkN x).ex no) ++ r) (x, r) := fun no r hi _ hf => by
  have hb := hg no r
  rw [show decide (11 ≤ (tkN x).lvl) = true by simpa using hl] at hb
  exact un_of_mm hb (h no r _ true hi (.inr ⟨hl, rfl⟩) (mems_end (no := no) (by omega))) hf
/-- levels 11 and up -/
theorem RT.of11 {x : Node} (hl : 11 ≤ (tkN x).lvl) (beg : ∀ no r, Beg true (T c ((tkN x).ex no) ++ r)) (lab : ∀ no r, tIs [58] r = false → tKind (T c ((tkN x).ex no) ++ r) = 1 → tIs [58] (T c ((tkN x).ex no) ++ r).tail = false)
    (mm : ∀ no r v calls, inOK no x → (12 ≤ (tkN x).lvl ∨ (11 ≤ (tkN x).lvl ∧ calls = true)) → MEMS calls x r v → MM calls (T c ((tkN x).ex no) ++ r) v) : RT c x :=
  have hg : ∀ no r, Beg (decide (11 ≤ (tkN x).lvl)) (T c ((tkN x).ex no) ++ r) := by rw [show decide (11 ≤ (tkN x).lvl) = true by simpa using hl]; exact beg
  have un := rt_mm hg mm hl
  have bin := rt_un un (by omega)
  have asg := rt_bin bin (by omega)
  ⟨hg, lab, mm, un, bin, asg, rt_asg asg (by omega)⟩
theorem RT.of9 {x : Node} (hl : (tkN x).lvl = 9 ∨ (tkN x).lvl = 10) (beg : ∀ no r, Beg false (T c ((tkN x).ex no) ++ r)) (lab : ∀ no r, tIs [58] r = false → tKind (T c ((tkN x).ex no) ++ r) = 1 → tIs [58] (T c ((tkN x).ex no) ++ r).tail = false)
    (un : ∀ no r, inOK no x → folT no r ≤ 8 → UNARY (T c ((tkN x).ex no) ++ r) (x, r)) : RT c x :=
  have hg : ∀ no r, Beg (decide (11 ≤ (tkN x).lvl)) (T c ((tkN x).ex no) ++ r) := by rw [show decide (11 ≤ (tkN x).lvl) = false by simp; omega]; exact beg
  have un' : ∀ no r, inOK no x → 9 ≤ (tkN x).lvl → folT no r ≤ 8 → UNARY (T c ((tkN x).ex no) ++ r) (x, r) := fun no r hi _ hf => un no r hi hf
  have bin := rt_un un' (by omega)
  have asg := rt_bin bin (by omega)
  ⟨hg, lab, fun _ _ _ _ _ h _ => by omega, un', bin, asg, rt_asg asg (by omega)⟩
theorem RT.of3 {x : Node} (hl : 3 ≤ (tkN x).lvl ∧ (tkN x).lvl ≤ 8) (beg : ∀ no r, Beg false (T c ((tkN x).ex no) ++ r)) (lab : ∀ no r, tIs [58] r = false → tKind (T c ((tkN x).ex no) ++ r) = 1 → tIs [58] (T c ((tkN x).ex no) ++ r).tail = false)
    (bin : ∀ no r v least, inOK no x → 3 ≤ least → least ≤ (tkN x).lvl → folT no r ≤ (tkN x).lvl → BINS no least x r v → BINARY no least (T c ((tkN x).ex no) ++ r) v) : RT c x :=
  have hg : ∀ no r, Beg (decide (11 ≤ (tkN x).lvl)) (T c ((tkN x).ex no) ++ r) := by rw [show decide (11 ≤ (tkN x).lvl) = false by simp; omega]; exact beg
  have bin' : ∀ no r v least, inOK no x → 3 ≤ least → least ≤ (tkN x).lvl → folT no r ≤ 8 → folT no r ≤ (tkN x).lvl → BINS no least x r v → BINARY no least (T c ((tkN x).ex no) ++ r) v := fun no r v least hi h1 h2 _ h3 hb => bin no r v least hi h1 h2 h3 hb
  have asg := rt_bin bin' (by omega)
  ⟨hg, lab, fun _ _ _ _ _ h _ => by omega, fun _ _ _ h _ => by omega, bin', asg, rt_asg asg (by omega)⟩
theorem RT.of1 {x : Node} (hl : (tkN x).lvl = 1 ∨ (tkN x).lvl = 2) (beg : ∀ no r, Beg false (T c ((tkN x).ex no) ++ r)) (lab : ∀ no r, tIs [58] r = false → tKind (T c ((tkN x).ex no) ++ r) = 1 → tIs [58] (T c ((tkN x).ex no) ++ r).tail = false)
    (asg : ∀ no r, inOK no x → folT no r ≤ 0 → ASSIGN no (T c ((tkN x).ex no) ++ r) (x, r)) : RT c x :=
  have hg : ∀ no r, Beg (decide (11 ≤ (tkN x).lvl)) (T c ((tkN x).ex no) ++ r) := by rw [show decide (11 ≤ (tkN x).lvl) = false by simp; omega]; exact beg
  have asg' : ∀ no r, inOK no x → 1 ≤ (tkN x).lvl → folT no r ≤ 0 → ASSIGN no (T c ((tkN x).ex no) ++ r) (x, r) := fun no r hi _ hf => asg no r hi hf
  ⟨hg, lab, fun _ _ _ _ _ h _ => by omega, fun _ _ _ h _ => by omega, fun _ _ _ _ _ h1 h2 => by omega, asg', rt_asg asg' (by omega)⟩
theorem RT.of0 {x : Node} (hl : (tkN x).lvl = 0) (beg : ∀ no r, Beg false (T c ((tkN x).ex no) ++ r)) (lab : ∀ no r, tIs [58] r = false → tKind (T c ((tkN x).ex no) ++ r) = 1 → tIs [58] (T c ((tkN x).ex no) ++ r).tail = false)
    (exp : ∀ no r v, inOK no x → folT no r ≤ 0 → COMMA no x r v → EXPR no (T c ((tkN x).ex no) ++ r) v) : RT c x :=
  have hg : ∀ no r, Beg (decide (11 ≤ (tkN x).lvl)) (T c ((tkN x).ex no) ++ r) := by rw [show decide (11 ≤ (tkN x).lvl) = false by simp; omega]; exact beg
  ⟨hg, lab, fun _ _ _ _ _ h _ => by omega, fun _ _ _ h _ => by omega, fun _ _ _ _ _ h1 h2 => by omega, fun _ _ _ h _ => by omega, exp⟩
theorem at_in {x : Node} {least : Int} {no : Bool} (h : ¬ (decide ((tkN x).lvl < least) || ((no && ((tkN x).x.Kind == 17)) && ((tkN x).x.Name == ([105, 110] : Str)))) = true) : least ≤ (tkN x).lvl ∧ inOK no x := by
  rw [kids_x] at h
  simp only [Bool.or_eq_true, decide_eq_true_eq, not_or, Bool.and_eq_true, beq_iff_eq] at h
  exact ⟨by omega, fun e => h.2 ⟨⟨e.1, e.2.1⟩, e.2.2⟩⟩
section
variable (C : Cls c)
include C
theorem op_of {w : Str} (h : opsA.contains w = true) : IsOp (c w) w := C.op w (by simpa using h)
/-- in brackets -/
theorem made_paren {x : Node} (R : RT c x) (r : Toks) : MADE (T c ([40] :: ((tkN x).ex false ++ [[41]])) ++ r) (x, r) := by
  have o1 := op_of C (w := [40]) (by decide)
  have o2 := op_of C (w := [41]) (by decide)
  rw [T_cons, T_app, List.cons_append, List.append_assoc]
  refine r_made_prim (by rw [o1.is]; decide) ?_
  have hx := R.exp false (c [41] :: r) (x, c [41] :: r) (fun h => by cases h.1) (by rw [o2.fol]; decide) (comma_end (by rw [o2.fol]; decide))
  exact r_paren o1 hx (by rw [o2.is]; decide)
theorem beg_paren (b : Bool) (l : List Str) (r : Toks) : Beg b (T c ([40] :: l) ++ r) :=
  ⟨c [40], T c l ++ r, rfl, C.fresh _, .inr (.inr (.inr ⟨[40], op_of C (by decide), by decide, fun _ => by decide⟩))⟩
theorem at_beg {x : Node} (R : RT c x) (least : Int) (no : Bool) (r : Toks) : Beg (decide (11 ≤ least)) (T c (atT (tkN x) least no) ++ r) := by
  unfold atT
  split
  · exact beg_paren C _ _ _
  · rename_i h
    have hb := R.beg no r
    simp only [Bool.or_eq_true, decide_eq_true_eq, not_or] at h
    cases hl : decide (11 ≤ least) with
    | false => exact hb.loose
    | true =>
      have : 11 ≤ least := by simpa using hl
      rw [show decide (11 ≤ (tkN x).lvl) = true by simp; omega] at hb
      exact hb
theorem at_lab {x : Node} (R : RT c x) (least : Int) (no : Bool) (r : Toks) (h1 : tIs [58] r = false) (h2 : tKind (T c (atT (tkN x) least no) ++ r) = 1) : tIs [58] (T c (atT (tkN x) least no) ++ r).tail = false := by
  unfold atT at h2 ⊢
  split at h2
  · exfalso
    have o1 := op_of C (w := [40]) (by decide)
    have := (o1.kinds (T c ((tkN x).ex false ++ [[41]]) ++ r)).1
    rw [beq_eq_false_iff_ne] at this
    exact this h2
  · rename_i h
    rw [if_neg h]
    exact R.lab no r h1 h2
theorem at_mm {x : Node} (R : RT c x) (least : Int) (no calls : Bool) (r : Toks) (v : Node × Toks) (hl : least = 12 ∨ (least = 11 ∧ calls = true)) (h : MEMS calls x r v) : MM calls (T c (atT (tkN x) least no) ++ r) v := by
  unfold atT
  split
  · exact ⟨x, r, made_paren C R r, h⟩
  · rename_i hc
    obtain ⟨h1, h2⟩ := at_in hc
    exact R.mm no r v calls h2 (by rcases hl with rfl | ⟨rfl, hcc⟩; exact .inl h1; exact .inr ⟨h1, hcc⟩) h
theorem at_un {x : Node} (R : RT c x) (no : Bool) (r : Toks) (hf : folT no r ≤ 8) (least : Int) (hl : 9 ≤ least) : UNARY (T c (atT (tkN x) least no) ++ r) (x, r) := by
  unfold atT
  split
  · exact un_of_mm (beg_paren C true _ _) ⟨x, r, made_paren C R r, mems_end (no := no) (by omega)⟩ hf
  · rename_i hc
    obtain ⟨h1, h2⟩ := at_in hc
    exact R.un no r h2 (by omega) hf
theorem at_bin {x : Node} (R : RT c x) (no : Bool) (r : Toks) (v : Node × Toks) (L least : Int) (h1 : 3 ≤ least) (h2 : least ≤ L) (hf : folT no r ≤ 8) (hf2 : folT no r ≤ L) (hb : BINS no least x r v) : BINARY no least (T c (atT (tkN x) L no) ++ r) v := by
  unfold atT
  split
  · exact r_binary (un_of_mm (beg_paren C true _ _) ⟨x, r, made_paren C R r, mems_end (no := no) (by omega)⟩ hf) hb
  · rename_i hc
    obtain ⟨h3, h4⟩ := at_in hc
    exact R.bin no r v least h4 h1 (by omega) hf (by omega) hb
theorem at_asg {x : Node} (R : RT c x) (no : Bool) (r : Toks) (hf : folT no r ≤ 0) (L : Int) (hL : 1 ≤ L) : ASSIGN no (T c (atT (tkN x) L no) ++ r) (x, r) := by
  unfold atT
  split
  · exact r_assign_plain (r_binary (un_of_mm (no := no) (beg_paren C true _ _) ⟨x, r, made_paren C R r, mems_end (no := no) (by omega)⟩ (by omega)) (bins_end (by omega))) (fol_cond (no := no) (by omega)) (fol_asg (no := no) (by omega))
  · rename_i hc
    obtain ⟨h3, h4⟩ := at_in hc
    exact R.asg no r h4 (by omega) hf
theorem at_exp {x : Node} (R : RT c x) (no : Bool) (r : Toks) (v : Node × Toks) (hf : folT no r ≤ 0) (hc : COMMA no x r v) (L : Int) : EXPR no (T c (atT (tkN x) L no) ++ r) v := by
  unfold atT
  split
  · exact r_expr (r_assign_plain (r_binary (un_of_mm (no := no) (beg_paren C true _ _) ⟨x, r, made_paren C R r, mems_end (no := no) (by omega)⟩ (by omega)) (bins_end (by omega))) (fol_cond (no := no) (by omega)) (fol_asg (no := no) (by omega))) hc
  · rename_i hc'
    obtain ⟨h3, h4⟩ := at_in hc'
    exact R.exp no r v h4 hf hc
/-- what ends an expression -/
def endB (w : Str) : Bool := [[41], [93], [125], [58], [59]].contains w
theorem at_end {x : Node} (R : RT c x) (no : Bool) (w : Str) (r : Toks) (hw : endB w = true) (ho : opsA.contains w = true) (L : Int) : EXPR no (T c (atT (tkN x) L no) ++ (c w :: r)) (x, c w :: r) := by
  have o := op_of C (w := w) ho
  have hf : folS no w = -1 := by
    have : w ∈ ([[41], [93], [125], [58], [59]] : List Str) := by simpa [endB] using hw
    simp only [List.mem_cons, List.not_mem_nil, or_false] at this
    rcases this with rfl | rfl | rfl | rfl | rfl <;> cases no <;> decide
  exact at_exp C R no _ _ (by rw [o.fol, hf]; decide) (comma_end (by rw [o.fol, hf]; decide)) L
end
end
end Go.D07


/- Chapter 7, plainly: each kind of expression is read as that expression. -/
namespace Go.D07
open Go Go.Gw Go.Dn
set_option linter.unusedSimpArgs false
set_option maxRecDepth 100000

theorem own_rest {x : Node} (ho : ownP x = true) : (x.Kind ≠ 2 → x.Kind ≠ 9 → x.Text = []) ∧ (x.Kind ≠ 10 → x.Kind ≠ 39 → x.Names = []) ∧ (x.Kind ≠ 1 → x.Kind ≠ 6 → x.Kind ≠ 16 → x.Num = 0) := by
  simp only [ownP, Bool.and_eq_true, Bool.or_eq_true, beq_iff_eq, List.isEmpty_iff] at ho
  refine ⟨fun h1 h2 => ?_, fun h1 h2 => ?_, fun h1 h2 h3 => ?_⟩
  · rcases ho.1.2 with h | h | h
    · exact h
    · exact absurd h h1
    · exact absurd h h2
  · rcases ho.2.2.2.1 with h | h | h
    · exact h
    · exact absurd h h1
    · exact absurd h h2
  · have := ho.2.2.1
    unfold numP at this
    rw [if_neg (by simpa using h1), if_neg (by simp [h2, h3])] at this
    simpa using this
def nameKs : List Int := [3, 10, 11, 15, 16, 17, 18, 20, 23, 31, 32, 35, 38, 39]
theorem own_noname {x : Node} (ho : ownP x = true) (h : nameKs.contains x.Kind = false) : x.Name = [] := by
  have h1 := (own_parts ho).1
  have h : x.Kind ∉ nameKs := by simpa using h
  simp only [nameKs, List.mem_cons, List.not_mem_nil, or_false, not_or] at h
  unfold rnamedP at h1
  rw [if_neg (by simp; omega), if_neg (by simp; omega), if_neg (by simp; omega), if_neg (by simp; omega), if_neg (by simp; omega), if_neg (by simp; omega), if_neg (by simp; omega), if_neg (by simp; omega), if_neg (by simp; omega)] at h1
  simpa using h1
theorem mk_ndN {x : Node} {k : Int} (h : x.Kind = k) (ho : ownP x = true) (hk : ([1, 2, 6, 9, 10, 16, 39] : List Int).contains k = false) : x = ndN k x.Name x.L := by
  obtain ⟨g1, g2, g3⟩ := own_rest ho
  have hk : k ∉ ([1, 2, 6, 9, 10, 16, 39] : List Int) := by simpa using hk
  simp only [List.mem_cons, List.not_mem_nil, or_false, not_or] at hk
  have h1 := g1 (by omega) (by omega); have h2 := g2 (by omega) (by omega); have h3 := g3 (by omega) (by omega) (by omega)
  cases x; simp only at h h1 h2 h3; subst h; subst h1; subst h2; subst h3; rfl
theorem mk_nd {x : Node} {k : Int} (h : x.Kind = k) (ho : ownP x = true) (hk : ([1, 2, 6, 9, 10, 16, 39] : List Int).contains k = false) (hn : nameKs.contains k = false) : x = nd k x.L := by
  have e := mk_ndN h ho hk
  have n := own_noname ho (by rw [h]; exact hn)
  rw [n] at e; exact e
theorem mk_1 {x : Node} (h : x.Kind = 1) (ho : ownP x = true) (hl : x.L = []) : x = ⟨1, [], x.Num, [], [], []⟩ := by
  obtain ⟨g1, g2, g3⟩ := own_rest ho
  have h1 := g1 (by omega) (by omega); have h2 := g2 (by omega) (by omega)
  have n := own_noname ho (by rw [h]; decide)
  cases x; simp only at h h1 h2 n hl; subst h; subst h1; subst h2; subst n; subst hl; rfl
theorem mk_2 {x : Node} (h : x.Kind = 2) (ho : ownP x = true) (hl : x.L = []) : x = ⟨2, [], 0, x.Text, [], []⟩ := by
  obtain ⟨g1, g2, g3⟩ := own_rest ho
  have h2 := g2 (by omega) (by omega); have h3 := g3 (by omega) (by omega) (by omega)
  have n := own_noname ho (by rw [h]; decide)
  cases x; simp only at h h2 h3 n hl; subst h; subst h2; subst h3; subst n; subst hl; rfl
theorem mk_9 {x : Node} (h : x.Kind = 9) (ho : ownP x = true) : x = ⟨9, [], 0, x.Text, [], x.L⟩ := by
  obtain ⟨g1, g2, g3⟩ := own_rest ho
  have h2 := g2 (by omega) (by omega); have h3 := g3 (by omega) (by omega) (by omega)
  have n := own_noname ho (by rw [h]; decide)
  cases x; simp only at h h2 h3 n; subst h; subst h2; subst h3; subst n; rfl
theorem mk_6 {x : Node} (h : x.Kind = 6) (ho : ownP x = true) (hl : x.L = []) : x = ⟨6, [], x.Num, [], [], []⟩ := by
  obtain ⟨g1, g2, g3⟩ := own_rest ho
  have h1 := g1 (by omega) (by omega); have h2 := g2 (by omega) (by omega)
  have n := own_noname ho (by rw [h]; decide)
  cases x; simp only at h h1 h2 n hl; subst h; subst h1; subst h2; subst n; subst hl; rfl
theorem mk_16 {x : Node} (h : x.Kind = 16) (ho : ownP x = true) : x = ⟨16, x.Name, x.Num, [], [], x.L⟩ := by
  obtain ⟨g1, g2, g3⟩ := own_rest ho
  have h1 := g1 (by omega) (by omega); have h2 := g2 (by omega) (by omega)
  cases x; simp only at h h1 h2; subst h; subst h1; subst h2; rfl
theorem mk_func {x : Node} {k : Int} (h : x.Kind = k) (hk : k = 10 ∨ k = 39) (ho : ownP x = true) : x = ⟨k, x.Name, 0, [], x.Names, x.L⟩ := by
  obtain ⟨g1, g2, g3⟩ := own_rest ho
  have h1 := g1 (by omega) (by omega); have h3 := g3 (by omega) (by omega) (by omega)
  cases x; simp only at h h1 h3; subst h; subst h1; subst h3; rfl
theorem lvl13 {x : Node} (h : x.Kind = 1 ∨ x.Kind = 2 ∨ x.Kind = 3 ∨ x.Kind = 4 ∨ x.Kind = 5 ∨ x.Kind = 6 ∨ x.Kind = 7 ∨ x.Kind = 8 ∨ x.Kind = 10) : (tkN x).lvl = 13 := by
  rw [lvl_eq]; unfold lvlT
  rcases h with h | h | h | h | h | h | h | h | h <;> rw [h] <;> rfl
theorem lvl11 {x a : Node} {l : List Node} (h : x.Kind = 11 ∨ x.Kind = 12) (hL : x.L = a :: l) : (tkN x).lvl = min (max (tkN a).lvl 11) 12 := by
  rw [lvl_eq]; unfold lvlT
  rw [hL]
  rcases h with h | h <;> rw [h] <;> simp only [tkL] <;> rfl
theorem lvl_13 {x : Node} (h : x.Kind = 13) : (tkN x).lvl = 11 := by rw [lvl_eq]; unfold lvlT; rw [h]; rfl
theorem lvl_14 {x : Node} (h : x.Kind = 14) : (tkN x).lvl = 12 := by rw [lvl_eq]; unfold lvlT; rw [h]; rfl
theorem lvl_15 {x : Node} (h : x.Kind = 15) : (tkN x).lvl = 9 := by rw [lvl_eq]; unfold lvlT; rw [h]; rfl
theorem lvl_16 {x : Node} (h : x.Kind = 16) : (tkN x).lvl = 10 - x.Num := by rw [lvl_eq]; unfold lvlT; rw [h]; rfl
theorem lvl_19 {x : Node} (h : x.Kind = 19) : (tkN x).lvl = 2 := by rw [lvl_eq]; unfold lvlT; rw [h]; rfl
theorem lvl_20 {x : Node} (h : x.Kind = 20) : (tkN x).lvl = 1 := by rw [lvl_eq]; unfold lvlT; rw [h]; rfl
theorem lvl_21 {x : Node} (h : x.Kind = 21) : (tkN x).lvl = 0 := by rw [lvl_eq]; unfold lvlT; rw [h]; rfl
/-- an operator's level is what the reader takes it for -/
theorem lvl_op17 {x : Node} (h : x.Kind = 17) (ho : ownP x = true) (no : Bool) (hi : inOK no x) : lvS no x.Name = ((tkN x).lvl, 17) ∧ x.Name ∈ opsA := by
  have hn : x.Name ∈ ops17 := by simpa [rnamedP, h] using (own_parts ho).1
  have hv : (tkN x).lvl = if amongP op5 x.Name = true then 5 else if amongP op7 x.Name = true then 7 else if amongP op8 x.Name = true then 8 else 6 := by rw [lvl_eq]; unfold lvlT; rw [h]; rfl
  rw [hv]
  unfold inOK at hi
  rw [h] at hi
  generalize x.Name = s at hn hi
  simp only [ops17, List.mem_cons, List.not_mem_nil, or_false] at hn
  rcases hn with rfl | rfl | rfl | rfl | rfl | rfl | rfl | rfl | rfl | rfl | rfl | rfl | rfl | rfl | rfl
  case inr.inr.inr.inr.inr.inr.inr.inr.inr.inr.inr.inr.inr.inl =>
    cases no
    · exact ⟨by decide, by decide⟩
    · exact absurd ⟨rfl, rfl, rfl⟩ hi
  all_goals exact ⟨by cases no <;> decide, by decide⟩
theorem lvl_op18 {x : Node} (h : x.Kind = 18) (ho : ownP x = true) (no : Bool) : lvS no x.Name = ((tkN x).lvl, 18) ∧ x.Name ∈ opsA := by
  rw [lvl18' h]
  rcases name18 h ho with e | e <;> rw [e]
  · exact ⟨by cases no <;> decide, by decide⟩
  · exact ⟨by cases no <;> decide, by decide⟩
theorem ops15_in {s : Str} (h : s ∈ ops15) : opsA.contains s = true ∧ begL.contains s = true ∧ unaL.contains s = true := by
  simp only [ops15, List.mem_cons, List.not_mem_nil, or_false] at h
  rcases h with rfl | rfl | rfl | rfl | rfl | rfl <;> decide
theorem ops16_in {s : Str} (h : s ∈ ops16) : opsA.contains s = true ∧ begL.contains s = true ∧ unaL.contains s = false ∧ updL.contains s = true ∧ (∀ no, folS no s = 10) ∧ (s == ([58] : Str)) = false := by
  simp only [ops16, List.mem_cons, List.not_mem_nil, or_false] at h
  rcases h with rfl | rfl <;> decide
theorem ops20_in {s : Str} (h : s ∈ ops20) : opsA.contains s = true ∧ asgL.contains s = true ∧ (s == ([63] : Str)) = false ∧ (∀ no, folS no s = 1) ∧ (s == ([58] : Str)) = false := by
  simp only [ops20, List.mem_cons, List.not_mem_nil, or_false] at h
  rcases h with rfl | rfl | rfl | rfl | rfl | rfl <;> decide
section
variable {c : Str → Tok}
theorem rt_prim {x : Node} (hl : (tkN x).lvl = 13) (beg : ∀ no r, Beg true (T c ((tkN x).ex no) ++ r)) (lab : ∀ no r, tIs [58] r = false → tKind (T c ((tkN x).ex no) ++ r) = 1 → tIs [58] (T c ((tkN x).ex no) ++ r).tail = false)
    (hp : ∀ no r, PRIM (T c ((tkN x).ex no) ++ r) (x, r)) (hn : ∀ no r, tIs [110, 101, 119] (T c ((tkN x).ex no) ++ r) = false) : RT c x :=
  RT.of11 (by omega) beg lab fun no r v calls _ _ h => ⟨x, r, r_made_prim (hn no r) (hp no r), h⟩
/-- a single token of a kind -/
theorem rt_one {x : Node} {w : Str} (hl : (tkN x).lvl = 13) (he : ∀ no, (tkN x).ex no = [w]) (hf : (c w).fresh = false) (hk : (c w).kind = 1 ∨ (c w).kind = 3 ∨ (c w).kind = 4 ∨ ∃ v, IsOp (c w) v ∧ v ∈ begL ∧ opB v = false ∧ v ≠ [110, 101, 119])
    (hp : ∀ r, PRIM (c w :: r) (x, r)) : RT c x := by
  refine rt_prim hl (fun no r => ?_) (fun no r h1 h2 => ?_) (fun no r => ?_) (fun no r => ?_)
  · rw [he]
    refine ⟨c w, r, rfl, hf, ?_⟩
    rcases hk with h | h | h | ⟨v, h1, h2, h3, _⟩
    · exact .inl h
    · exact .inr (.inl h)
    · exact .inr (.inr (.inl h))
    · exact .inr (.inr (.inr ⟨v, h1, h2, fun _ => h3⟩))
  · rw [he]; exact h1
  · rw [he]; exact hp r
  · rw [he]
    show (opK (c w) && ((c w).text == [110, 101, 119])) = false
    rcases hk with h | h | h | ⟨v, h1, h2, h3, h4⟩
    · rw [opK_no (.inl h)]; rfl
    · rw [opK_no (.inr (.inl h))]; rfl
    · rw [opK_no (.inr (.inr h))]; rfl
    · rw [h1.op, h1.text, Bool.true_and, beq_eq_false_iff_ne]; exact h4
variable (C : Cls c)
include C
theorem rt_word {x : Node} {w : Str} (hl : (tkN x).lvl = 13) (he : ∀ no, (tkN x).ex no = [w]) (ho : opsA.contains w = true) (hb : begL.contains w = true) (h3 : opB w = false) (h4 : w ≠ [110, 101, 119]) (hp : ∀ r, PRIM (c w :: r) (x, r)) : RT c x :=
  rt_one hl he (C.fresh _) (.inr (.inr (.inr ⟨w, op_of C ho, by simpa using hb, h3, h4⟩))) hp
theorem rt_1 {x : Node} (h : x.Kind = 1) (ho : ownP x = true) (hL : x.L = []) : RT c x := by
  have hn : 0 ≤ x.Num ∧ x.Num ≤ 9007199254740991 := by simpa [numP, h] using (own_parts ho).2
  obtain ⟨h1, h2⟩ := C.num x.Num hn.1 hn.2
  refine rt_one (lvl13 (by omega)) (fun no => ex_1 h no) (C.fresh _) (.inr (.inl h1)) fun r => ?_
  have := r_num (a := c (Lib.itoa x.Num)) (r := r) h1
  rw [h2, ← mk_1 h ho hL] at this
  exact this
theorem rt_2 {x : Node} (h : x.Kind = 2) (ho : ownP x = true) (hL : x.L = []) (hb : x.Text.length ≤ 100000000) : RT c x := by
  obtain ⟨h1, h2⟩ := C.str x.Text (own_text ho) hb
  refine rt_one (lvl13 (by omega)) (fun no => ex_2 h no) (C.fresh _) (.inr (.inr (.inl h1))) fun r => ?_
  have := r_str (a := c (quoteP x.Text)) (r := r) h1
  rw [h2, ← mk_2 h ho hL] at this
  exact this
theorem rt_3 {x : Node} (h : x.Kind = 3) (ho : ownP x = true) (hL : x.L = []) : RT c x := by
  have hn : nameP x.Name = true := by simpa [rnamedP, h] using (own_parts ho).1
  obtain ⟨h1, h2⟩ := C.name x.Name hn
  refine rt_one (lvl13 (by omega)) (fun no => ex_3 h no) (C.fresh _) (.inl h1) fun r => ?_
  have := r_name (a := c x.Name) (r := r) h1
  have e := mk_ndN h ho (by decide)
  rw [hL] at e
  rw [h2, ← e] at this
  exact this
theorem rt_4 {x : Node} (h : x.Kind = 4) (ho : ownP x = true) (hL : x.L = []) : RT c x := by
  have e := mk_nd h ho (by decide) (by decide)
  rw [hL] at e
  exact rt_word C (lvl13 (by omega)) (fun no => ex_4 h no) (by decide) (by decide) (by decide) (by decide) fun r => r_word (op_of C (by decide)) (.inl ⟨rfl, e⟩)
theorem rt_5 {x : Node} (h : x.Kind = 5) (ho : ownP x = true) (hL : x.L = []) : RT c x := by
  have e := mk_nd h ho (by decide) (by decide)
  rw [hL] at e
  exact rt_word C (lvl13 (by omega)) (fun no => ex_5 h no) (by decide) (by decide) (by decide) (by decide) fun r => r_word (op_of C (by decide)) (.inr (.inl ⟨rfl, e⟩))
theorem rt_6 {x : Node} (h : x.Kind = 6) (ho : ownP x = true) (hL : x.L = []) : RT c x := by
  have e := mk_6 h ho hL
  have hn : x.Num = 0 ∨ x.Num = 1 := by simpa [numP, h] using (own_parts ho).2
  rcases hn with n | n
  · rw [n] at e
    exact rt_word C (w := [102, 97, 108, 115, 101]) (lvl13 (by omega)) (fun no => by rw [ex_6 h no, n]; decide) (by decide) (by decide) (by decide) (by decide) fun r => r_word (op_of C (by decide)) (.inr (.inr (.inl ⟨rfl, e⟩)))
  · rw [n] at e
    exact rt_word C (w := [116, 114, 117, 101]) (lvl13 (by omega)) (fun no => by rw [ex_6 h no, n]; decide) (by decide) (by decide) (by decide) (by decide) fun r => r_word (op_of C (by decide)) (.inr (.inr (.inr ⟨rfl, e⟩)))
/-- begins with a sign or a word -/
theorem beg_op {w : Str} (b : Bool) (l : List Str) (r : Toks) (ho : opsA.contains w = true) (hb : begL.contains w = true) (h3 : b = true → opB w = false) : Beg b (T c (w :: l) ++ r) :=
  ⟨c w, T c l ++ r, rfl, C.fresh _, .inr (.inr (.inr ⟨w, op_of C ho, by simpa using hb, h3⟩))⟩
theorem lab_op {w : Str} (l : List Str) (r : Toks) (ho : opsA.contains w = true) (h : tKind (T c (w :: l) ++ r) = 1) : tIs [58] (T c (w :: l) ++ r).tail = false := by
  have := ((op_of C ho).kinds (T c l ++ r)).1
  rw [beq_eq_false_iff_ne] at this
  exact absurd h this
/-- items with commas between, up to a bracket -/
theorem list_read (ls : List Node) (hR : ∀ k ∈ ls, RT c k ∧ k.Kind ≠ 9) (w : Str) (last : Bool) (hw : w = [41] ∨ w = [93]) (r : Toks) : EXPRS w last (T c (commas (itemT false) (tkL ls)) ++ c w :: r) (ls, r) := by
  have how : opsA.contains w = true := by rcases hw with rfl | rfl <;> decide
  have hbw : begL.contains w = false := by rcases hw with rfl | rfl <;> decide
  have hwc : (w == ([44] : Str)) = false ∧ (([44] : Str) == w) = false := by rcases hw with rfl | rfl <;> decide
  have o := op_of C how
  have oc := op_of C (w := [44]) (by decide)
  have hit : ∀ k ∈ ls, itemT false (tkN k) = atT (tkN k) 1 false := fun k hk => by
    unfold itemT
    rw [kids_x, if_neg (by simpa using (hR k hk).2)]
  have key : ∀ (l : List Node), (∀ k ∈ l, k ∈ ls) → ∀ y, y ∈ ls → EXPRS w last (T c (atT (tkN y) 1 false ++ restT (itemT false) (tkL l)) ++ c w :: r) (y :: l, r) := by
    intro l
    induction l with
    | nil =>
      intro _ y hy
      have e : restT (itemT false) (tkL []) = [] := by simp [restT, tkL]
      rw [e, List.append_nil]
      have hb := at_beg C (hR y hy).1 1 false (c w :: r)
      exact r_exprs_one (t1 := c w :: r) (hb.is hbw) (at_asg C (hR y hy).1 false _ (by rw [o.fol]; rcases hw with rfl | rfl <;> decide) 1 (by decide)) (by rw [o.is]; simp)
    | cons z l ih =>
      intro hl y hy
      have hz := hl z List.mem_cons_self
      have e : restT (itemT false) (tkL (z :: l)) = [44] :: (atT (tkN z) 1 false ++ restT (itemT false) (tkL l)) := by simp [restT, tkL, hit z hz]
      rw [e, T_app, List.append_assoc, T_cons, List.cons_append]
      have hb := at_beg C (hR y hy).1 1 false (c [44] :: (T c (atT (tkN z) 1 false ++ restT (itemT false) (tkL l)) ++ c w :: r))
      have hbz : Beg (decide ((11 : Int) ≤ 1)) (T c (atT (tkN z) 1 false ++ restT (itemT false) (tkL l)) ++ c w :: r) := by
        rw [T_app, List.append_assoc]; exact at_beg C (hR z hz).1 1 false _
      exact r_exprs_more (hb.is hbw) (at_asg C (hR y hy).1 false _ (by rw [oc.fol]; decide) 1 (by decide)) (by rw [oc.is]; exact hwc.2) (by rw [oc.is]; decide) (hbz.is hbw) (ih (fun k hk => hl k (List.mem_cons_of_mem _ hk)) z hz)
  rcases ls with _ | ⟨y, l⟩
  · have e : T c (commas (itemT false) (tkL [])) ++ c w :: r = c w :: r := by simp [tkL, commas, T]
    rw [e]
    exact r_exprs_nil (by rw [o.is]; simp)
  · have e : commas (itemT false) (tkL (y :: l)) = atT (tkN y) 1 false ++ restT (itemT false) (tkL l) := by simp [tkL, commas, restT, hit y List.mem_cons_self]
    rw [e]
    exact key l (fun k hk => List.mem_cons_of_mem _ hk) y List.mem_cons_self
/-- a property that may be -/
structure IsProp (c : Str → Tok) (y : Node) (a : Node) : Prop where
  eq : y = ⟨9, [], 0, y.Text, [], [a]⟩
  even : evenP y.Text = true
  len : y.Text.length ≤ 100000000
  rt : RT c a
theorem props_read (ls : List Node) (hR : ∀ k ∈ ls, ∃ a, IsProp c k a) (r : Toks) : PROPS (T c (commas (itemT false) (tkL ls)) ++ c [125] :: r) (ls, r) := by
  have o := op_of C (w := [125]) (by decide)
  have oc := op_of C (w := [44]) (by decide)
  have od := op_of C (w := [58]) (by decide)
  have hit : ∀ k a, IsProp c k a → itemT false (tkN k) = quoteP k.Text :: [58] :: atT (tkN a) 1 false := fun k a hk => by
    unfold itemT
    rw [kids_x, kids_k]
    have e := hk.eq
    have e1 : k.Kind = 9 := by rw [e]
    have e2 : k.L = [a] := by rw [e]
    rw [e1, e2, tk0]; rfl
  have key : ∀ (l : List Node), (∀ k ∈ l, k ∈ ls) → ∀ y, y ∈ ls → PROPS (T c (itemT false (tkN y) ++ restT (itemT false) (tkL l)) ++ c [125] :: r) (y :: l, r) := by
    intro l
    induction l with
    | nil =>
      intro _ y hy
      obtain ⟨a, P⟩ := hR y hy
      obtain ⟨k4, kt⟩ := C.str y.Text P.even P.len
      have e : restT (itemT false) (tkL []) = [] := by simp [restT, tkL]
      rw [e, List.append_nil, hit y a P]
      have := r_props_one (t := T c (quoteP y.Text :: [58] :: atT (tkN a) 1 false) ++ c [125] :: r) (x := a) (t1 := c [125] :: r)
        (by show (opK (c (quoteP y.Text)) && _) = false; rw [opK_no (.inr (.inr k4))]; rfl) k4 (by show tIs [58] (c [58] :: _) = true; rw [od.is]; decide)
        (at_asg C P.rt false _ (by rw [o.fol]; decide) 1 (by decide)) (by rw [o.is]; decide)
      have e2 : tText (T c (quoteP y.Text :: [58] :: atT (tkN a) 1 false) ++ c [125] :: r) = y.Text := kt
      rw [e2, ← P.eq] at this
      exact this
    | cons z l ih =>
      intro hl y hy
      obtain ⟨a, P⟩ := hR y hy
      obtain ⟨k4, kt⟩ := C.str y.Text P.even P.len
      have hz := hl z List.mem_cons_self
      have e : restT (itemT false) (tkL (z :: l)) = [44] :: (itemT false (tkN z) ++ restT (itemT false) (tkL l)) := by simp [restT, tkL]
      rw [e, hit y a P, T_app, List.append_assoc, T_cons, List.cons_append]
      have := r_props_more (t := T c (quoteP y.Text :: [58] :: atT (tkN a) 1 false) ++ c [44] :: (T c (itemT false (tkN z) ++ restT (itemT false) (tkL l)) ++ c [125] :: r)) (x := a) (t1 := c [44] :: (T c (itemT false (tkN z) ++ restT (itemT false) (tkL l)) ++ c [125] :: r))
        (by show (opK (c (quoteP y.Text)) && _) = false; rw [opK_no (.inr (.inr k4))]; rfl) k4 (by show tIs [58] (c [58] :: _) = true; rw [od.is]; decide)
        (at_asg C P.rt false _ (by rw [oc.fol]; decide) 1 (by decide)) (by rw [oc.is]; decide) (by rw [oc.is]; decide) (ih (fun k hk => hl k (List.mem_cons_of_mem _ hk)) z hz)
      have e2 : tText (T c (quoteP y.Text :: [58] :: atT (tkN a) 1 false) ++ c [44] :: (T c (itemT false (tkN z) ++ restT (itemT false) (tkL l)) ++ c [125] :: r)) = y.Text := kt
      rw [e2, ← P.eq] at this
      exact this
  rcases ls with _ | ⟨y, l⟩
  · have e : T c (commas (itemT false) (tkL [])) ++ c [125] :: r = c [125] :: r := by simp [tkL, commas, T]
    rw [e]
    exact r_props_nil (by rw [o.is]; decide)
  · have e : commas (itemT false) (tkL (y :: l)) = itemT false (tkN y) ++ restT (itemT false) (tkL l) := by simp [tkL, commas, restT]
    rw [e]
    exact key l (fun k hk => List.mem_cons_of_mem _ hk) y List.mem_cons_self
theorem rt_7 {x : Node} (h : x.Kind = 7) (ho : ownP x = true) (hR : ∀ k ∈ x.L, RT c k ∧ k.Kind ≠ 9) : RT c x := by
  have o := op_of C (w := [91]) (by decide)
  refine rt_prim (lvl13 (by omega)) (fun no r => ?_) (fun no r h1 h2 => ?_) (fun no r => ?_) (fun no r => ?_)
  · rw [ex_7 h]; exact beg_op C _ _ _ (by decide) (by decide) (fun _ => by decide)
  · rw [ex_7 h] at h2 ⊢; exact lab_op C _ _ (by decide) h2
  · rw [ex_7 h, T_cons, T_app, List.cons_append, List.append_assoc]
    have := r_array o (list_read C x.L hR [93] true (.inr rfl) r)
    rw [← mk_nd h ho (by decide) (by decide)] at this
    exact this
  · rw [ex_7 h, T_cons, List.cons_append, o.is]; decide
theorem rt_8 {x : Node} (h : x.Kind = 8) (ho : ownP x = true) (hR : ∀ k ∈ x.L, ∃ a, IsProp c k a) : RT c x := by
  have o := op_of C (w := [123]) (by decide)
  refine rt_prim (lvl13 (by omega)) (fun no r => ?_) (fun no r h1 h2 => ?_) (fun no r => ?_) (fun no r => ?_)
  · rw [ex_8 h]; exact beg_op C _ _ _ (by decide) (by decide) (fun _ => by decide)
  · rw [ex_8 h] at h2 ⊢; exact lab_op C _ _ (by decide) h2
  · rw [ex_8 h, T_cons, T_app, List.cons_append, List.append_assoc]
    have := r_object o (props_read C x.L hR r)
    rw [← mk_nd h ho (by decide) (by decide)] at this
    exact this
  · rw [ex_8 h, T_cons, List.cons_append, o.is]; decide
theorem rt_10 {x : Node} (h : x.Kind = 10) (hF : ∀ r, FUNC 10 (T c (funcT x (tkL x.L)).tail ++ r) (x, r)) : RT c x := by
  have o := op_of C (w := [102, 117, 110, 99, 116, 105, 111, 110]) (by decide)
  have e : funcT x (tkL x.L) = [102, 117, 110, 99, 116, 105, 111, 110] :: (funcT x (tkL x.L)).tail := rfl
  refine rt_prim (lvl13 (by omega)) (fun no r => ?_) (fun no r h1 h2 => ?_) (fun no r => ?_) (fun no r => ?_)
  · rw [ex_10 h, e]; exact beg_op C _ _ _ (by decide) (by decide) (fun _ => by decide)
  · rw [ex_10 h, e] at h2 ⊢; exact lab_op C _ _ (by decide) h2
  · rw [ex_10 h, e, T_cons, List.cons_append]
    exact r_func o (hF r)
  · rw [ex_10 h, e, T_cons, List.cons_append, o.is]; decide
/-- a first part ahead of a sign -/
theorem beg_at {a : Node} (R : RT c a) (least : Int) (no : Bool) (l : List Str) (r : Toks) : Beg (decide (11 ≤ least)) (T c (atT (tkN a) least no ++ l) ++ r) := by
  rw [T_app, List.append_assoc]; exact at_beg C R least no _
theorem lab_at {a : Node} (R : RT c a) (least : Int) (no : Bool) (w : Str) (l : List Str) (r : Toks) (ho : opsA.contains w = true) (hw : (w == ([58] : Str)) = false) (h : tKind (T c (atT (tkN a) least no ++ (w :: l)) ++ r) = 1) : tIs [58] (T c (atT (tkN a) least no ++ (w :: l)) ++ r).tail = false := by
  rw [T_app, List.append_assoc, T_cons, List.cons_append] at h ⊢
  exact at_lab C R least no _ (by rw [(op_of C ho).is]; exact hw) h
theorem rt_11 {x a : Node} (h : x.Kind = 11) (ho : ownP x = true) (hL : x.L = [a]) (R : RT c a) : RT c x := by
  have hl := lvl11 (.inl h) hL
  have o := op_of C (w := [46]) (by decide)
  have hn : identP x.Name = true := by simpa [rnamedP, h] using (own_parts ho).1
  obtain ⟨k1, k2⟩ := C.ident x.Name hn
  have e := mk_ndN h ho (by decide)
  rw [hL] at e
  have he : ∀ no, (tkN x).ex no = atT (tkN a) 11 no ++ [[46], x.Name] := fun no => by rw [ex_11 h, hL, tk0]
  refine RT.of11 (by omega) (fun no r => ?_) (fun no r h1 h2 => ?_) (fun no r v calls hi hc hm => ?_)
  · rw [he]; exact beg_at C R 11 no _ r
  · rw [he] at h2 ⊢; exact lab_at C R 11 no _ _ r (by decide) (by decide) h2
  · rw [he, T_app, List.append_assoc]
    have hm2 : MEMS calls a (T c [[46], x.Name] ++ r) v := by
      refine r_mems_dot (by show tIs [46] (c [46] :: _) = true; rw [o.is]; decide) ?_ ?_
      · show ((c x.Name).kind == 1 || (c x.Name).kind == 2) = true
        rcases k1 with k | k <;> rw [k] <;> rfl
      · show MEMS calls (ndN 11 (c x.Name).text [a]) r v
        rw [k2, ← e]; exact hm
    unfold atT
    split
    · exact ⟨a, _, made_paren C R _, hm2⟩
    · rename_i hcc
      obtain ⟨h3, h4⟩ := at_in hcc
      exact R.mm no _ v calls h4 (by rcases hc with hc | ⟨_, rfl⟩; exact .inl (by omega); exact .inr ⟨h3, rfl⟩) hm2
theorem rt_12 {x a b : Node} (h : x.Kind = 12) (ho : ownP x = true) (hL : x.L = [a, b]) (R : RT c a) (Rb : RT c b) : RT c x := by
  have hl := lvl11 (.inr h) hL
  have o := op_of C (w := [91]) (by decide)
  have o2 := op_of C (w := [93]) (by decide)
  have e := mk_nd h ho (by decide) (by decide)
  rw [hL] at e
  have he : ∀ no, (tkN x).ex no = atT (tkN a) 11 no ++ ([91] :: (atT (tkN b) 0 false ++ [[93]])) := fun no => by rw [ex_12 h, hL, tk0, tk1]
  refine RT.of11 (by omega) (fun no r => ?_) (fun no r h1 h2 => ?_) (fun no r v calls hi hc hm => ?_)
  · rw [he]; exact beg_at C R 11 no _ r
  · rw [he] at h2 ⊢; exact lab_at C R 11 no _ _ r (by decide) (by decide) h2
  · rw [he, T_app, List.append_assoc]
    have hm2 : MEMS calls a (T c ([91] :: (atT (tkN b) 0 false ++ [[93]])) ++ r) v := by
      rw [T_cons, T_app, List.cons_append, List.append_assoc]
      refine r_mems_idx (y := b) (t1 := c [93] :: r) (by rw [o.is]; decide) (by rw [o.is]; decide) (at_end C Rb false [93] r (by decide) (by decide) 0) (by rw [o2.is]; decide) ?_
      rw [← e]; exact hm
    unfold atT
    split
    · exact ⟨a, _, made_paren C R _, hm2⟩
    · rename_i hcc
      obtain ⟨h3, h4⟩ := at_in hcc
      exact R.mm no _ v calls h4 (by rcases hc with hc | ⟨_, rfl⟩; exact .inl (by omega); exact .inr ⟨h3, rfl⟩) hm2
theorem rt_13 {x a : Node} {l : List Node} (h : x.Kind = 13) (ho : ownP x = true) (hL : x.L = a :: l) (R : RT c a) (hR : ∀ k ∈ l, RT c k ∧ k.Kind ≠ 9) : RT c x := by
  have hl := lvl_13 h
  have o := op_of C (w := [40]) (by decide)
  have e := mk_nd h ho (by decide) (by decide)
  rw [hL] at e
  have he : ∀ no, (tkN x).ex no = atT (tkN a) 11 no ++ ([40] :: (commas (itemT false) (tkL l) ++ [[41]])) := fun no => by rw [ex_13 h, hL, tk0, tkT]
  refine RT.of11 (by omega) (fun no r => ?_) (fun no r h1 h2 => ?_) (fun no r v calls hi hc hm => ?_)
  · rw [he]; exact beg_at C R 11 no _ r
  · rw [he] at h2 ⊢; exact lab_at C R 11 no _ _ r (by decide) (by decide) h2
  · obtain rfl : calls = true := by
      rcases hc with hc | hc
      · omega
      · exact hc.2
    rw [he, T_app, List.append_assoc]
    refine at_mm C R 11 no true _ v (.inr ⟨rfl, rfl⟩) ?_
    rw [T_cons, T_app, List.cons_append, List.append_assoc]
    refine r_mems_call (by rw [o.is]; decide) (by rw [o.is]; decide) (by rw [o.is]; decide) (list_read C l hR [41] false (.inl rfl) r) ?_
    rw [← e]; exact hm
theorem rt_14 {x a : Node} {l : List Node} (h : x.Kind = 14) (ho : ownP x = true) (hL : x.L = a :: l) (R : RT c a) (hR : ∀ k ∈ l, RT c k ∧ k.Kind ≠ 9) : RT c x := by
  have hl := lvl_14 h
  have o := op_of C (w := [110, 101, 119]) (by decide)
  have o2 := op_of C (w := [40]) (by decide)
  have e := mk_nd h ho (by decide) (by decide)
  rw [hL] at e
  have he : ∀ no, (tkN x).ex no = [110, 101, 119] :: (atT (tkN a) 12 no ++ ([40] :: (commas (itemT false) (tkL l) ++ [[41]]))) := fun no => by rw [ex_14 h, hL, tk0, tkT]
  refine RT.of11 (by omega) (fun no r => ?_) (fun no r h1 h2 => ?_) (fun no r v calls hi hc hm => ?_)
  · rw [he]; exact beg_op C _ _ _ (by decide) (by decide) (fun _ => by decide)
  · rw [he] at h2 ⊢; exact lab_op C _ _ (by decide) h2
  · rw [he, T_cons, List.cons_append, T_app, List.append_assoc, T_cons, List.cons_append, T_app, List.append_assoc]
    obtain ⟨y, t1, h1, h2⟩ := at_mm C R 12 no false (c [40] :: (T c (commas (itemT false) (tkL l)) ++ (T c [[41]] ++ r))) _ (.inl rfl) (r_mems_end (by rw [o2.is]; decide) (by rw [o2.is]; decide) rfl)
    refine ⟨x, r, ?_, hm⟩
    have := r_made_new (t := c [110, 101, 119] :: (T c (atT (tkN a) 12 no) ++ c [40] :: (T c (commas (itemT false) (tkL l)) ++ (T c [[41]] ++ r)))) (by rw [o.is]; decide) h1 h2 (by rw [o2.is]; decide) (list_read C l hR [41] false (.inl rfl) r)
    rw [← e] at this
    exact this
theorem rt_15 {x a : Node} (h : x.Kind = 15) (ho : ownP x = true) (hL : x.L = [a]) (R : RT c a) : RT c x := by
  have hn : x.Name ∈ ops15 := by simpa [rnamedP, h] using (own_parts ho).1
  obtain ⟨n1, n2, n3⟩ := ops15_in hn
  have o := op_of C n1
  have e := mk_ndN h ho (by decide)
  rw [hL] at e
  have he : ∀ no, (tkN x).ex no = x.Name :: atT (tkN a) 9 no := fun no => by rw [ex_15 h, hL, tk0]
  refine RT.of9 (.inl (lvl_15 h)) (fun no r => ?_) (fun no r h1 h2 => ?_) (fun no r hi hf => ?_)
  · rw [he]; exact beg_op C _ _ _ n1 n2 (fun e => by cases e)
  · rw [he] at h2 ⊢; exact lab_op C _ _ n1 h2
  · rw [he, T_cons, List.cons_append]
    have := r_unary_un (t := c x.Name :: (T c (atT (tkN a) 9 no) ++ r)) (by rw [o.any]; exact n3) (at_un C R no r hf 9 (by decide))
    have e2 : tText (c x.Name :: (T c (atT (tkN a) 9 no) ++ r)) = x.Name := o.text
    rw [e2, ← e] at this
    exact this
theorem rt_16 {x a : Node} (h : x.Kind = 16) (ho : ownP x = true) (hL : x.L = [a]) (R : RT c a) (ht : tgtK a.Kind = true) : RT c x := by
  have hn : x.Name ∈ ops16 := by simpa [rnamedP, h] using (own_parts ho).1
  obtain ⟨n1, n2, n3, n4, n5, n6⟩ := ops16_in hn
  have o := op_of C n1
  have e := mk_16 h ho
  rw [hL] at e
  have hv := lvl_16 h
  have hN : x.Num = 0 ∨ x.Num = 1 := by simpa [numP, h] using (own_parts ho).2
  rcases hN with N | N
  · have he : ∀ no, (tkN x).ex no = atT (tkN a) 11 no ++ [x.Name] := fun no => by rw [ex_16 h, hL, tk0, N]; rfl
    rw [N] at e
    refine RT.of9 (by omega) (fun no r => ?_) (fun no r h1 h2 => ?_) (fun no r hi hf => ?_)
    · rw [he]; exact (beg_at C R 11 no _ r).loose
    · rw [he] at h2 ⊢; exact lab_at C R 11 no _ _ r n1 n6 h2
    · rw [he, T_app, List.append_assoc]
      have hb : Beg true (T c (atT (tkN a) 11 no) ++ (c x.Name :: r)) := at_beg C R 11 no _
      obtain ⟨y, t1, h1, h2⟩ := at_mm C R 11 no true (c x.Name :: r) _ (.inr ⟨rfl, rfl⟩) (mems_end (no := no) (by rw [o.fol, n5]; decide))
      have := r_unary_post hb.una.1 hb.una.2 h1 h2 (by rw [o.any]; exact n4) (C.fresh _) ht
      have e2 : tText (c x.Name :: r) = x.Name := o.text
      rw [e2, show ndN 16 x.Name [a] = (⟨16, x.Name, 0, [], [], [a]⟩ : Node) from rfl, ← e] at this
      exact this
  · have he : ∀ no, (tkN x).ex no = x.Name :: atT (tkN a) 11 no := fun no => by rw [ex_16 h, hL, tk0, N]; rfl
    rw [N] at e
    refine RT.of9 (by omega) (fun no r => ?_) (fun no r h1 h2 => ?_) (fun no r hi hf => ?_)
    · rw [he]; exact beg_op C _ _ _ n1 n2 (fun e => by cases e)
    · rw [he] at h2 ⊢; exact lab_op C _ _ n1 h2
    · rw [he, T_cons, List.cons_append]
      have := r_unary_pre (t := c x.Name :: (T c (atT (tkN a) 11 no) ++ r)) (by rw [o.any]; exact n3) (by rw [o.any]; exact n4) (at_un C R no r hf 11 (by decide)) ht
      have e2 : tText (c x.Name :: (T c (atT (tkN a) 11 no) ++ r)) = x.Name := o.text
      rw [e2, ← e] at this
      exact this
/-- an operator between two -/
theorem rt_op {x a b : Node} {k : Int} (hk : k = 17 ∨ k = 18) (h : x.Kind = k) (ho : ownP x = true) (hL : x.L = [a, b]) (hv : 3 ≤ (tkN x).lvl ∧ (tkN x).lvl ≤ 8) (hop : ∀ no, inOK no x → lvS no x.Name = ((tkN x).lvl, k) ∧ x.Name ∈ opsA) (R : RT c a) (Rb : RT c b) : RT c x := by
  have n1 : opsA.contains x.Name = true := by simpa using (hop false (fun e => by cases e.1)).2
  have hnc : (x.Name == ([58] : Str)) = false := by
    rw [beq_eq_false_iff_ne]
    intro e
    have := (hop false (fun e => by cases e.1)).1
    rw [e] at this
    have := congrArg (·.1) this
    have e2 : (lvS false [58]).1 = 0 := by decide
    simp only [e2] at this
    omega
  have o := op_of C n1
  have e := mk_ndN h ho (by rcases hk with rfl | rfl <;> decide)
  rw [hL] at e
  have he : ∀ no, (tkN x).ex no = atT (tkN a) (tkN x).lvl no ++ (x.Name :: atT (tkN b) ((tkN x).lvl + 1) no) := fun no => by
    rcases hk with rfl | rfl
    · rw [ex_17 h, hL, tk0, tk1]
    · rw [ex_18 h, hL, tk0, tk1]
  refine RT.of3 hv (fun no r => ?_) (fun no r h1 h2 => ?_) (fun no r v least hi h3 h4 hf hm => ?_)
  · rw [he]; exact (beg_at C R _ no _ r).loose
  · rw [he] at h2 ⊢; exact lab_at C R _ no _ _ r n1 hnc h2
  · rw [he, T_app, List.append_assoc, T_cons, List.cons_append]
    have hs := (hop no hi).1
    have hfo : folS no x.Name = (tkN x).lvl := by
      unfold folS
      rw [hs]
      have : ((tkN x).lvl == 0) = false := by rw [beq_eq_false_iff_ne]; omega
      simp only [this, if_true]
    refine at_bin C R no _ v (tkN x).lvl least h3 h4 (by rw [o.fol, hfo]; omega) (by rw [o.fol, hfo]; omega) ?_
    have hbd : bindT no (c x.Name :: (T c (atT (tkN b) ((tkN x).lvl + 1) no) ++ r)) = ((tkN x).lvl, k) := by rw [o.bind, hs]
    refine r_bins_go (y := b) (t1 := r) ?_ ?_ ?_
    · rw [hbd]
      simp only [Bool.or_eq_false_iff, decide_eq_false_iff_not, beq_eq_false_iff_ne]
      exact ⟨by omega, by omega⟩
    · rw [hbd]
      exact at_bin C Rb no r _ _ _ (by show 3 ≤ (tkN x).lvl + 1; omega) (Int.le_refl _) (by omega) (by show folT no r ≤ (tkN x).lvl + 1; omega) (bins_end (by show folT no r < (tkN x).lvl + 1; omega))
    · rw [hbd]
      have e2 : tText (c x.Name :: (T c (atT (tkN b) ((tkN x).lvl + 1) no) ++ r)) = x.Name := o.text
      rw [e2]
      show BINS no least (ndN k x.Name [a, b]) r v
      rw [← e]; exact hm
theorem rt_19 {x a b d : Node} (h : x.Kind = 19) (ho : ownP x = true) (hL : x.L = [a, b, d]) (R : RT c a) (Rb : RT c b) (Rd : RT c d) : RT c x := by
  have o := op_of C (w := [63]) (by decide)
  have o2 := op_of C (w := [58]) (by decide)
  have e := mk_nd h ho (by decide) (by decide)
  rw [hL] at e
  have he : ∀ no, (tkN x).ex no = atT (tkN a) 3 no ++ ([63] :: (atT (tkN b) 1 false ++ ([58] :: atT (tkN d) 1 no))) := fun no => by rw [ex_19 h, hL, tk0, tk1, tk2]
  refine RT.of1 (.inr (lvl_19 h)) (fun no r => ?_) (fun no r h1 h2 => ?_) (fun no r hi hf => ?_)
  · rw [he]; exact (beg_at C R _ no _ r).loose
  · rw [he] at h2 ⊢; exact lab_at C R _ no _ _ r (by decide) (by decide) h2
  · rw [he, T_app, List.append_assoc, T_cons, List.cons_append, T_app, List.append_assoc, T_cons, List.cons_append]
    have f1 : ∀ no, folS no [63] = 2 := by decide
    have f2 : ∀ no, folS no [58] = -1 := by decide
    rw [e]
    exact r_assign_cond (at_bin C R no _ _ 3 3 (by decide) (by decide) (by rw [o.fol, f1]; decide) (by rw [o.fol, f1]; decide) (bins_end (by rw [o.fol, f1]; decide))) (by rw [o.is]; decide)
      (at_asg C Rb false _ (by rw [o2.fol, f2]; decide) 1 (by decide)) (by rw [o2.is]; decide) (at_asg C Rd no r hf 1 (by decide))
theorem rt_20 {x a b : Node} (h : x.Kind = 20) (ho : ownP x = true) (hL : x.L = [a, b]) (R : RT c a) (Rb : RT c b) (ht : tgtK a.Kind = true) : RT c x := by
  have hn : x.Name ∈ ops20 := by simpa [rnamedP, h] using (own_parts ho).1
  obtain ⟨n1, n2, n3, n4, n5⟩ := ops20_in hn
  have o := op_of C n1
  have e := mk_ndN h ho (by decide)
  rw [hL] at e
  have he : ∀ no, (tkN x).ex no = atT (tkN a) 11 no ++ (x.Name :: atT (tkN b) 1 no) := fun no => by rw [ex_20 h, hL, tk0, tk1]
  refine RT.of1 (.inl (lvl_20 h)) (fun no r => ?_) (fun no r h1 h2 => ?_) (fun no r hi hf => ?_)
  · rw [he]; exact (beg_at C R _ no _ r).loose
  · rw [he] at h2 ⊢; exact lab_at C R _ no _ _ r n1 n5 h2
  · rw [he, T_app, List.append_assoc, T_cons, List.cons_append]
    have := r_assign_asg (at_bin C R no (c x.Name :: (T c (atT (tkN b) 1 no) ++ r)) _ 11 3 (by decide) (by decide) (by rw [o.fol, n4]; decide) (by rw [o.fol, n4]; decide) (bins_end (by rw [o.fol, n4]; decide))) (by rw [o.is]; exact n3) (by rw [o.any]; exact n2) ht
      (at_asg C Rb no r hf 1 (by decide))
    have e2 : tText (c x.Name :: (T c (atT (tkN b) 1 no) ++ r)) = x.Name := o.text
    rw [e2, ← e] at this
    exact this
theorem rt_21 {x a b : Node} (h : x.Kind = 21) (ho : ownP x = true) (hL : x.L = [a, b]) (R : RT c a) (Rb : RT c b) : RT c x := by
  have o := op_of C (w := [44]) (by decide)
  have e := mk_nd h ho (by decide) (by decide)
  rw [hL] at e
  have he : ∀ no, (tkN x).ex no = atT (tkN a) 0 no ++ ([44] :: atT (tkN b) 1 no) := fun no => by rw [ex_21 h, hL, tk0, tk1]
  refine RT.of0 (lvl_21 h) (fun no r => ?_) (fun no r h1 h2 => ?_) (fun no r v hi hf hm => ?_)
  · rw [he]; exact (beg_at C R _ no _ r).loose
  · rw [he] at h2 ⊢; exact lab_at C R _ no _ _ r (by decide) (by decide) h2
  · rw [he, T_app, List.append_assoc, T_cons, List.cons_append]
    have f1 : ∀ no, folS no [44] = 0 := by decide
    refine at_exp C R no _ v (by rw [o.fol, f1]; decide) ?_ 0
    refine r_comma_go (by rw [o.is]; decide) (at_asg C Rb no r hf 1 (by decide)) ?_
    rw [← e]; exact hm
end
end Go.D07


/- Chapter 7, plainly: what the writer lays down of a statement is read as that statement. -/
namespace Go.D07
open Go Go.Gw Go.Dn
set_option linter.unusedSimpArgs false
set_option maxRecDepth 100000

section
variable {no calls last f o : Bool} {a : Tok} {t r t1 t2 t3 t4 t5 : Toks} {x y z b d : Node} {v : Node × Toks} {l l1 l2 : List Node} {s w : Str} {k : Int}
theorem r_block (h : tIs [123] t = true) (h1 : STMTS false t.tail (l, t1)) (h2 : tIs [125] t1 = true) : BLOCK t (nd 25 l, t1.tail) :=
  (h1.bind (g := fun l _ => (tNeed [125] l.2).bind fun t => some (nd 25 l.1, t)) ((Ok.ret _).eq (by funext n; simp only [tNeed_ok h2, Option.bind_some]))).up fun n => by
    show pBlock (pG n) t = _; unfold pBlock; rw [tNeed_ok h]; rfl
theorem r_head (h : tIs [40] t = true) (h1 : EXPR false t.tail (x, t1)) (h2 : tIs [41] t1 = true) : HEAD t (x, t1.tail) :=
  (h1.bind (g := fun l _ => (tNeed [41] l.2).bind fun t => some (l.1, t)) ((Ok.ret _).eq (by funext n; simp only [tNeed_ok h2, Option.bind_some]))).up fun n => by
    show pHead (pG n) t = _; unfold pHead; rw [tNeed_ok h]; rfl
theorem r_till_end (h : tIs s t = true) : TILL s t (nd 42 [], t.tail) :=
  (Ok.ret _).up fun n => by show pUntil (pG n) s t = _; unfold pUntil; rw [if_pos h]
theorem r_till (h : tIs s t = false) (h1 : EXPR false t (x, t1)) (h2 : tIs s t1 = true) : TILL s t (x, t1.tail) :=
  (h1.bind (g := fun l _ => (tNeed s l.2).bind fun t => some (l.1, t)) ((Ok.ret _).eq (by funext n; simp only [tNeed_ok h2, Option.bind_some]))).up fun n => by
    show pUntil (pG n) s t = _; unfold pUntil; rw [if_neg (by rw [h]; decide)]
abbrev DECL (no : Bool) (t : Toks) (v : List Node × Toks) : Prop := Ok (fun n => if tIs [61] t = true then ((pG n).assign no t.tail).bind fun y => some ([y.1], y.2) else some ([], t)) v
theorem r_decl_no (h : tIs [61] t = false) : DECL no t ([], t) := (Ok.ret _).eq (by funext n; rw [if_neg (by rw [h]; decide)])
theorem r_decl (h : tIs [61] t = true) (h1 : ASSIGN no t.tail (y, t1)) : DECL no t ([y], t1) :=
  (h1.bind (g := fun y _ => some ([y.1], y.2)) (Ok.ret _)).eq (by funext n; rw [if_pos h])
theorem r_vars_last (hk : a.kind = 1) (h1 : DECL no r (l, t1)) (h2 : tIs [44] t1 = false) : VARS no (a :: r) ([ndN 23 a.text l], t1) :=
  (h1.bind (g := fun d n => if tIs [44] d.2 = true then ((pG n).vars no d.2.tail).bind fun l => some (ndN 23 a.text d.1 :: l.1, l.2) else some ([ndN 23 a.text d.1], d.2)) ((Ok.ret _).eq (by funext n; simp only [h2, Bool.false_eq_true, if_false]))).up fun n => by
    show pVars (pG n) no (a :: r) = _; unfold pVars; rw [if_pos (by show (a.kind == 1) = true; rw [hk]; rfl)]; rfl
theorem r_vars_more (hk : a.kind = 1) (h1 : DECL no r (l, t1)) (h2 : tIs [44] t1 = true) (h3 : VARS no t1.tail (l1, t2)) : VARS no (a :: r) (ndN 23 a.text l :: l1, t2) :=
  (h1.bind (g := fun d n => if tIs [44] d.2 = true then ((pG n).vars no d.2.tail).bind fun l => some (ndN 23 a.text d.1 :: l.1, l.2) else some ([ndN 23 a.text d.1], d.2))
    ((h3.bind (g := fun q _ => some (ndN 23 a.text l :: q.1, q.2)) (Ok.ret _)).eq (by funext n; simp only [h2, if_true]))).up fun n => by
    show pVars (pG n) no (a :: r) = _; unfold pVars; rw [if_pos (by show (a.kind == 1) = true; rw [hk]; rfl)]; rfl
theorem r_fn {m : Str} {t0 : Toks} {ns : List Str} (hm : (if (tKind t == 1) = true then some (tText t, t.tail) else if (k == 39) = true then none else some (([] : Str), t)) = some (m, t0)) (h1 : tIs [40] t0 = true) (h2 : pParams t0.tail = some (ns, t2)) (h3 : tIs [123] t2 = true)
    (h4 : STMTS true t2.tail (l, t3)) (h5 : tIs [125] t3 = true) : FUNC k t (⟨k, m, 0, [], ns, l⟩, t3.tail) :=
  (h4.bind (g := fun l _ => (tNeed [125] l.2).bind fun t => some ((⟨k, m, 0, [], ns, l.1⟩ : Node), t)) ((Ok.ret _).eq (by funext n; simp only [tNeed_ok h5, Option.bind_some]))).up fun n => by
    show pFunc (pG n) k t = _; unfold pFunc; rw [hm]; simp only [Option.bind_some, tNeed_ok h1, h2, tNeed_ok h3]
abbrev FIRST (t : Toks) (v : Node × Toks) : Prop := Ok (fun n => pFirst (pG n) t) v
theorem r_first_var (h : tIs [118, 97, 114] t = true) (h1 : VARS true t.tail (l, t1)) : FIRST t (nd 22 l, t1) :=
  (h1.bind (g := fun l _ => some (nd 22 l.1, l.2)) (Ok.ret _)).eq (by funext n; unfold pFirst; rw [if_pos h])
theorem r_first_no (h : tIs [118, 97, 114] t = false) (h1 : tIs [59] t = true) : FIRST t (nd 42 [], t) :=
  (Ok.ret _).eq (by funext n; unfold pFirst; rw [if_neg (by rw [h]; decide), if_pos h1])
theorem r_first (h : tIs [118, 97, 114] t = false) (h1 : tIs [59] t = false) (h2 : EXPR true t v) : FIRST t v :=
  h2.eq (by funext n; unfold pFirst; rw [if_neg (by rw [h]; decide), if_neg (by rw [h1]; decide)])
theorem r_loop_in (h : tIs [40] t = true) (h1 : FIRST t.tail (x, t1)) (h2 : eachN x = true) (h3 : tIs [105, 110] t1 = true) (h4 : EXPR false t1.tail (y, t2)) (h5 : tIs [41] t2 = true) (h6 : STMT t2.tail (b, t3)) : LOOP t (nd 30 [x, y, bodyN b], t3) :=
  (h1.bind (g := fun q n => if (eachN q.1 && tIs [105, 110] q.2) = true then ((pG n).expr false q.2.tail).bind fun x => (tNeed [41] x.2).bind fun t => ((pG n).stmt t).bind fun b => some (nd 30 [q.1, x.1, bodyN b.1], b.2)
      else (tNeed [59] q.2).bind fun t => ((pG n).till [59] t).bind fun x => ((pG n).till [41] x.2).bind fun y => ((pG n).stmt y.2).bind fun b => some (nd 29 [q.1, x.1, y.1, bodyN b.1], b.2))
    ((h4.bind (g := fun x' n => (tNeed [41] x'.2).bind fun t => ((pG n).stmt t).bind fun b => some (nd 30 [x, x'.1, bodyN b.1], b.2))
      ((h6.bind (g := fun b _ => some (nd 30 [x, y, bodyN b.1], b.2)) (Ok.ret _)).eq (by funext n; simp only [tNeed_ok h5, Option.bind_some]))).eq (by funext n; simp only [h2, h3, Bool.and_self, if_true]))).up fun n => by
    show pLoop (pG n) t = _; unfold pLoop; rw [tNeed_ok h]; rfl
theorem r_loop_for (h : tIs [40] t = true) (h1 : FIRST t.tail (x, t1)) (h2 : (eachN x && tIs [105, 110] t1) = false) (h3 : tIs [59] t1 = true) (h4 : TILL [59] t1.tail (y, t2)) (h5 : TILL [41] t2 (z, t3)) (h6 : STMT t3 (b, t4)) : LOOP t (nd 29 [x, y, z, bodyN b], t4) :=
  (h1.bind (g := fun q n => if (eachN q.1 && tIs [105, 110] q.2) = true then ((pG n).expr false q.2.tail).bind fun x => (tNeed [41] x.2).bind fun t => ((pG n).stmt t).bind fun b => some (nd 30 [q.1, x.1, bodyN b.1], b.2)
      else (tNeed [59] q.2).bind fun t => ((pG n).till [59] t).bind fun x => ((pG n).till [41] x.2).bind fun y => ((pG n).stmt y.2).bind fun b => some (nd 29 [q.1, x.1, y.1, bodyN b.1], b.2))
    ((h4.bind (g := fun x' n => ((pG n).till [41] x'.2).bind fun y' => ((pG n).stmt y'.2).bind fun b => some (nd 29 [x, x'.1, y'.1, bodyN b.1], b.2))
      (h5.bind (g := fun y' n => ((pG n).stmt y'.2).bind fun b => some (nd 29 [x, y, y'.1, bodyN b.1], b.2))
        (h6.bind (g := fun b _ => some (nd 29 [x, y, z, bodyN b.1], b.2)) (Ok.ret _)))).eq (by funext n; simp only [h2, tNeed_ok h3, Option.bind_some, Bool.false_eq_true, if_false]))).up fun n => by
    show pLoop (pG n) t = _; unfold pLoop; rw [tNeed_ok h]; rfl
theorem r_cases_nil (h : tIs [125] t = true) : CASES o t ([], t.tail) :=
  (Ok.ret _).up fun n => by show pCases (pG n) o t = _; unfold pCases; rw [if_pos h]
theorem r_cases_default (h : tIs [125] t = false) (h1 : tIs [100, 101, 102, 97, 117, 108, 116] t = true) (h2 : tIs [58] t.tail = true) (h3 : BODY t.tail.tail (l, t1)) (h4 : CASES false t1 (l1, t2)) : CASES true t (nd 37 (nd 42 [] :: l) :: l1, t2) :=
  (h3.bind (g := fun l n => ((pG n).cases false l.2).bind fun r => some (nd 37 (nd 42 [] :: l.1) :: r.1, r.2)) (h4.bind (g := fun r _ => some (nd 37 (nd 42 [] :: l) :: r.1, r.2)) (Ok.ret _))).up fun n => by
    show pCases (pG n) true t = _; unfold pCases; rw [if_neg (by rw [h]; decide), if_pos (by rw [h1]; rfl), tNeed_ok h2]; rfl
theorem r_cases_case (h : tIs [125] t = false) (h1 : (o && tIs [100, 101, 102, 97, 117, 108, 116] t) = false) (h2 : tIs [99, 97, 115, 101] t = true) (h3 : EXPR false t.tail (x, t1)) (h4 : tIs [58] t1 = true) (h5 : BODY t1.tail (l, t2)) (h6 : CASES o t2 (l1, t3)) : CASES o t (nd 37 (x :: l) :: l1, t3) :=
  (h3.bind (g := fun x n => (tNeed [58] x.2).bind fun t => ((pG n).body t).bind fun l => ((pG n).cases o l.2).bind fun r => some (nd 37 (x.1 :: l.1) :: r.1, r.2))
    ((h5.bind (g := fun l n => ((pG n).cases o l.2).bind fun r => some (nd 37 (x :: l.1) :: r.1, r.2)) (h6.bind (g := fun r _ => some (nd 37 (x :: l) :: r.1, r.2)) (Ok.ret _))).eq (by funext n; simp only [tNeed_ok h4, Option.bind_some]))).up fun n => by
    show pCases (pG n) o t = _; unfold pCases; rw [if_neg (by rw [h]; decide), if_neg (by rw [h1]; decide), tNeed_ok h2]; rfl
theorem r_body_nil (h : (tAny [[99, 97, 115, 101], [100, 101, 102, 97, 117, 108, 116], [125]] t || tKind t == 0) = true) : BODY t ([], t) :=
  (Ok.ret _).up fun n => by show pBody (pG n) t = _; unfold pBody; rw [if_pos h]
theorem r_body (h : (tAny [[99, 97, 115, 101], [100, 101, 102, 97, 117, 108, 116], [125]] t || tKind t == 0) = false) (h1 : STMT t (x, t1)) (h2 : BODY t1 (l, t2)) : BODY t (x :: l, t2) :=
  (h1.bind (g := fun x n => ((pG n).body x.2).bind fun l => some (x.1 :: l.1, l.2)) (h2.bind (g := fun q _ => some (x :: q.1, q.2)) (Ok.ret _))).up fun n => by
    show pBody (pG n) t = _; unfold pBody; rw [if_neg (by rw [h]; decide)]
theorem r_stmts_nil (h : (tIs [125] t || tKind t == 0) = true) : STMTS f t ([], t) :=
  (Ok.ret _).up fun n => by show pStmts (pG n) f t = _; unfold pStmts; rw [if_pos h]
theorem r_stmts (h : (tIs [125] t || tKind t == 0) = false) (h' : (f && tIs [102, 117, 110, 99, 116, 105, 111, 110] t) = false) (h1 : STMT t (x, t1)) (h2 : STMTS f t1 (l, t2)) : STMTS f t (x :: l, t2) :=
  (h1.bind (g := fun x n => ((pG n).stmts f x.2).bind fun l => some (x.1 :: l.1, l.2)) (h2.bind (g := fun q _ => some (x :: q.1, q.2)) (Ok.ret _))).up fun n => by
    show pStmts (pG n) f t = _; unfold pStmts; rw [if_neg (by rw [h]; decide), if_neg (by rw [h']; decide)]
theorem r_stmts_fn (h : (tIs [125] t || tKind t == 0) = false) (h' : tIs [102, 117, 110, 99, 116, 105, 111, 110] t = true) (h1 : FUNC 39 t.tail (x, t1)) (h2 : STMTS true t1 (l, t2)) : STMTS true t (x :: l, t2) :=
  (h1.bind (g := fun x n => ((pG n).stmts true x.2).bind fun l => some (x.1 :: l.1, l.2)) (h2.bind (g := fun q _ => some (x :: q.1, q.2)) (Ok.ret _))).up fun n => by
    show pStmts (pG n) true t = _; unfold pStmts; rw [if_neg (by rw [h]; decide), if_pos (by rw [h']; rfl)]
theorem pEnd_ok (h : tIs [59] t = true) : pEnd t = some t.tail := by unfold pEnd; rw [if_pos h]
theorem r_s_block (h : IsOp a [123]) (h1 : BLOCK (a :: r) v) : STMT (a :: r) v :=
  h1.up fun n => by show pStmt (pG n) (a :: r) = _; unfold pStmt; rw [if_pos (by rw [h.is]; decide)]
theorem r_s_empty (h : IsOp a [59]) : STMT (a :: r) (nd 40 [], r) :=
  (Ok.ret _).up fun n => by show pStmt (pG n) (a :: r) = _; unfold pStmt; simp only [h.is]; rfl
theorem r_s_var (h : IsOp a [118, 97, 114]) (h1 : VARS false r (l, t1)) (h2 : tIs [59] t1 = true) : STMT (a :: r) (nd 22 l, t1.tail) :=
  (h1.bind (g := fun l _ => (pEnd l.2).bind fun t => some (nd 22 l.1, t)) ((Ok.ret _).eq (by funext n; simp only [pEnd_ok h2, Option.bind_some]))).up fun n => by show pStmt (pG n) (a :: r) = _; unfold pStmt; simp only [h.is]; rfl
theorem r_s_if (h : IsOp a [105, 102]) (h1 : HEAD r (x, t1)) (h2 : STMT t1 (b, t2)) (h3 : tIs [101, 108, 115, 101] t2 = false) : STMT (a :: r) (nd 26 [x, bodyN b], t2) :=
  (h1.bind (g := fun x n => ((pG n).stmt x.2).bind fun b => if tIs [101, 108, 115, 101] b.2 = true then ((pG n).stmt b.2.tail).bind fun c => some (nd 26 [x.1, bodyN b.1, bodyN c.1], c.2) else some (nd 26 [x.1, bodyN b.1], b.2))
    (h2.bind (g := fun b n => if tIs [101, 108, 115, 101] b.2 = true then ((pG n).stmt b.2.tail).bind fun c => some (nd 26 [x, bodyN b.1, bodyN c.1], c.2) else some (nd 26 [x, bodyN b.1], b.2)) ((Ok.ret _).eq (by funext n; simp only [h3, Bool.false_eq_true, if_false])))).up fun n => by
    show pStmt (pG n) (a :: r) = _; unfold pStmt; simp only [h.is]; rfl
theorem r_s_ifelse (h : IsOp a [105, 102]) (h1 : HEAD r (x, t1)) (h2 : STMT t1 (b, t2)) (h3 : tIs [101, 108, 115, 101] t2 = true) (h4 : STMT t2.tail (d, t3)) : STMT (a :: r) (nd 26 [x, bodyN b, bodyN d], t3) :=
  (h1.bind (g := fun x n => ((pG n).stmt x.2).bind fun b => if tIs [101, 108, 115, 101] b.2 = true then ((pG n).stmt b.2.tail).bind fun c => some (nd 26 [x.1, bodyN b.1, bodyN c.1], c.2) else some (nd 26 [x.1, bodyN b.1], b.2))
    (h2.bind (g := fun b n => if tIs [101, 108, 115, 101] b.2 = true then ((pG n).stmt b.2.tail).bind fun c => some (nd 26 [x, bodyN b.1, bodyN c.1], c.2) else some (nd 26 [x, bodyN b.1], b.2))
      ((h4.bind (g := fun c _ => some (nd 26 [x, bodyN b, bodyN c.1], c.2)) (Ok.ret _)).eq (by funext n; simp only [h3, if_true])))).up fun n => by
    show pStmt (pG n) (a :: r) = _; unfold pStmt; simp only [h.is]; rfl
theorem r_s_while (h : IsOp a [119, 104, 105, 108, 101]) (h1 : HEAD r (x, t1)) (h2 : STMT t1 (b, t2)) : STMT (a :: r) (nd 27 [x, bodyN b], t2) :=
  (h1.bind (g := fun x n => ((pG n).stmt x.2).bind fun b => some (nd 27 [x.1, bodyN b.1], b.2)) (h2.bind (g := fun b _ => some (nd 27 [x, bodyN b.1], b.2)) (Ok.ret _))).up fun n => by
    show pStmt (pG n) (a :: r) = _; unfold pStmt; simp only [h.is]; rfl
theorem r_s_do (h : IsOp a [100, 111]) (h1 : STMT r (b, t1)) (h2 : tIs [119, 104, 105, 108, 101] t1 = true) (h3 : HEAD t1.tail (x, t2)) (h4 : tIs [59] t2 = true) : STMT (a :: r) (nd 28 [bodyN b, x], t2.tail) :=
  (h1.bind (g := fun b n => (tNeed [119, 104, 105, 108, 101] b.2).bind fun t => ((pG n).head t).bind fun x => (pEnd x.2).bind fun t => some (nd 28 [bodyN b.1, x.1], t))
    ((h3.bind (g := fun x _ => (pEnd x.2).bind fun t => some (nd 28 [bodyN b, x.1], t)) ((Ok.ret _).eq (by funext n; simp only [pEnd_ok h4, Option.bind_some]))).eq (by funext n; simp only [tNeed_ok h2, Option.bind_some]))).up fun n => by
    show pStmt (pG n) (a :: r) = _; unfold pStmt; simp only [h.is]; rfl
theorem r_s_for (h : IsOp a [102, 111, 114]) (h1 : LOOP r v) : STMT (a :: r) v :=
  h1.up fun n => by show pStmt (pG n) (a :: r) = _; unfold pStmt; simp only [h.is]; rfl
theorem leap_name {p : Tok} (hp : p.kind = 1) (hf : p.fresh = false) (h2 : tIs [59] r = true) : pLeap k (p :: r) = some (ndN k p.text [], r.tail) := by
  unfold pLeap
  rw [if_pos (by show (p.kind == 1 && !p.fresh) = true; rw [hp, hf]; rfl)]
  show (pEnd r).bind _ = _
  rw [pEnd_ok h2]; rfl
theorem leap_no (h2 : tIs [59] t = true) : pLeap k t = some (nd k [], t.tail) := by
  unfold pLeap
  obtain ⟨p, q, rfl, ho⟩ := tIs_elim h2
  rw [if_neg (by rw [(ho.kinds q).1]; simp), pEnd_ok h2]; rfl
theorem r_s_break (h : IsOp a [98, 114, 101, 97, 107]) (h1 : pLeap 31 r = some v) : STMT (a :: r) v :=
  (Ok.ret v).up fun n => by show pStmt (pG n) (a :: r) = _; unfold pStmt; simp only [h.is]; exact h1
theorem r_s_continue (h : IsOp a [99, 111, 110, 116, 105, 110, 117, 101]) (h1 : pLeap 32 r = some v) : STMT (a :: r) v :=
  (Ok.ret v).up fun n => by show pStmt (pG n) (a :: r) = _; unfold pStmt; simp only [h.is]; exact h1
theorem r_s_return (h : IsOp a [114, 101, 116, 117, 114, 110]) (h0 : (!tIs [59] r && !pStops r) = true) (h1 : EXPR false r (x, t1)) (h2 : tIs [59] t1 = true) : STMT (a :: r) (nd 33 [x], t1.tail) :=
  (h1.bind (g := fun x _ => (pEnd x.2).bind fun t => some (nd 33 [x.1], t)) ((Ok.ret _).eq (by funext n; simp only [pEnd_ok h2, Option.bind_some]))).up fun n => by
    show pStmt (pG n) (a :: r) = _; unfold pStmt; simp only [h.is]
    show (if (!tIs [59] r && !pStops r) = true then _ else _) = _
    rw [if_pos h0]; rfl
theorem r_s_return_no (h : IsOp a [114, 101, 116, 117, 114, 110]) (h1 : tIs [59] r = true) : STMT (a :: r) (nd 33 [], r.tail) :=
  (Ok.ret _).up fun n => by
    show pStmt (pG n) (a :: r) = _; unfold pStmt; simp only [h.is]
    show (if (!tIs [59] r && !pStops r) = true then _ else (pEnd r).bind fun t => some (nd 33 [], t)) = _
    rw [if_neg (by rw [h1]; simp), pEnd_ok h1]; rfl
theorem r_s_throw (h : IsOp a [116, 104, 114, 111, 119]) (h0 : tFresh r = false) (h1 : EXPR false r (x, t1)) (h2 : tIs [59] t1 = true) : STMT (a :: r) (nd 34 [x], t1.tail) :=
  (h1.bind (g := fun x _ => (pEnd x.2).bind fun t => some (nd 34 [x.1], t)) ((Ok.ret _).eq (by funext n; simp only [pEnd_ok h2, Option.bind_some]))).up fun n => by
    show pStmt (pG n) (a :: r) = _; unfold pStmt; simp only [h.is]
    show (if tFresh r = true then none else _) = _
    rw [if_neg (by rw [h0]; decide)]; rfl
abbrev CATCH (t : Toks) (v : (Str × Node) × Toks) : Prop := Ok (fun n => pCatch (pG n) t) v
abbrev FINAL (t : Toks) (v : Node × Toks) : Prop := Ok (fun n => pFinal (pG n) t) v
theorem r_catch_no (h : tIs [99, 97, 116, 99, 104] t = false) : CATCH t (([], nd 42 []), t) := (Ok.ret _).eq (by funext n; unfold pCatch; rw [if_neg (by rw [h]; decide)])
theorem r_catch {p : Tok} {q : Toks} (h : tIs [99, 97, 116, 99, 104] t = true) (h1 : tIs [40] t.tail = true) (h2 : t.tail.tail = p :: q) (hp : p.kind = 1) (h3 : tIs [41] q = true) (h4 : BLOCK q.tail (b, t1)) : CATCH t ((p.text, b), t1) :=
  (h4.bind (g := fun b _ => some ((p.text, b.1), b.2)) (Ok.ret _)).eq (by
    funext n; unfold pCatch
    rw [if_pos h, tNeed_ok h1]
    simp only [Option.bind_some, h2]
    rw [if_pos (by show (p.kind == 1) = true; rw [hp]; rfl)]
    show (tNeed [41] q).bind _ = _
    rw [tNeed_ok h3]; rfl)
theorem r_final_no (h : tIs [102, 105, 110, 97, 108, 108, 121] t = false) : FINAL t (nd 42 [], t) := (Ok.ret _).eq (by funext n; unfold pFinal; rw [if_neg (by rw [h]; decide)])
theorem r_final (h : tIs [102, 105, 110, 97, 108, 108, 121] t = true) (h1 : BLOCK t.tail v) : FINAL t v := h1.eq (by funext n; unfold pFinal; rw [if_pos h])
theorem r_s_try (h : IsOp a [116, 114, 121]) (h1 : BLOCK r (b, t1)) (h2 : CATCH t1 ((s, y), t2)) (h3 : FINAL t2 (z, t3)) (h4 : (z.Kind == 42 && y.Kind == 42) = false) : STMT (a :: r) (ndN 35 s [b, y, z], t3) :=
  (h1.bind (g := fun b n => (pCatch (pG n) b.2).bind fun c => (pFinal (pG n) c.2).bind fun f => if (f.1.Kind == 42 && c.1.2.Kind == 42) = true then none else some (ndN 35 c.1.1 [b.1, c.1.2, f.1], f.2))
    (h2.bind (g := fun c n => (pFinal (pG n) c.2).bind fun f => if (f.1.Kind == 42 && c.1.2.Kind == 42) = true then none else some (ndN 35 c.1.1 [b, c.1.2, f.1], f.2))
      (h3.bind (g := fun f _ => if (f.1.Kind == 42 && y.Kind == 42) = true then none else some (ndN 35 s [b, y, f.1], f.2)) ((Ok.ret _).eq (by funext n; simp only [h4, Bool.false_eq_true, if_false]))))).up fun n => by
    show pStmt (pG n) (a :: r) = _; unfold pStmt; simp only [h.is]; rfl
theorem r_s_switch (h : IsOp a [115, 119, 105, 116, 99, 104]) (h1 : HEAD r (x, t1)) (h2 : tIs [123] t1 = true) (h3 : CASES true t1.tail (l, t2)) : STMT (a :: r) (nd 36 (x :: l), t2) :=
  (h1.bind (g := fun x n => (tNeed [123] x.2).bind fun t => ((pG n).cases true t).bind fun l => some (nd 36 (x.1 :: l.1), l.2))
    ((h3.bind (g := fun l _ => some (nd 36 (x :: l.1), l.2)) (Ok.ret _)).eq (by funext n; simp only [tNeed_ok h2, Option.bind_some]))).up fun n => by
    show pStmt (pG n) (a :: r) = _; unfold pStmt; simp only [h.is]; rfl
/-- the words that a statement may begin with -/
def stWs : List Str := [[123], [59], [118, 97, 114], [105, 102], [119, 104, 105, 108, 101], [100, 111], [102, 111, 114], [98, 114, 101, 97, 107], [99, 111, 110, 116, 105, 110, 117, 101], [114, 101, 116, 117, 114, 110], [116, 104, 114, 111, 119], [116, 114, 121], [115, 119, 105, 116, 99, 104], [102, 117, 110, 99, 116, 105, 111, 110]]
theorem r_s_label (hs : ∀ w ∈ stWs, tIs w (a :: r) = false) (h : a.kind = 1) (h1 : tIs [58] r = true) (h2 : STMT r.tail (x, t1)) : STMT (a :: r) (ndN 38 a.text [x], t1) :=
  (h2.bind (g := fun x _ => some (ndN 38 a.text [x.1], x.2)) (Ok.ret _)).up fun n => by
    have hs := fun w h => hs w h
    simp only [stWs, List.mem_cons, List.not_mem_nil, or_false] at hs
    show pStmt (pG n) (a :: r) = _; unfold pStmt
    simp only [hs _ (.inl rfl), hs _ (.inr (.inl rfl)), hs _ (.inr (.inr (.inl rfl))), hs _ (.inr (.inr (.inr (.inl rfl)))), hs _ (.inr (.inr (.inr (.inr (.inl rfl))))), hs _ (.inr (.inr (.inr (.inr (.inr (.inl rfl)))))), hs _ (.inr (.inr (.inr (.inr (.inr (.inr (.inl rfl))))))), hs _ (.inr (.inr (.inr (.inr (.inr (.inr (.inr (.inl rfl)))))))), hs _ (.inr (.inr (.inr (.inr (.inr (.inr (.inr (.inr (.inl rfl))))))))), hs _ (.inr (.inr (.inr (.inr (.inr (.inr (.inr (.inr (.inr (.inl rfl)))))))))), hs _ (.inr (.inr (.inr (.inr (.inr (.inr (.inr (.inr (.inr (.inr (.inl rfl))))))))))), hs _ (.inr (.inr (.inr (.inr (.inr (.inr (.inr (.inr (.inr (.inr (.inr (.inl rfl)))))))))))), hs _ (.inr (.inr (.inr (.inr (.inr (.inr (.inr (.inr (.inr (.inr (.inr (.inr (.inl rfl))))))))))))), hs _ (.inr (.inr (.inr (.inr (.inr (.inr (.inr (.inr (.inr (.inr (.inr (.inr (.inr rfl))))))))))))), Bool.false_eq_true, if_false]
    rw [if_pos (by show (a.kind == 1 && tIs [58] r) = true; rw [h, h1]; rfl)]; rfl
theorem r_s_expr (hs : ∀ w ∈ stWs, tIs w t = false) (h : (tKind t == 1 && tIs [58] t.tail) = false) (h1 : EXPR false t (x, t1)) (h2 : tIs [59] t1 = true) : STMT t (nd 24 [x], t1.tail) :=
  (h1.bind (g := fun x _ => (pEnd x.2).bind fun t => some (nd 24 [x.1], t)) ((Ok.ret _).eq (by funext n; simp only [pEnd_ok h2, Option.bind_some]))).up fun n => by
    have hs := fun w h => hs w h
    simp only [stWs, List.mem_cons, List.not_mem_nil, or_false] at hs
    show pStmt (pG n) t = _; unfold pStmt
    simp only [hs _ (.inl rfl), hs _ (.inr (.inl rfl)), hs _ (.inr (.inr (.inl rfl))), hs _ (.inr (.inr (.inr (.inl rfl)))), hs _ (.inr (.inr (.inr (.inr (.inl rfl))))), hs _ (.inr (.inr (.inr (.inr (.inr (.inl rfl)))))), hs _ (.inr (.inr (.inr (.inr (.inr (.inr (.inl rfl))))))), hs _ (.inr (.inr (.inr (.inr (.inr (.inr (.inr (.inl rfl)))))))), hs _ (.inr (.inr (.inr (.inr (.inr (.inr (.inr (.inr (.inl rfl))))))))), hs _ (.inr (.inr (.inr (.inr (.inr (.inr (.inr (.inr (.inr (.inl rfl)))))))))), hs _ (.inr (.inr (.inr (.inr (.inr (.inr (.inr (.inr (.inr (.inr (.inl rfl))))))))))), hs _ (.inr (.inr (.inr (.inr (.inr (.inr (.inr (.inr (.inr (.inr (.inr (.inl rfl)))))))))))), hs _ (.inr (.inr (.inr (.inr (.inr (.inr (.inr (.inr (.inr (.inr (.inr (.inr (.inl rfl))))))))))))), hs _ (.inr (.inr (.inr (.inr (.inr (.inr (.inr (.inr (.inr (.inr (.inr (.inr (.inr rfl))))))))))))), h, Bool.false_eq_true, if_false]
end
end Go.D07


/- Chapter 7, plainly: statements are read as statements. -/
namespace Go.D07
open Go Go.Gw Go.Dn
set_option linter.unusedSimpArgs false
set_option maxRecDepth 100000

/-- what may begin a statement -/
def begSL : List Str := [[116, 104, 105, 115], [110, 117, 108, 108], [116, 114, 117, 101], [102, 97, 108, 115, 101], [40], [91], [123], [110, 101, 119], [45], [43], [33], [116, 121, 112, 101, 111, 102], [100, 101, 108, 101, 116, 101], [118, 111, 105, 100], [43, 43], [45, 45], [59], [118, 97, 114], [105, 102], [119, 104, 105, 108, 101], [100, 111], [102, 111, 114], [98, 114, 101, 97, 107], [99, 111, 110, 116, 105, 110, 117, 101], [114, 101, 116, 117, 114, 110], [116, 104, 114, 111, 119], [116, 114, 121], [115, 119, 105, 116, 99, 104]]
def BegS (t : Toks) : Prop := ∃ a r, t = a :: r ∧ (a.kind = 1 ∨ a.kind = 3 ∨ a.kind = 4 ∨ ∃ w, IsOp a w ∧ w ∈ begSL)
theorem BegS.is {t : Toks} (h : BegS t) {s : Str} (hs : begSL.contains s = false) : tIs s t = false := by
  obtain ⟨a, r, rfl, h⟩ := h
  rcases h with h | h | h | ⟨w, h1, h2⟩
  · show (opK a && _) = false; rw [opK_no (.inl h)]; rfl
  · show (opK a && _) = false; rw [opK_no (.inr (.inl h))]; rfl
  · show (opK a && _) = false; rw [opK_no (.inr (.inr h))]; rfl
  · rw [h1.is, beq_eq_false_iff_ne]
    rintro rfl
    rw [show begSL.contains w = true by simpa using h2] at hs
    cases hs
theorem BegS.any {t : Toks} (h : BegS t) {l : List Str} (hs : ∀ w ∈ begSL, l.contains w = false) : tAny l t = false := by
  obtain ⟨a, r, rfl, h⟩ := h
  rcases h with h | h | h | ⟨w, h1, h2⟩
  · show (opK a && _) = false; rw [opK_no (.inl h)]; rfl
  · show (opK a && _) = false; rw [opK_no (.inr (.inl h))]; rfl
  · show (opK a && _) = false; rw [opK_no (.inr (.inr h))]; rfl
  · rw [h1.any]; exact hs w h2
theorem BegS.kind0 {t : Toks} (h : BegS t) : (tKind t == 0) = false := by
  obtain ⟨a, r, rfl, h⟩ := h
  show (a.kind == 0) = false
  rcases h with h | h | h | ⟨w, h1, _⟩
  · rw [h]; rfl
  · rw [h]; rfl
  · rw [h]; rfl
  · rcases h1.kind with e | e <;> rw [e] <;> rfl
/-- what may follow a statement -/
structure FolS (t : Toks) : Prop where
  els : tIs [101, 108, 115, 101] t = false
  cat : tIs [99, 97, 116, 99, 104] t = false
  fin : tIs [102, 105, 110, 97, 108, 108, 121] t = false
theorem BegS.fol {t : Toks} (h : BegS t) : FolS t := ⟨h.is (by decide), h.is (by decide), h.is (by decide)⟩
theorem IsOp.folS {a : Tok} {w : Str} (h : IsOp a w) (r : Toks) (h1 : ([[101, 108, 115, 101], [99, 97, 116, 99, 104], [102, 105, 110, 97, 108, 108, 121]] : List Str).contains w = false) : FolS (a :: r) := by
  have h1 : w ∉ ([[101, 108, 115, 101], [99, 97, 116, 99, 104], [102, 105, 110, 97, 108, 108, 121]] : List Str) := by simpa using h1
  simp only [List.mem_cons, List.not_mem_nil, or_false, not_or] at h1
  exact ⟨by rw [h.is, beq_eq_false_iff_ne]; exact h1.1, by rw [h.is, beq_eq_false_iff_ne]; exact h1.2.1, by rw [h.is, beq_eq_false_iff_ne]; exact h1.2.2⟩
section
variable (c : Str → Tok)
structure SR (y : Node) : Prop where
  beg : ∀ r, BegS (T c (tkN y).st ++ r)
  rd : ∀ r, FolS r → STMT (T c (tkN y).st ++ r) (y, r)
structure FN (y : Node) : Prop where
  st : (tkN y).st = [102, 117, 110, 99, 116, 105, 111, 110] :: (funcT y (tkL y.L)).tail
  rd : ∀ r, FUNC 39 (T c (funcT y (tkL y.L)).tail ++ r) (y, r)
structure CS (y : Node) : Prop where
  eq : y = nd 37 y.L
  ex : ∃ a l, y.L = a :: l ∧ (a = nd 42 [] ∨ (exprK a.Kind = true ∧ RT c a)) ∧ ∀ k ∈ l, SR c k
structure VD (y : Node) : Prop where
  eq : y = nd 22 y.L
  ne : ∃ d l, y.L = d :: l
  ds : ∀ d ∈ y.L, d = ndN 23 d.Name d.L ∧ nameP d.Name = true ∧ (d.L = [] ∨ ∃ a, d.L = [a] ∧ RT c a)
variable {c}
theorem body_read (ls : List Node) (h : ∀ k ∈ ls, SR c k) (r : Toks) (hr : (tAny [[99, 97, 115, 101], [100, 101, 102, 97, 117, 108, 116], [125]] r || tKind r == 0) = true) (hf : FolS r) : BODY (T c (stmtsT (tkL ls)) ++ r) (ls, r) := by
  have hfol : ∀ ls : List Node, (∀ k ∈ ls, SR c k) → FolS (T c (stmtsT (tkL ls)) ++ r) := by
    intro ls h
    rcases ls with _ | ⟨y, l⟩
    · exact hf
    · have e : stmtsT (tkL (y :: l)) = (tkN y).st ++ stmtsT (tkL l) := by simp [stmtsT, tkL]
      rw [e, T_app, List.append_assoc]
      exact ((h y List.mem_cons_self).beg _).fol
  induction ls with
  | nil => exact r_body_nil hr
  | cons y l ih =>
    have hl := fun k hk => h k (List.mem_cons_of_mem _ hk)
    have e : stmtsT (tkL (y :: l)) = (tkN y).st ++ stmtsT (tkL l) := by simp [stmtsT, tkL]
    rw [e, T_app, List.append_assoc]
    have h := h y List.mem_cons_self
    have hb := h.beg (T c (stmtsT (tkL l)) ++ r)
    exact r_body (by rw [hb.any (by decide), hb.kind0]; rfl) (h.rd _ (hfol l hl)) (ih hl)
variable (C : Cls c)
include C
theorem begS_op {w : Str} (l : List Str) (r : Toks) (ho : opsA.contains w = true) (hb : begSL.contains w = true) : BegS (T c (w :: l) ++ r) :=
  ⟨c w, T c l ++ r, rfl, .inr (.inr (.inr ⟨w, op_of C ho, by simpa using hb⟩))⟩
theorem stmts_read (f : Bool) (ls : List Node) (h : ∀ k ∈ ls, SR c k ∨ (f = true ∧ FN c k)) (r : Toks) (hr : (tIs [125] r || tKind r == 0) = true) (hf : FolS r) : STMTS f (T c (stmtsT (tkL ls)) ++ r) (ls, r) := by
  have of := op_of C (w := [102, 117, 110, 99, 116, 105, 111, 110]) (by decide)
  have hfol : ∀ ls : List Node, (∀ k ∈ ls, SR c k ∨ (f = true ∧ FN c k)) → FolS (T c (stmtsT (tkL ls)) ++ r) := by
    intro ls h
    rcases ls with _ | ⟨y, l⟩
    · exact hf
    · have e : stmtsT (tkL (y :: l)) = (tkN y).st ++ stmtsT (tkL l) := by simp [stmtsT, tkL]
      rw [e, T_app, List.append_assoc]
      rcases h y List.mem_cons_self with h | ⟨_, h⟩
      · exact (h.beg _).fol
      · rw [h.st]; exact of.folS _ (by decide)
  induction ls with
  | nil => exact r_stmts_nil hr
  | cons y l ih =>
    have hl := fun k hk => h k (List.mem_cons_of_mem _ hk)
    have e : stmtsT (tkL (y :: l)) = (tkN y).st ++ stmtsT (tkL l) := by simp [stmtsT, tkL]
    rw [e, T_app, List.append_assoc]
    rcases h y List.mem_cons_self with q | ⟨ef, q⟩
    · have hb := q.beg (T c (stmtsT (tkL l)) ++ r)
      exact r_stmts (by rw [hb.is (by decide), hb.kind0]; rfl) (by rw [hb.is (by decide), Bool.and_false]) (q.rd _ (hfol l hl)) (ih hl)
    · subst ef
      rw [q.st, T_cons, List.cons_append]
      exact r_stmts_fn (by rw [of.is, (of.kinds _).2.2.2]; decide) (by rw [of.is]; decide) (q.rd _) (ih hl)
theorem names_read : ∀ (ns : List Str), (∀ s ∈ ns, nameP s = true) → ∀ r : Toks, pParams (T c (namesT ns) ++ c [41] :: r) = some (ns, r) := by
  have o := op_of C (w := [41]) (by decide)
  have oc := op_of C (w := [44]) (by decide)
  have key : ∀ (l : List Str) (s : Str), nameP s = true → (∀ q ∈ l, nameP q = true) → ∀ r, pNames (T c (s :: l.flatMap fun q => [[44], q]) ++ c [41] :: r) = some (s :: l, r) := by
    intro l
    induction l with
    | nil =>
      intro s hs _ r
      obtain ⟨k1, k2⟩ := C.name s hs
      show pNames (c s :: c [41] :: r) = _
      rw [pNames]
      rw [if_pos (by rw [k1]; rfl), if_pos (by rw [o.is]; decide), k2]
    | cons q l ih =>
      intro s hs hl r
      obtain ⟨k1, k2⟩ := C.name s hs
      have := ih q (hl q List.mem_cons_self) (fun p hp => hl p (List.mem_cons_of_mem _ hp)) r
      show pNames (c s :: c [44] :: (T c (q :: l.flatMap fun q => [[44], q]) ++ c [41] :: r)) = _
      rw [pNames]
      rw [if_pos (by rw [k1]; rfl), if_neg (by rw [oc.is]; decide), if_pos (by rw [oc.is]; decide), this, k2]; rfl
  intro ns h r
  rcases ns with _ | ⟨s, l⟩
  · show pParams (c [41] :: r) = _
    unfold pParams
    rw [if_pos (by rw [o.is]; decide)]; rfl
  · unfold pParams
    have hk := (C.name s (h s List.mem_cons_self)).1
    rw [if_neg (by show ¬ (opK (c s) && _) = true; rw [opK_no (.inl hk)]; simp)]
    exact key l s (h s List.mem_cons_self) (fun q hq => h q (List.mem_cons_of_mem _ hq)) r
theorem func_read {x : Node} {k : Int} (h : x.Kind = k) (hk : k = 10 ∨ k = 39) (ho : ownP x = true) (hs : ∀ y ∈ x.L, SR c y ∨ FN c y) (r : Toks) : FUNC k (T c (funcT x (tkL x.L)).tail ++ r) (x, r) := by
  have o1 := op_of C (w := [40]) (by decide)
  have o2 := op_of C (w := [123]) (by decide)
  have o3 := op_of C (w := [125]) (by decide)
  have hns : ∀ s ∈ x.Names, nameP s = true := by
    simp only [ownP, Bool.and_eq_true] at ho
    simpa using ho.2.2.2.2
  have hnm : (k = 39 → nameP x.Name = true) ∧ (x.Name = [] ∨ nameP x.Name = true) := by
    have := (own_parts ho).1
    rcases hk with rfl | rfl
    · refine ⟨fun e => absurd e (by decide), ?_⟩
      simpa [rnamedP, h] using this
    · have : nameP x.Name = true := by simpa [rnamedP, h] using this
      exact ⟨fun _ => this, .inr this⟩
  have e := mk_func h hk ho
  have hst := stmts_read C true x.L (fun y hy => (hs y hy).imp id fun q => ⟨rfl, q⟩) (c [125] :: r) (by rw [o3.is]; rfl) (o3.folS _ (by decide))
  have hp := names_read C x.Names hns (c [123] :: (T c (stmtsT (tkL x.L)) ++ c [125] :: r))
  have ht : T c (funcT x (tkL x.L)).tail ++ r = T c (if (x.Name == ([] : Str)) = true then [] else [x.Name]) ++ c [40] :: (T c (namesT x.Names) ++ c [41] :: c [123] :: (T c (stmtsT (tkL x.L)) ++ c [125] :: r)) := by
    simp [funcT, T]
  rw [ht]
  have hm : (if (tKind (T c (if (x.Name == ([] : Str)) = true then [] else [x.Name]) ++ c [40] :: (T c (namesT x.Names) ++ c [41] :: c [123] :: (T c (stmtsT (tkL x.L)) ++ c [125] :: r))) == 1) = true then some (tText (T c (if (x.Name == ([] : Str)) = true then [] else [x.Name]) ++ c [40] :: (T c (namesT x.Names) ++ c [41] :: c [123] :: (T c (stmtsT (tkL x.L)) ++ c [125] :: r))), (T c (if (x.Name == ([] : Str)) = true then [] else [x.Name]) ++ c [40] :: (T c (namesT x.Names) ++ c [41] :: c [123] :: (T c (stmtsT (tkL x.L)) ++ c [125] :: r))).tail)
      else if (k == 39) = true then none else some (([] : Str), T c (if (x.Name == ([] : Str)) = true then [] else [x.Name]) ++ c [40] :: (T c (namesT x.Names) ++ c [41] :: c [123] :: (T c (stmtsT (tkL x.L)) ++ c [125] :: r)))) = some (x.Name, c [40] :: (T c (namesT x.Names) ++ c [41] :: c [123] :: (T c (stmtsT (tkL x.L)) ++ c [125] :: r))) := by
    rcases hnm.2 with n | n
    · have hk39 : (k == 39) = false := by
        rw [beq_eq_false_iff_ne]
        rintro rfl
        have := hnm.1 rfl
        rw [n] at this
        exact absurd this (by decide)
      rw [n]
      show (if (tKind (c [40] :: _) == 1) = true then _ else _) = _
      rw [(o1.kinds _).1, hk39]; rfl
    · have hne : (x.Name == ([] : Str)) = false := by
        rw [beq_eq_false_iff_ne]
        intro e
        rw [e] at n
        exact absurd n (by decide)
      obtain ⟨k1, k2⟩ := C.name x.Name n
      rw [hne]
      show (if ((c x.Name).kind == 1) = true then some ((c x.Name).text, _) else _) = _
      rw [k1, k2]; rfl
  have := r_fn hm (by rw [o1.is]; decide) hp (by rw [o2.is]; decide) hst (by rw [o3.is]; decide)
  rw [← e] at this
  exact this
theorem block_read {x : Node} (h : x.Kind = 25) (ho : ownP x = true) (hs : ∀ y ∈ x.L, SR c y) (r : Toks) : BLOCK (T c (tkN x).st ++ r) (x, r) := by
  have o2 := op_of C (w := [123]) (by decide)
  have o3 := op_of C (w := [125]) (by decide)
  have e := mk_nd h ho (by decide) (by decide)
  rw [st_25 h, T_cons, T_app, List.cons_append, List.append_assoc]
  have hst := stmts_read C false x.L (fun y hy => .inl (hs y hy)) (c [125] :: r) (by rw [o3.is]; rfl) (o3.folS _ (by decide))
  have := r_block (t := c [123] :: (T c (stmtsT (tkL x.L)) ++ c [125] :: r)) (by rw [o2.is]; decide) hst (by rw [o3.is]; decide)
  rw [← e] at this
  exact this
theorem head_read {k : Node} (R : RT c k) (r : Toks) : HEAD (T c ([40] :: (atT (tkN k) 0 false ++ [[41]])) ++ r) (k, r) := by
  have o1 := op_of C (w := [40]) (by decide)
  have o2 := op_of C (w := [41]) (by decide)
  rw [T_cons, T_app, List.cons_append, List.append_assoc]
  show HEAD (c [40] :: (T c (atT (tkN k) 0 false) ++ c [41] :: r)) (k, r)
  exact r_head (t := c [40] :: (T c (atT (tkN k) 0 false) ++ c [41] :: r)) (t1 := c [41] :: r) (by rw [o1.is]; decide) (at_end C R false [41] r (by decide) (by decide) 0) (by rw [o2.is]; decide)
/-- declarations with commas between -/
theorem vars_read (no : Bool) (ls : List Node) (hne : ls ≠ []) (h : ∀ d ∈ ls, d = ndN 23 d.Name d.L ∧ nameP d.Name = true ∧ (d.L = [] ∨ ∃ a, d.L = [a] ∧ RT c a)) (r : Toks) (h1 : tIs [44] r = false) (h2 : tIs [61] r = false) (h3 : folT no r ≤ 0) :
    VARS no (T c (commas (declT no) (tkL ls)) ++ r) (ls, r) := by
  have oc := op_of C (w := [44]) (by decide)
  have oe := op_of C (w := [61]) (by decide)
  have hd : ∀ d ∈ ls, ∀ t : Toks, tIs [61] t = false → folT no t ≤ 0 → ∃ q, T c (declT no (tkN d)) ++ t = c d.Name :: q ∧ (c d.Name).kind = 1 ∧ (c d.Name).text = d.Name ∧ DECL no q (d.L, t) := by
    intro d hd t ht hf
    obtain ⟨e, n, hl⟩ := h d hd
    obtain ⟨k1, k2⟩ := C.name d.Name n
    unfold declT
    rw [kids_x, kids_k]
    rcases hl with hl | ⟨a, hl, R⟩
    · rw [hl]
      exact ⟨t, by simp [tkL, k0, T], k1, k2, r_decl_no ht⟩
    · rw [hl, tk0]
      exact ⟨T c ([61] :: atT (tkN a) 1 no) ++ t, rfl, k1, k2, r_decl (by show tIs [61] (c [61] :: _) = true; rw [oe.is]; decide) (at_asg C R no t hf 1 (by decide))⟩
  have key : ∀ (l : List Node), (∀ k ∈ l, k ∈ ls) → ∀ y, y ∈ ls → VARS no (T c (declT no (tkN y) ++ restT (declT no) (tkL l)) ++ r) (y :: l, r) := by
    intro l
    induction l with
    | nil =>
      intro _ y hy
      have e : restT (declT no) (tkL []) = [] := by simp [restT, tkL]
      rw [e, List.append_nil]
      obtain ⟨q, e1, k1, k2, hq⟩ := hd y hy r h2 h3
      rw [e1]
      have := r_vars_last k1 hq h1
      rw [k2, ← (h y hy).1] at this
      exact this
    | cons z l ih =>
      intro hl y hy
      have e : restT (declT no) (tkL (z :: l)) = [44] :: (declT no (tkN z) ++ restT (declT no) (tkL l)) := by simp [restT, tkL]
      rw [e, T_app, List.append_assoc, T_cons, List.cons_append]
      obtain ⟨q, e1, k1, k2, hq⟩ := hd y hy (c [44] :: (T c (declT no (tkN z) ++ restT (declT no) (tkL l)) ++ r)) (by rw [oc.is]; decide) (by rw [oc.fol]; cases no <;> decide)
      rw [e1]
      have := r_vars_more k1 hq (by rw [oc.is]; decide) (ih (fun k hk => hl k (List.mem_cons_of_mem _ hk)) z (hl z List.mem_cons_self))
      rw [k2, ← (h y hy).1] at this
      exact this
  rcases ls with _ | ⟨y, l⟩
  · exact absurd rfl hne
  · have e : commas (declT no) (tkL (y :: l)) = declT no (tkN y) ++ restT (declT no) (tkL l) := by simp [tkL, commas, restT]
    rw [e]
    exact key l (fun k hk => List.mem_cons_of_mem _ hk) y List.mem_cons_self
end
end Go.D07


/- Chapter 7, plainly: each kind of statement is read as that statement; a whole program. -/
namespace Go.D07
open Go Go.Gw Go.Dn
set_option linter.unusedSimpArgs false
set_option maxRecDepth 100000

theorem body_25 {b : Node} (h : b.Kind = 25) : bodyN b = b := by unfold bodyN; rw [if_pos (by rw [h]; rfl)]
theorem cases_lt : ∀ {l : List Node} {e : Nat}, casesP l e = true → e < 2
  | [], e, h => by simpa [casesP] using h
  | k :: r, e, h => by
    simp only [casesP, Bool.and_eq_true] at h
    have := cases_lt h.2
    split at this <;> omega
theorem expr_42 {a : Node} (he : exprK a.Kind = true) : (a.Kind == 42) = false ∧ (a.Kind == 22) = false ∧ (a.Kind != 42) = true := by
  rcases expr_kinds he with h | h | h | h | h | h | h | h | h | h | h | h | h | h | h | h | h | h | h | h <;> rw [h] <;> decide
theorem begin_expr {a : Node} (he : exprK a.Kind = true) (least : Int) (no : Bool) : beginT (tkN a) least no = atT (tkN a) least no := by
  unfold beginT
  rw [kids_x, (expr_42 he).1, (expr_42 he).2.1]; rfl
theorem begin_no {a : Node} (h : a.Kind = 42) (least : Int) (no : Bool) : beginT (tkN a) least no = [] := by
  unfold beginT
  rw [kids_x, h]; rfl
theorem begin_var {a : Node} (h : a.Kind = 22) (least : Int) (no : Bool) : beginT (tkN a) least no = [118, 97, 114] :: commas (declT no) (tkL a.L) := by
  unfold beginT
  rw [kids_x, kids_k, h]; rfl
section
variable (c : Str → Tok)
/-- a block -/
structure BK (b : Node) : Prop where
  kind : b.Kind = 25
  bl : ∀ r, BLOCK (T c (tkN b).st ++ r) (b, r)
variable {c : Str → Tok}
variable (C : Cls c)
include C
theorem BK.st {b : Node} (B : BK c b) (r : Toks) : STMT (T c (tkN b).st ++ r) (b, r) := by
  have := B.bl r
  rw [st_25 B.kind] at this ⊢
  exact r_s_block (op_of C (by decide)) this
theorem till_read {a : Node} (h : a = nd 42 [] ∨ (exprK a.Kind = true ∧ RT c a)) (w : Str) (hw : w = [59] ∨ w = [41]) (r : Toks) : TILL w (T c (beginT (tkN a) 0 false) ++ c w :: r) (a, r) := by
  have ho : opsA.contains w = true := by rcases hw with rfl | rfl <;> decide
  have o := op_of C ho
  rcases h with h | ⟨he, R⟩
  · rw [begin_no (by rw [h]; rfl)]
    rw [h]
    exact r_till_end (by show tIs w (c w :: r) = true; rw [o.is]; simp)
  · rw [begin_expr he]
    have hb := at_beg C R 0 false (c w :: r)
    exact r_till (t1 := c w :: r) (hb.is (by rcases hw with rfl | rfl <;> decide)) (at_end C R false w r (by rcases hw with rfl | rfl <;> decide) ho 0) (by rw [o.is]; simp)
theorem sr_22 {x : Node} (h : x.Kind = 22) (V : VD c x) : SR c x := by
  have o := op_of C (w := [118, 97, 114]) (by decide)
  have oe := op_of C (w := [59]) (by decide)
  refine ⟨fun r => ?_, fun r _ => ?_⟩
  · rw [st_22 h]; exact begS_op C _ _ (by decide) (by decide)
  · obtain ⟨d, l, hL⟩ := V.ne
    rw [st_22 h, T_app, T_cons, List.append_assoc, List.cons_append]
    have hv := vars_read C false x.L (by rw [hL]; simp) V.ds (c [59] :: r) (by rw [oe.is]; decide) (by rw [oe.is]; decide) (by rw [oe.fol]; decide)
    have := r_s_var o hv (by rw [oe.is]; decide)
    rw [← V.eq] at this
    exact this
theorem sr_24 {x a : Node} (h : x.Kind = 24) (ho : ownP x = true) (hL : x.L = [a]) (R : RT c a) (h1 : oneP a 101 = true) : SR c x := by
  have o1 := op_of C (w := [40]) (by decide)
  have o2 := op_of C (w := [41]) (by decide)
  have oe := op_of C (w := [59]) (by decide)
  have e := mk_nd h ho (by decide) (by decide)
  rw [hL] at e
  obtain ⟨w, q, ht⟩ : ∃ w q, atT (tkN a) 0 false = w :: q := by
    cases e : atT (tkN a) 0 false with
    | nil => exact absurd e (at_ne h1 0 false)
    | cons w q => exact ⟨w, q, rfl⟩
  have hst : (tkN x).st = bareT (w :: q) ++ [[59]] := by rw [st_24 h, hL, tk0, ht]
  by_cases hc : (w == ([123] : Str) || w == ([102, 117, 110, 99, 116, 105, 111, 110] : Str)) = true
  · have hb : bareT (w :: q) = [40] :: ((w :: q) ++ [[41]]) := by unfold bareT; simp only [hc, if_true]
    rw [hb] at hst
    refine ⟨fun r => ?_, fun r _ => ?_⟩
    · rw [hst]; exact begS_op C _ _ (by decide) (by decide)
    · rw [hst, ← ht, List.cons_append, T_cons, T_app, T_app, List.cons_append, List.append_assoc, List.append_assoc]
      show STMT (c [40] :: (T c (atT (tkN a) 0 false) ++ c [41] :: c [59] :: r)) (x, r)
      have hp := r_paren o1 (at_end C R false [41] (c [59] :: r) (by decide) (by decide) 0) (by rw [o2.is]; decide)
      have hm : MADE (c [40] :: (T c (atT (tkN a) 0 false) ++ c [41] :: c [59] :: r)) (a, c [59] :: r) := r_made_prim (by rw [o1.is]; decide) hp
      have hf : folT false (c [59] :: r) = -1 := by rw [oe.fol]; decide
      have hx : EXPR false (c [40] :: (T c (atT (tkN a) 0 false) ++ c [41] :: c [59] :: r)) (a, c [59] :: r) :=
        r_expr (r_assign_plain (r_binary (r_unary_plain (by rw [o1.any]; decide) (by rw [o1.any]; decide) hm (mems_end (no := false) (by omega)) (fol_upd (no := false) (by omega))) (bins_end (by omega))) (fol_cond (no := false) (by omega)) (fol_asg (no := false) (by omega))) (comma_end (by omega))
      have := r_s_expr (fun w hw => by
        rw [o1.is]
        have : ∀ w ∈ stWs, (([40] : Str) == w) = false := by decide
        exact this w hw) (by rw [(o1.kinds _).1]; rfl) hx (by rw [oe.is]; decide)
      rw [← e] at this
      exact this
  · have hb : bareT (w :: q) = w :: q := by unfold bareT; simp only [hc, Bool.false_eq_true, if_false]
    rw [hb, ← ht] at hst
    have hc : w ≠ [123] ∧ w ≠ [102, 117, 110, 99, 116, 105, 111, 110] := by
      simp only [Bool.or_eq_true, beq_iff_eq, not_or] at hc; exact hc
    have hsp : ∀ (s : Str) (r : Toks), w ≠ s → tIs s (T c (atT (tkN a) 0 false) ++ r) = false := by
      intro s r hs
      rw [ht]
      cases e : tIs s (T c (w :: q) ++ r) with
      | false => rfl
      | true =>
        have e : (opK (c w) && ((c w).text == s)) = true := e
        rw [Bool.and_eq_true] at e
        have := C.opt w e.1
        exact absurd ((C.opt w e.1).symm.trans (eq_of_beq e.2)) hs
    refine ⟨fun r => ?_, fun r _ => ?_⟩
    · rw [hst, T_app, List.append_assoc]
      have hg := at_beg C R 0 false (T c [[59]] ++ r)
      obtain ⟨p, u, e1, _, hg⟩ := hg
      refine ⟨p, u, e1, ?_⟩
      rcases hg with hg | hg | hg | ⟨v, g1, g2, _⟩
      · exact .inl hg
      · exact .inr (.inl hg)
      · exact .inr (.inr (.inl hg))
      · refine .inr (.inr (.inr ⟨v, g1, ?_⟩))
        have hv : v ≠ [102, 117, 110, 99, 116, 105, 111, 110] := by
          rintro rfl
          have := hsp [102, 117, 110, 99, 116, 105, 111, 110] (T c [[59]] ++ r) hc.2
          rw [e1, g1.is] at this
          exact absurd this (by decide)
        have : ∀ v ∈ begL, v ≠ [102, 117, 110, 99, 116, 105, 111, 110] → v ∈ begSL := by decide
        exact this v g2 hv
    · rw [hst, T_app, List.append_assoc]
      have hg := at_beg C R 0 false (c [59] :: r)
      have := r_s_expr (t := T c (atT (tkN a) 0 false) ++ c [59] :: r) (fun s hs => by
        by_cases e1 : s = [123]
        · exact hsp s _ (by rw [e1]; exact hc.1)
        · by_cases e2 : s = [102, 117, 110, 99, 116, 105, 111, 110]
          · exact hsp s _ (by rw [e2]; exact hc.2)
          · have : ∀ s ∈ stWs, s ≠ [123] → s ≠ [102, 117, 110, 99, 116, 105, 111, 110] → begL.contains s = false := by decide
            exact hg.is (this s hs e1 e2)) (by
        cases hk : tKind (T c (atT (tkN a) 0 false) ++ c [59] :: r) == 1 with
        | false => rfl
        | true =>
          rw [Bool.true_and]
          exact at_lab C R 0 false _ (by rw [oe.is]; decide) (eq_of_beq hk)) (at_end C R false [59] r (by decide) (by decide) 0) (by rw [oe.is]; decide)
      rw [← e] at this
      exact this
theorem sr_25 {x : Node} (B : BK c x) : SR c x := by
  refine ⟨fun r => ?_, fun r _ => B.st C r⟩
  rw [st_25 B.kind]; exact begS_op C _ _ (by decide) (by decide)
theorem sr_26 {x a b : Node} (h : x.Kind = 26) (ho : ownP x = true) (hL : x.L = [a, b]) (R : RT c a) (B : BK c b) : SR c x := by
  have o := op_of C (w := [105, 102]) (by decide)
  have e := mk_nd h ho (by decide) (by decide)
  rw [hL] at e
  have hst : (tkN x).st = [105, 102] :: (([40] :: (atT (tkN a) 0 false ++ [[41]])) ++ (tkN b).st) := by rw [st_26 h, hL, tk0, tk1, tk2n]; simp [headT]
  refine ⟨fun r => ?_, fun r hf => ?_⟩
  · rw [hst]; exact begS_op C _ _ (by decide) (by decide)
  · rw [hst, T_cons, List.cons_append, T_app, List.append_assoc]
    have := r_s_if o (head_read C R _) (B.st C r) hf.els
    rw [body_25 B.kind, ← e] at this
    exact this
theorem sr_26e {x a b d : Node} (h : x.Kind = 26) (ho : ownP x = true) (hL : x.L = [a, b, d]) (R : RT c a) (B : BK c b) (D : BK c d) : SR c x := by
  have o := op_of C (w := [105, 102]) (by decide)
  have oe := op_of C (w := [101, 108, 115, 101]) (by decide)
  have e := mk_nd h ho (by decide) (by decide)
  rw [hL] at e
  have hst : (tkN x).st = [105, 102] :: (([40] :: (atT (tkN a) 0 false ++ [[41]])) ++ ((tkN b).st ++ ([101, 108, 115, 101] :: (tkN d).st))) := by rw [st_26 h, hL, tk0, tk1, tk2]; simp [headT]
  refine ⟨fun r => ?_, fun r hf => ?_⟩
  · rw [hst]; exact begS_op C _ _ (by decide) (by decide)
  · rw [hst, T_cons, List.cons_append, T_app, List.append_assoc, T_app, List.append_assoc, T_cons, List.cons_append]
    have := r_s_ifelse (t2 := c [101, 108, 115, 101] :: (T c (tkN d).st ++ r)) o (head_read C R _) (B.st C _) (by rw [oe.is]; decide) (D.st C r)
    rw [body_25 B.kind, body_25 D.kind, ← e] at this
    exact this
theorem sr_27 {x a b : Node} (h : x.Kind = 27) (ho : ownP x = true) (hL : x.L = [a, b]) (R : RT c a) (B : BK c b) : SR c x := by
  have o := op_of C (w := [119, 104, 105, 108, 101]) (by decide)
  have e := mk_nd h ho (by decide) (by decide)
  rw [hL] at e
  have hst : (tkN x).st = [119, 104, 105, 108, 101] :: (([40] :: (atT (tkN a) 0 false ++ [[41]])) ++ (tkN b).st) := by rw [st_27 h, hL, tk0, tk1]; simp [headT]
  refine ⟨fun r => ?_, fun r hf => ?_⟩
  · rw [hst]; exact begS_op C _ _ (by decide) (by decide)
  · rw [hst, T_cons, List.cons_append, T_app, List.append_assoc]
    have := r_s_while o (head_read C R _) (B.st C r)
    rw [body_25 B.kind, ← e] at this
    exact this
theorem sr_28 {x a b : Node} (h : x.Kind = 28) (ho : ownP x = true) (hL : x.L = [a, b]) (B : BK c a) (R : RT c b) : SR c x := by
  have o := op_of C (w := [100, 111]) (by decide)
  have ow := op_of C (w := [119, 104, 105, 108, 101]) (by decide)
  have oe := op_of C (w := [59]) (by decide)
  have e := mk_nd h ho (by decide) (by decide)
  rw [hL] at e
  have hst : (tkN x).st = [100, 111] :: ((tkN a).st ++ ([119, 104, 105, 108, 101] :: (([40] :: (atT (tkN b) 0 false ++ [[41]])) ++ [[59]]))) := by rw [st_28 h, hL, tk0, tk1]; simp [headT]
  refine ⟨fun r => ?_, fun r hf => ?_⟩
  · rw [hst]; exact begS_op C _ _ (by decide) (by decide)
  · rw [hst, T_cons, List.cons_append, T_app, List.append_assoc, T_cons, List.cons_append, T_app, List.append_assoc]
    have := r_s_do o (B.st C (c [119, 104, 105, 108, 101] :: (T c ([40] :: (atT (tkN b) 0 false ++ [[41]])) ++ (c [59] :: r)))) (by rw [ow.is]; decide) (head_read C R (c [59] :: r)) (by rw [oe.is]; decide)
    rw [body_25 B.kind, ← e] at this
    exact this
/-- a loop's beginning -/
theorem first_read {a : Node} (h : (a.Kind = 42 ∧ a = nd 42 []) ∨ (a.Kind = 22 ∧ VD c a) ∨ (exprK a.Kind = true ∧ RT c a)) (least : Int) (w : Str) (hw : w = [59] ∨ w = [105, 110]) (h42 : a.Kind = 42 → w = [59]) (r : Toks) : FIRST (T c (beginT (tkN a) least true) ++ c w :: r) (a, c w :: r) := by
  have how : opsA.contains w = true := by rcases hw with rfl | rfl <;> decide
  have o := op_of C how
  have ov := op_of C (w := [118, 97, 114]) (by decide)
  have hf : folS true w = -1 := by rcases hw with rfl | rfl <;> decide
  rcases h with ⟨h, e⟩ | ⟨h, V⟩ | ⟨he, R⟩
  · rw [begin_no h]
    obtain rfl := h42 h
    rw [e]
    exact r_first_no (by show tIs [118, 97, 114] (c [59] :: r) = false; rw [o.is]; decide) (by show tIs [59] (c [59] :: r) = true; rw [o.is]; decide)
  · obtain ⟨d, l, hL⟩ := V.ne
    rw [begin_var h, T_cons, List.cons_append]
    have hv := vars_read C true a.L (by rw [hL]; simp) V.ds (c w :: r) (by rw [o.is]; rcases hw with rfl | rfl <;> decide) (by rw [o.is]; rcases hw with rfl | rfl <;> decide) (by rw [o.fol, hf]; decide)
    have := r_first_var (t := c [118, 97, 114] :: (T c (commas (declT true) (tkL a.L)) ++ c w :: r)) (by rw [ov.is]; decide) hv
    rw [← V.eq] at this
    exact this
  · rw [begin_expr he]
    have hb := at_beg C R least true (c w :: r)
    exact r_first (hb.is (by decide)) (hb.is (by decide)) (at_exp C R true _ _ (by rw [o.fol, hf]; decide) (comma_end (by rw [o.fol, hf]; decide)) least)
theorem sr_29 {x a b d q : Node} (h : x.Kind = 29) (ho : ownP x = true) (hL : x.L = [a, b, d, q]) (ha : (a.Kind = 42 ∧ a = nd 42 []) ∨ (a.Kind = 22 ∧ VD c a) ∨ (exprK a.Kind = true ∧ RT c a)) (hb : b = nd 42 [] ∨ (exprK b.Kind = true ∧ RT c b)) (hd : d = nd 42 [] ∨ (exprK d.Kind = true ∧ RT c d)) (B : BK c q) : SR c x := by
  have o := op_of C (w := [102, 111, 114]) (by decide)
  have o1 := op_of C (w := [40]) (by decide)
  have oe := op_of C (w := [59]) (by decide)
  have e := mk_nd h ho (by decide) (by decide)
  rw [hL] at e
  have hst : (tkN x).st = [102, 111, 114] :: [40] :: (beginT (tkN a) 0 true ++ ([59] :: (beginT (tkN b) 0 false ++ ([59] :: (beginT (tkN d) 0 false ++ ([41] :: (tkN q).st)))))) := by rw [st_29 h, hL, tk0, tk1, tk2, tk3]
  refine ⟨fun r => ?_, fun r hf => ?_⟩
  · rw [hst]; exact begS_op C _ _ (by decide) (by decide)
  · rw [hst]
    simp only [T_cons, T_app, List.cons_append, List.append_assoc]
    have h1 := first_read C ha 0 [59] (.inl rfl) (fun _ => rfl) (T c (beginT (tkN b) 0 false) ++ c [59] :: (T c (beginT (tkN d) 0 false) ++ c [41] :: (T c (tkN q).st ++ r)))
    have h2 := till_read C hb [59] (.inl rfl) (T c (beginT (tkN d) 0 false) ++ c [41] :: (T c (tkN q).st ++ r))
    have h3 := till_read C hd [41] (.inr rfl) (T c (tkN q).st ++ r)
    have := r_loop_for (t := c [40] :: (T c (beginT (tkN a) 0 true) ++ c [59] :: (T c (beginT (tkN b) 0 false) ++ c [59] :: (T c (beginT (tkN d) 0 false) ++ c [41] :: (T c (tkN q).st ++ r))))) (by rw [o1.is]; decide) h1 (by rw [oe.is, show (([59] : Str) == [105, 110]) = false by decide, Bool.and_false]) (by rw [oe.is]; decide) h2 h3 (B.st C r)
    rw [body_25 B.kind, ← e] at this
    exact r_s_for o this
theorem sr_30 {x a b q : Node} (h : x.Kind = 30) (ho : ownP x = true) (hL : x.L = [a, b, q]) (ha : (a.Kind = 22 ∧ VD c a) ∨ (exprK a.Kind = true ∧ RT c a)) (he : eachN a = true) (Rb : RT c b) (B : BK c q) : SR c x := by
  have o := op_of C (w := [102, 111, 114]) (by decide)
  have o1 := op_of C (w := [40]) (by decide)
  have o2 := op_of C (w := [41]) (by decide)
  have oi := op_of C (w := [105, 110]) (by decide)
  have e := mk_nd h ho (by decide) (by decide)
  rw [hL] at e
  have hst : (tkN x).st = [102, 111, 114] :: [40] :: (beginT (tkN a) 11 true ++ ([105, 110] :: (atT (tkN b) 0 false ++ ([41] :: (tkN q).st)))) := by rw [st_30 h, hL, tk0, tk1, tk2]
  refine ⟨fun r => ?_, fun r hf => ?_⟩
  · rw [hst]; exact begS_op C _ _ (by decide) (by decide)
  · rw [hst]
    simp only [T_cons, T_app, List.cons_append, List.append_assoc]
    have h1 := first_read C (.inr ha) 11 [105, 110] (.inr rfl) (fun h42 => by
      rcases ha with ⟨h, _⟩ | ⟨h, _⟩
      · rw [h] at h42; exact absurd h42 (by decide)
      · have := (expr_42 h).1; rw [h42] at this; exact absurd this (by decide)) (T c (atT (tkN b) 0 false) ++ c [41] :: (T c (tkN q).st ++ r))
    have := r_loop_in (t := c [40] :: (T c (beginT (tkN a) 11 true) ++ c [105, 110] :: (T c (atT (tkN b) 0 false) ++ c [41] :: (T c (tkN q).st ++ r)))) (by rw [o1.is]; decide) h1 he (by rw [oi.is]; decide) (at_end C Rb false [41] (T c (tkN q).st ++ r) (by decide) (by decide) 0) (by rw [o2.is]; decide) (B.st C r)
    rw [body_25 B.kind, ← e] at this
    exact r_s_for o this
theorem sr_31 {x : Node} (h : x.Kind = 31 ∨ x.Kind = 32) (ho : ownP x = true) (hL : x.L = []) : SR c x := by
  have oe := op_of C (w := [59]) (by decide)
  have hn : x.Name = [] ∨ nameP x.Name = true := by
    have := (own_parts ho).1
    rcases h with h | h <;> simpa [rnamedP, h] using this
  have hlp : ∀ k r, k = x.Kind → pLeap k (T c (if (x.Name == ([] : Str)) = true then [] else [x.Name]) ++ c [59] :: r) = some (x, r) := by
    intro k r hk
    have e := mk_ndN (k := k) hk.symm ho (by rcases h with h | h <;> rw [hk, h] <;> decide)
    rw [hL] at e
    rcases hn with n | n
    · rw [n] at e ⊢
      show pLeap k (c [59] :: r) = _
      rw [leap_no (by rw [oe.is]; decide), e]; rfl
    · have hne : (x.Name == ([] : Str)) = false := by
        rw [beq_eq_false_iff_ne]
        intro e
        rw [e] at n
        exact absurd n (by decide)
      obtain ⟨k1, k2⟩ := C.name x.Name n
      rw [hne]
      show pLeap k (c x.Name :: c [59] :: r) = _
      rw [leap_name k1 (C.fresh _) (by rw [oe.is]; decide), k2, ← e]; rfl
  rcases h with h | h
  · have o := op_of C (w := [98, 114, 101, 97, 107]) (by decide)
    have hst : (tkN x).st = [98, 114, 101, 97, 107] :: ((if (x.Name == ([] : Str)) = true then [] else [x.Name]) ++ [[59]]) := by rw [st_31 h, hL]; unfold wordT; rw [h]; simp [tkL]
    refine ⟨fun r => ?_, fun r _ => ?_⟩
    · rw [hst]; exact begS_op C _ _ (by decide) (by decide)
    · rw [hst, T_cons, T_app, List.cons_append, List.append_assoc]
      exact r_s_break o (hlp 31 r h.symm)
  · have o := op_of C (w := [99, 111, 110, 116, 105, 110, 117, 101]) (by decide)
    have hst : (tkN x).st = [99, 111, 110, 116, 105, 110, 117, 101] :: ((if (x.Name == ([] : Str)) = true then [] else [x.Name]) ++ [[59]]) := by rw [st_32 h, hL]; unfold wordT; rw [h]; simp [tkL]
    refine ⟨fun r => ?_, fun r _ => ?_⟩
    · rw [hst]; exact begS_op C _ _ (by decide) (by decide)
    · rw [hst, T_cons, T_app, List.cons_append, List.append_assoc]
      exact r_s_continue o (hlp 32 r h.symm)
theorem sr_33 {x : Node} (h : x.Kind = 33) (ho : ownP x = true) (hL : x.L = [] ∨ ∃ a, x.L = [a] ∧ RT c a) : SR c x := by
  have o := op_of C (w := [114, 101, 116, 117, 114, 110]) (by decide)
  have oe := op_of C (w := [59]) (by decide)
  have e := mk_nd h ho (by decide) (by decide)
  have hn := own_noname ho (by rw [h]; decide)
  rcases hL with hL | ⟨a, hL, R⟩
  · have hst : (tkN x).st = [[114, 101, 116, 117, 114, 110], [59]] := by rw [st_33 h, hL]; unfold wordT; rw [h, hn]; simp [tkL]
    rw [hL] at e
    refine ⟨fun r => ?_, fun r _ => ?_⟩
    · rw [hst]; exact begS_op C _ _ (by decide) (by decide)
    · rw [hst]
      have := r_s_return_no (r := c [59] :: r) o (by rw [oe.is]; decide)
      rw [← e] at this
      exact this
  · have hst : (tkN x).st = [114, 101, 116, 117, 114, 110] :: (atT (tkN a) 0 false ++ [[59]]) := by rw [st_33 h, hL]; unfold wordT; rw [h, hn]; simp [tkL]
    rw [hL] at e
    refine ⟨fun r => ?_, fun r _ => ?_⟩
    · rw [hst]; exact begS_op C _ _ (by decide) (by decide)
    · rw [hst, T_cons, T_app, List.cons_append, List.append_assoc]
      have hb := at_beg C R 0 false (c [59] :: r)
      have := r_s_return (r := T c (atT (tkN a) 0 false) ++ c [59] :: r) o (by unfold pStops; rw [hb.is (by decide), hb.is (by decide), hb.kind0, hb.fresh]; rfl) (at_end C R false [59] r (by decide) (by decide) 0) (by rw [oe.is]; decide)
      rw [← e] at this
      exact this
theorem sr_34 {x a : Node} (h : x.Kind = 34) (ho : ownP x = true) (hL : x.L = [a]) (R : RT c a) : SR c x := by
  have o := op_of C (w := [116, 104, 114, 111, 119]) (by decide)
  have oe := op_of C (w := [59]) (by decide)
  have e := mk_nd h ho (by decide) (by decide)
  have hn := own_noname ho (by rw [h]; decide)
  have hst : (tkN x).st = [116, 104, 114, 111, 119] :: (atT (tkN a) 0 false ++ [[59]]) := by rw [st_34 h, hL]; unfold wordT; rw [h, hn]; simp [tkL]
  rw [hL] at e
  refine ⟨fun r => ?_, fun r _ => ?_⟩
  · rw [hst]; exact begS_op C _ _ (by decide) (by decide)
  · rw [hst, T_cons, T_app, List.cons_append, List.append_assoc]
    have hb := at_beg C R 0 false (c [59] :: r)
    have := r_s_throw (r := T c (atT (tkN a) 0 false) ++ c [59] :: r) o hb.fresh (at_end C R false [59] r (by decide) (by decide) 0) (by rw [oe.is]; decide)
    rw [← e] at this
    exact this
theorem sr_40 {x : Node} (h : x.Kind = 40) (ho : ownP x = true) (hL : x.L = []) : SR c x := by
  have oe := op_of C (w := [59]) (by decide)
  have e := mk_nd h ho (by decide) (by decide)
  have hn := own_noname ho (by rw [h]; decide)
  have hst : (tkN x).st = [[59]] := by rw [st_40 h, hL]; unfold wordT; rw [h, hn]; simp [tkL]
  rw [hL] at e
  refine ⟨fun r => ?_, fun r _ => ?_⟩
  · rw [hst]; exact begS_op C _ _ (by decide) (by decide)
  · rw [hst]
    have := r_s_empty (r := r) oe
    rw [← e] at this
    exact this
theorem sr_38 {x a : Node} (h : x.Kind = 38) (ho : ownP x = true) (hL : x.L = [a]) (S : SR c a) : SR c x := by
  have o := op_of C (w := [58]) (by decide)
  have e := mk_ndN h ho (by decide)
  rw [hL] at e
  have hn : nameP x.Name = true := by simpa [rnamedP, h] using (own_parts ho).1
  obtain ⟨k1, k2⟩ := C.name x.Name hn
  have hst : (tkN x).st = x.Name :: [58] :: (tkN a).st := by rw [st_38 h, hL, tk0]
  refine ⟨fun r => ?_, fun r hf => ?_⟩
  · rw [hst]; exact ⟨c x.Name, T c ([58] :: (tkN a).st) ++ r, rfl, .inl k1⟩
  · rw [hst]
    have := r_s_label (a := c x.Name) (r := c [58] :: (T c (tkN a).st ++ r)) (fun w _ => by show (opK (c x.Name) && _) = false; rw [opK_no (.inl k1)]; rfl) k1 (by rw [o.is]; decide) (S.rd r hf)
    rw [k2, ← e] at this
    exact this
theorem sr_35 {x a b d : Node} (h : x.Kind = 35) (ho : ownP x = true) (hL : x.L = [a, b, d]) (A : BK c a) (hb : BK c b ∨ b = nd 42 []) (hd : BK c d ∨ d = nd 42 []) (hno : ¬ (b.Kind = 42 ∧ d.Kind = 42)) : SR c x := by
  have o := op_of C (w := [116, 114, 121]) (by decide)
  have oc := op_of C (w := [99, 97, 116, 99, 104]) (by decide)
  have of := op_of C (w := [102, 105, 110, 97, 108, 108, 121]) (by decide)
  have o1 := op_of C (w := [40]) (by decide)
  have o2 := op_of C (w := [41]) (by decide)
  have e := mk_ndN h ho (by decide)
  rw [hL] at e
  have hst : (tkN x).st = [116, 114, 121] :: ((tkN a).st ++ ((if (b.Kind == 25) = true then [99, 97, 116, 99, 104] :: [40] :: x.Name :: [41] :: (tkN b).st else []) ++ (if (d.Kind == 25) = true then [102, 105, 110, 97, 108, 108, 121] :: (tkN d).st else []))) := by
    rw [st_35 h, hL, tk0, tk1, tk2, kids_x, kids_x]
  refine ⟨fun r => ?_, fun r hf => ?_⟩
  · rw [hst]; exact begS_op C _ _ (by decide) (by decide)
  · rw [hst, T_cons, List.cons_append, T_app, List.append_assoc, T_app, List.append_assoc]
    have hF : FINAL (T c (if (d.Kind == 25) = true then [102, 105, 110, 97, 108, 108, 121] :: (tkN d).st else []) ++ r) (d, r) := by
      rcases hd with D | D
      · rw [D.kind]
        exact r_final (t := c [102, 105, 110, 97, 108, 108, 121] :: (T c (tkN d).st ++ r)) (by rw [of.is]; decide) (D.bl r)
      · rw [D]
        exact r_final_no hf.fin
    have hC : CATCH (T c (if (b.Kind == 25) = true then [99, 97, 116, 99, 104] :: [40] :: x.Name :: [41] :: (tkN b).st else []) ++ (T c (if (d.Kind == 25) = true then [102, 105, 110, 97, 108, 108, 121] :: (tkN d).st else []) ++ r)) ((x.Name, b), T c (if (d.Kind == 25) = true then [102, 105, 110, 97, 108, 108, 121] :: (tkN d).st else []) ++ r) := by
      have hnm := (own_parts ho).1
      unfold rnamedP at hnm
      rw [h, hL] at hnm
      have hnm : (if (b.Kind == 25) = true then nameP x.Name else x.Name == ([] : Str)) = true := hnm
      rcases hb with B | B
      · rw [B.kind] at hnm ⊢
        obtain ⟨k1, k2⟩ := C.name x.Name hnm
        have := r_catch (t := c [99, 97, 116, 99, 104] :: c [40] :: c x.Name :: c [41] :: (T c (tkN b).st ++ (T c (if (d.Kind == 25) = true then [102, 105, 110, 97, 108, 108, 121] :: (tkN d).st else []) ++ r))) (by rw [oc.is]; decide) (by show tIs [40] (c [40] :: _) = true; rw [o1.is]; decide) rfl k1 (by rw [o2.is]; decide) (B.bl _)
        rw [k2] at this
        exact this
      · rw [B] at hnm ⊢
        have hnm : x.Name = [] := eq_of_beq hnm
        rw [hnm]
        refine r_catch_no ?_
        show tIs [99, 97, 116, 99, 104] (T c (if (d.Kind == 25) = true then [102, 105, 110, 97, 108, 108, 121] :: (tkN d).st else []) ++ r) = false
        rcases hd with D | D
        · rw [D.kind]
          show tIs [99, 97, 116, 99, 104] (c [102, 105, 110, 97, 108, 108, 121] :: _) = false
          rw [of.is]; decide
        · rw [D]
          exact hf.cat
    have := r_s_try o (A.bl _) hC hF (by
      cases e1 : (d.Kind == 42) with
      | false => rfl
      | true =>
        cases e2 : (b.Kind == 42) with
        | false => rfl
        | true => exact absurd ⟨eq_of_beq e2, eq_of_beq e1⟩ hno)
    rw [← e] at this
    exact this
theorem cases_read : ∀ (ls : List Node) (e : Nat), casesP ls e = true → (∀ k ∈ ls, CS c k) → ∀ r, CASES (decide (e = 0)) (T c (stmtsT (tkL ls)) ++ c [125] :: r) (ls, r) := by
  have ob := op_of C (w := [125]) (by decide)
  have od := op_of C (w := [100, 101, 102, 97, 117, 108, 116]) (by decide)
  have oc := op_of C (w := [99, 97, 115, 101]) (by decide)
  have o := op_of C (w := [58]) (by decide)
  have hst : ∀ k a l, CS c k → k.L = a :: l → (tkN k).st = (if (a.Kind != 42) = true then [99, 97, 115, 101] else [100, 101, 102, 97, 117, 108, 116]) :: (beginT (tkN a) 0 false ++ ([58] :: stmtsT (tkL l))) := by
    intro k a l K hL
    have hk : k.Kind = 37 := by rw [K.eq]; rfl
    rw [st_37 hk, hL, tk0, tkT, kids_x]
    simp
  have hend : ∀ (ls : List Node) (r : Toks), (∀ k ∈ ls, CS c k) → (tAny [[99, 97, 115, 101], [100, 101, 102, 97, 117, 108, 116], [125]] (T c (stmtsT (tkL ls)) ++ c [125] :: r) || tKind (T c (stmtsT (tkL ls)) ++ c [125] :: r) == 0) = true ∧ FolS (T c (stmtsT (tkL ls)) ++ c [125] :: r) := by
    intro ls r h
    rcases ls with _ | ⟨k, l⟩
    · show (tAny _ (c [125] :: r) || tKind (c [125] :: r) == 0) = true ∧ FolS (c [125] :: r)
      exact ⟨by rw [ob.any]; rfl, ob.folS _ (by decide)⟩
    · have K := h k List.mem_cons_self
      obtain ⟨a, q, hL, _⟩ := K.ex
      have e : stmtsT (tkL (k :: l)) = (tkN k).st ++ stmtsT (tkL l) := by simp [stmtsT, tkL]
      rw [e, hst k a q K hL]
      cases a.Kind != 42 with
      | true =>
        show (tAny _ (c [99, 97, 115, 101] :: _) || tKind (c [99, 97, 115, 101] :: _) == 0) = true ∧ FolS (c [99, 97, 115, 101] :: _)
        exact ⟨by rw [oc.any]; rfl, oc.folS _ (by decide)⟩
      | false =>
        show (tAny _ (c [100, 101, 102, 97, 117, 108, 116] :: _) || tKind (c [100, 101, 102, 97, 117, 108, 116] :: _) == 0) = true ∧ FolS (c [100, 101, 102, 97, 117, 108, 116] :: _)
        exact ⟨by rw [od.any]; rfl, od.folS _ (by decide)⟩
  intro ls
  induction ls with
  | nil => intro e _ _ r; exact r_cases_nil (t := c [125] :: r) (by rw [ob.is]; decide)
  | cons k l ih =>
    intro e he hk r
    have K := hk k List.mem_cons_self
    have hl := fun q hq => hk q (List.mem_cons_of_mem _ hq)
    obtain ⟨a, q, hL, ha, hs⟩ := K.ex
    simp only [casesP, Bool.and_eq_true] at he
    have e1 : stmtsT (tkL (k :: l)) = (tkN k).st ++ stmtsT (tkL l) := by simp [stmtsT, tkL]
    have ek := K.eq
    rw [hL] at ek
    obtain ⟨n1, n2⟩ := hend l r hl
    have hB := body_read q hs _ n1 n2
    rw [e1, hst k a q K hL]
    simp only [T_cons, T_app, List.cons_append, List.append_assoc]
    rcases ha with ha | ⟨ha, R⟩
    · have hc : caseE k = true := by unfold caseE; rw [hL, ha]; rfl
      rw [hc] at he
      have he := he.2
      simp only [if_true] at he
      have := cases_lt he
      obtain rfl : e = 0 := by omega
      rw [begin_no (by rw [ha]; rfl)]
      have hr := ih 1 he hl r
      rw [ha]
      have := r_cases_default (t := c [100, 101, 102, 97, 117, 108, 116] :: (T c [] ++ c [58] :: (T c (stmtsT (tkL q)) ++ (T c (stmtsT (tkL l)) ++ c [125] :: r)))) (by rw [od.is]; decide) (by rw [od.is]; decide) (by show tIs [58] (c [58] :: _) = true; rw [o.is]; decide) hB hr
      have ek2 : nd 37 (nd 42 [] :: q) = k := by rw [ek, ha]
      rw [ek2] at this
      exact this
    · have hc : caseE k = false := by unfold caseE; rw [hL]; exact (expr_42 ha).1
      rw [hc] at he
      have he := he.2
      simp only [Bool.false_eq_true, if_false] at he
      have hr := ih e he hl r
      rw [begin_expr ha, (expr_42 ha).2.2]
      have := r_cases_case (o := decide (e = 0)) (t := c [99, 97, 115, 101] :: (T c (atT (tkN a) 0 false) ++ c [58] :: (T c (stmtsT (tkL q)) ++ (T c (stmtsT (tkL l)) ++ c [125] :: r)))) (by rw [oc.is]; decide) (by rw [oc.is, show (([99, 97, 115, 101] : Str) == [100, 101, 102, 97, 117, 108, 116]) = false by decide, Bool.and_false]) (by rw [oc.is]; decide) (at_end C R false [58] _ (by decide) (by decide) 0) (by rw [o.is]; decide) hB hr
      rw [show nd 37 (a :: q) = k from ek.symm] at this
      exact this
theorem sr_36 {x a : Node} {l : List Node} (h : x.Kind = 36) (ho : ownP x = true) (hL : x.L = a :: l) (R : RT c a) (hc : casesP l 0 = true) (hk : ∀ k ∈ l, CS c k) : SR c x := by
  have o := op_of C (w := [115, 119, 105, 116, 99, 104]) (by decide)
  have ob := op_of C (w := [123]) (by decide)
  have e := mk_nd h ho (by decide) (by decide)
  rw [hL] at e
  have hst : (tkN x).st = [115, 119, 105, 116, 99, 104] :: (([40] :: (atT (tkN a) 0 false ++ [[41]])) ++ ([123] :: (stmtsT (tkL l) ++ [[125]]))) := by rw [st_36 h, hL, tk0, tkT]; simp [headT]
  refine ⟨fun r => ?_, fun r hf => ?_⟩
  · rw [hst]; exact begS_op C _ _ (by decide) (by decide)
  · have e2 : T c (tkN x).st ++ r = c [115, 119, 105, 116, 99, 104] :: (T c ([40] :: (atT (tkN a) 0 false ++ [[41]])) ++ c [123] :: (T c (stmtsT (tkL l)) ++ c [125] :: r)) := by rw [hst]; simp [T]
    rw [e2]
    have := r_s_switch o (head_read C R (c [123] :: (T c (stmtsT (tkL l)) ++ c [125] :: r))) (by rw [ob.is]; decide) (cases_read C l 0 hc hk r)
    rw [← e] at this
    exact this
end
end Go.D07


/- Chapter 7, plainly: a whole program's tokens are read as that program. -/
namespace Go.D07
open Go Go.Gw Go.Dn
set_option linter.unusedSimpArgs false
set_option maxRecDepth 100000
set_option linter.unusedSectionVars false

section
variable (c : Str → Tok)
/-- whatever a node is, its tokens are read as itself -/
structure RA (x : Node) : Prop where
  ex : oneP x 101 = true → RT c x
  st : oneP x 115 = true → SR c x
  fn : x.Kind = 39 → mayN x = true → FN c x
  cs : x.Kind = 37 → mayN x = true → CS c x
  pr : x.Kind = 9 → mayN x = true → ∃ a, IsProp c x a
  de : x.Kind = 23 → mayN x = true → x = ndN 23 x.Name x.L ∧ nameP x.Name = true ∧ (x.L = [] ∨ ∃ a, x.L = [a] ∧ RT c a)
  vd : x.Kind = 22 → mayN x = true → VD c x
  bk : x.Kind = 25 → mayN x = true → BK c x
  em : x.Kind = 42 → mayN x = true → x = nd 42 []
variable {c}
theorem RA.b {x : Node} (h : RA c x) (ho : oneP x 98 = true) : BK c x := h.bk (eq_of_beq (show (x.Kind == 25) = true from one_is ho)) (one_may ho)
theorem RA.item {x : Node} (h : RA c x) (ho : oneP x 101 = true) : RT c x ∧ x.Kind ≠ 9 := by
  refine ⟨h.ex ho, fun e => ?_⟩
  have := (one_101 ho).1
  rw [e] at this
  exact absurd this (by decide)
theorem RA.f {x : Node} (h : RA c x) (ho : oneP x 102 = true) : x = nd 42 [] ∨ (exprK x.Kind = true ∧ RT c x) := by
  have h1 : (exprK x.Kind || x.Kind == 42) = true := one_is ho
  rw [Bool.or_eq_true] at h1
  rcases h1 with h1 | h1
  · exact .inr ⟨h1, h.ex (by rw [one101, h1, one_may ho]; rfl)⟩
  · exact .inl (h.em (eq_of_beq h1) (one_may ho))
theorem RA.v {x : Node} (h : RA c x) (ho : oneP x 118 = true) : (x.Kind = 42 ∧ x = nd 42 []) ∨ (x.Kind = 22 ∧ VD c x) ∨ (exprK x.Kind = true ∧ RT c x) := by
  rcases begin_or (begin_v ho) with h1 | h1 | h1
  · exact .inl ⟨h1, h.em h1 (one_may ho)⟩
  · exact .inr (.inl ⟨h1, h.vd h1 (one_may ho)⟩)
  · exact .inr (.inr ⟨(one_101 h1).1, h.ex h1⟩)
theorem RA.w {x : Node} (h : RA c x) (ho : oneP x 119 = true) : ((x.Kind = 22 ∧ VD c x) ∨ (exprK x.Kind = true ∧ RT c x)) ∧ eachN x = true := by
  have h1 : (tgtK x.Kind || (x.Kind == 22 && (match x.L with | [d] => d.L.isEmpty | _ => false))) = true := one_is ho
  rw [Bool.or_eq_true] at h1
  rcases h1 with h1 | h1
  · have he : exprK x.Kind = true := by
      simp only [tgtK, Bool.or_eq_true, beq_iff_eq] at h1
      rcases h1 with (h | h) | h <;> rw [h] <;> rfl
    refine ⟨.inr ⟨he, h.ex (by rw [one101, he, one_may ho]; rfl)⟩, ?_⟩
    unfold eachN
    rw [(expr_42 he).2.1]; exact h1
  · rw [Bool.and_eq_true] at h1
    refine ⟨.inl ⟨eq_of_beq h1.1, h.vd (eq_of_beq h1.1) (one_may ho)⟩, ?_⟩
    unfold eachN
    rw [h1.1]; exact h1.2
theorem RA.c99 {x : Node} (h : RA c x) (ho : oneP x 99 = true) : BK c x ∨ x = nd 42 [] := by
  rcases one_99 ho with ⟨_, h1⟩ | h1
  · exact .inl (h.b h1)
  · exact .inr (h.em h1 (one_may ho))
theorem RA.x120 {x : Node} (h : RA c x) (ho : oneP x 120 = true) : SR c x ∨ FN c x := by
  by_cases hk : x.Kind = 39
  · exact .inr (h.fn hk (one_may ho))
  · refine .inl (h.st ?_)
    rw [one_115 ho]
    rw [show (x.Kind == 39) = false by rw [beq_eq_false_iff_ne]; exact hk]; rfl
variable (C : Cls c)
include C
theorem ra_ex (x : Node) (hb : bulkN x ≤ 2097152) (h : ∀ k ∈ x.L, RA c k) (ho : oneP x 101 = true) : RT c x := by
  obtain ⟨he, hm⟩ := one_101 ho
  have a2 := bulkN_eq x
  have hi : ∀ k ∈ x.L, oneP k 101 = true → RT c k ∧ k.Kind ≠ 9 := fun k hk h1 => (h k hk).item h1
  rcases expr_kinds he with e | e | e | e | e | e | e | e | e | e | e | e | e | e | e | e | e | e | e | e
  · rw [may_1 e, Bool.and_eq_true] at hm; exact rt_1 C e hm.1 (match0 hm.2)
  · rw [may_2 e, Bool.and_eq_true] at hm; exact rt_2 C e hm.1 (match0 hm.2) (by omega)
  · rw [may_3 e, Bool.and_eq_true] at hm; exact rt_3 C e hm.1 (match0 hm.2)
  · rw [may_4 e, Bool.and_eq_true] at hm; exact rt_4 C e hm.1 (match0 hm.2)
  · rw [may_5 e, Bool.and_eq_true] at hm; exact rt_5 C e hm.1 (match0 hm.2)
  · rw [may_6 e, Bool.and_eq_true] at hm; exact rt_6 C e hm.1 (match0 hm.2)
  · rw [may_7 e, Bool.and_eq_true] at hm; exact rt_7 C e hm.1 fun k hk => hi k hk (matchM hm.2 k hk)
  · rw [may_8 e, Bool.and_eq_true] at hm
    exact rt_8 C e hm.1 fun k hk => (h k hk).pr (eq_of_beq (show (k.Kind == 9) = true from one_is (matchM hm.2 k hk))) (one_may (matchM hm.2 k hk))
  · rw [may_10 e, Bool.and_eq_true] at hm
    exact rt_10 C e fun r => func_read C e (.inl rfl) hm.1 (fun y hy => (h y hy).x120 (matchM hm.2 y hy)) r
  · rw [may_11 e, Bool.and_eq_true] at hm
    obtain ⟨a, hL, h1⟩ := match1 hm.2
    exact rt_11 C e hm.1 hL ((h a (by rw [hL]; simp)).ex h1)
  · rw [may_12 e, Bool.and_eq_true] at hm
    obtain ⟨a, b, hL, h1, h2⟩ := match2 hm.2
    exact rt_12 C e hm.1 hL ((h a (by rw [hL]; simp)).ex h1) ((h b (by rw [hL]; simp)).ex h2)
  · rw [may_13 e, Bool.and_eq_true] at hm
    obtain ⟨a, l, hL, h1, h2⟩ := match1M hm.2
    exact rt_13 C e hm.1 hL ((h a (by rw [hL]; simp)).ex h1) fun k hk => (h k (by rw [hL]; exact List.mem_cons_of_mem _ hk)).item (h2 k hk)
  · rw [may_14 e, Bool.and_eq_true] at hm
    obtain ⟨a, l, hL, h1, h2⟩ := match1M hm.2
    exact rt_14 C e hm.1 hL ((h a (by rw [hL]; simp)).ex h1) fun k hk => (h k (by rw [hL]; exact List.mem_cons_of_mem _ hk)).item (h2 k hk)
  · rw [may_15 e, Bool.and_eq_true] at hm
    obtain ⟨a, hL, h1⟩ := match1 hm.2
    exact rt_15 C e hm.1 hL ((h a (by rw [hL]; simp)).ex h1)
  · rw [may_16 e, Bool.and_eq_true] at hm
    obtain ⟨a, hL, h1⟩ := match1 hm.2
    exact rt_16 C e hm.1 hL ((h a (by rw [hL]; simp)).ex (tgt_101 h1)) (one_is h1)
  · rw [may_17 e, Bool.and_eq_true] at hm
    obtain ⟨a, b, hL, h1, h2⟩ := match2 hm.2
    exact rt_op C (.inl rfl) e hm.1 hL (by have := lvl17 e; omega) (fun no hi => lvl_op17 e hm.1 no hi) ((h a (by rw [hL]; simp)).ex h1) ((h b (by rw [hL]; simp)).ex h2)
  · rw [may_18 e, Bool.and_eq_true] at hm
    obtain ⟨a, b, hL, h1, h2⟩ := match2 hm.2
    exact rt_op C (.inr rfl) e hm.1 hL (by have := lvl18 e hm.1; omega) (fun no _ => lvl_op18 e hm.1 no) ((h a (by rw [hL]; simp)).ex h1) ((h b (by rw [hL]; simp)).ex h2)
  · rw [may_19 e, Bool.and_eq_true] at hm
    obtain ⟨a, b, d, hL, h1, h2, h3⟩ := match3 hm.2
    exact rt_19 C e hm.1 hL ((h a (by rw [hL]; simp)).ex h1) ((h b (by rw [hL]; simp)).ex h2) ((h d (by rw [hL]; simp)).ex h3)
  · rw [may_20 e, Bool.and_eq_true] at hm
    obtain ⟨a, b, hL, h1, h2⟩ := match2 hm.2
    exact rt_20 C e hm.1 hL ((h a (by rw [hL]; simp)).ex (tgt_101 h1)) ((h b (by rw [hL]; simp)).ex h2) (one_is h1)
  · rw [may_21 e, Bool.and_eq_true] at hm
    obtain ⟨a, b, hL, h1, h2⟩ := match2 hm.2
    exact rt_21 C e hm.1 hL ((h a (by rw [hL]; simp)).ex h1) ((h b (by rw [hL]; simp)).ex h2)
theorem ra_bk (x : Node) (h : ∀ k ∈ x.L, RA c k) (e : x.Kind = 25) (hm : mayN x = true) : BK c x := by
  rw [may_25 e, Bool.and_eq_true] at hm
  exact ⟨e, block_read C e hm.1 fun y hy => (h y hy).st (matchM hm.2 y hy)⟩
theorem ra_vd (x : Node) (h : ∀ k ∈ x.L, RA c k) (e : x.Kind = 22) (hm : mayN x = true) : VD c x := by
  rw [may_22 e, Bool.and_eq_true] at hm
  obtain ⟨d, l, hL, h1, h2⟩ := match1M hm.2
  have hk : ∀ k ∈ x.L, oneP k 100 = true := by
    rw [hL]; intro k hk
    rcases List.mem_cons.1 hk with rfl | hk
    · exact h1
    · exact h2 k hk
  exact ⟨mk_nd e hm.1 (by decide) (by decide), ⟨d, l, hL⟩, fun k hk1 => (h k hk1).de (decl_of (hk k hk1)).1 (one_may (hk k hk1))⟩
theorem ra_st (x : Node) (h : ∀ k ∈ x.L, RA c k) (ho : oneP x 115 = true) : SR c x := by
  obtain ⟨hm, hK⟩ := st_of (st_s ho)
  have h1 : stK x.Kind false = true := one_is ho
  rcases hK with e | e | e | e | e | e | e | e | e | e | e | e | e | e | e | e | e | e
  · exact sr_22 C e (ra_vd C x h e hm)
  · rw [may_24 e, Bool.and_eq_true] at hm
    obtain ⟨a, hL, h1⟩ := match1 hm.2
    exact sr_24 C e hm.1 hL ((h a (by rw [hL]; simp)).ex h1) h1
  · exact sr_25 C (ra_bk C x h e hm)
  · rw [may_26 e, Bool.and_eq_true] at hm
    rcases if_of hm.2 with ⟨a, b, hL, h1, h2⟩ | ⟨a, b, d, hL, h1, h2, h3⟩
    · exact sr_26 C e hm.1 hL ((h a (by rw [hL]; simp)).ex h1) ((h b (by rw [hL]; simp)).b h2)
    · exact sr_26e C e hm.1 hL ((h a (by rw [hL]; simp)).ex h1) ((h b (by rw [hL]; simp)).b h2) ((h d (by rw [hL]; simp)).b h3)
  · rw [may_27 e, Bool.and_eq_true] at hm
    obtain ⟨a, b, hL, h1, h2⟩ := match2 hm.2
    exact sr_27 C e hm.1 hL ((h a (by rw [hL]; simp)).ex h1) ((h b (by rw [hL]; simp)).b h2)
  · rw [may_28 e, Bool.and_eq_true] at hm
    obtain ⟨a, b, hL, h1, h2⟩ := match2 hm.2
    exact sr_28 C e hm.1 hL ((h a (by rw [hL]; simp)).b h1) ((h b (by rw [hL]; simp)).ex h2)
  · rw [may_29 e, Bool.and_eq_true] at hm
    obtain ⟨a, b, d, q, hL, h1, h2, h3, h4⟩ := match4 hm.2
    exact sr_29 C e hm.1 hL ((h a (by rw [hL]; simp)).v h1) ((h b (by rw [hL]; simp)).f h2) ((h d (by rw [hL]; simp)).f h3) ((h q (by rw [hL]; simp)).b h4)
  · rw [may_30 e, Bool.and_eq_true] at hm
    obtain ⟨a, b, q, hL, h1, h2, h3⟩ := match3 hm.2
    obtain ⟨w1, w2⟩ := (h a (by rw [hL]; simp)).w h1
    exact sr_30 C e hm.1 hL w1 w2 ((h b (by rw [hL]; simp)).ex h2) ((h q (by rw [hL]; simp)).b h3)
  · rw [may_31 e, Bool.and_eq_true] at hm; exact sr_31 C (.inl e) hm.1 (match0 hm.2)
  · rw [may_32 e, Bool.and_eq_true] at hm; exact sr_31 C (.inr e) hm.1 (match0 hm.2)
  · rw [may_33 e, Bool.and_eq_true] at hm
    refine sr_33 C e hm.1 ?_
    rcases ret_of hm.2 with hL | ⟨a, hL, h1⟩
    · exact .inl hL
    · exact .inr ⟨a, hL, (h a (by rw [hL]; simp)).ex h1⟩
  · rw [may_34 e, Bool.and_eq_true] at hm
    obtain ⟨a, hL, h1⟩ := match1 hm.2
    exact sr_34 C e hm.1 hL ((h a (by rw [hL]; simp)).ex h1)
  · rw [may_35 e, Bool.and_eq_true] at hm
    obtain ⟨a, b, d, hL, h1, h2, h3, h4⟩ := try_of hm.2
    exact sr_35 C e hm.1 hL ((h a (by rw [hL]; simp)).b h1) ((h b (by rw [hL]; simp)).c99 h2) ((h d (by rw [hL]; simp)).c99 h3) h4
  · rw [may_36 e, Bool.and_eq_true] at hm
    obtain ⟨a, l, hL, h1, h2⟩ := switch_of hm.2
    exact sr_36 C e hm.1 hL ((h a (by rw [hL]; simp)).ex h1) h2 fun k hk => (h k (by rw [hL]; exact List.mem_cons_of_mem _ hk)).cs (eq_of_beq (show (k.Kind == 37) = true from one_is (cases_of h2 k hk))) (one_may (cases_of h2 k hk))
  · rw [e] at h1; exact absurd h1 (by decide)
  · rw [may_38 e, Bool.and_eq_true] at hm
    obtain ⟨a, hL, h1⟩ := match1 hm.2
    exact sr_38 C e hm.1 hL ((h a (by rw [hL]; simp)).st h1)
  · rw [e] at h1; exact absurd h1 (by decide)
  · rw [may_40 e, Bool.and_eq_true] at hm; exact sr_40 C e hm.1 (match0 hm.2)
theorem ra_step (x : Node) (hb : bulkN x ≤ 2097152) (h : ∀ k ∈ x.L, RA c k) : RA c x := by
  have a2 := bulkN_eq x
  refine ⟨ra_ex C x hb h, ra_st C x h, fun e hm => ?_, fun e hm => ?_, fun e hm => ?_, fun e hm => ?_, ra_vd C x h, ra_bk C x h, fun e hm => ?_⟩
  · rw [may_39 e, Bool.and_eq_true] at hm
    exact ⟨by rw [st_39 e]; rfl, fun r => func_read C e (.inr rfl) hm.1 (fun y hy => (h y hy).x120 (matchM hm.2 y hy)) r⟩
  · rw [may_37 e, Bool.and_eq_true] at hm
    obtain ⟨a, l, hL, h1, h2⟩ := match1M hm.2
    exact ⟨mk_nd e hm.1 (by decide) (by decide), a, l, hL, (h a (by rw [hL]; simp)).f h1, fun k hk => (h k (by rw [hL]; exact List.mem_cons_of_mem _ hk)).st (h2 k hk)⟩
  · rw [may_9 e, Bool.and_eq_true] at hm
    obtain ⟨a, hL, h1⟩ := match1 hm.2
    have := mk_9 e hm.1
    rw [hL] at this
    exact ⟨a, this, own_text hm.1, by omega, (h a (by rw [hL]; simp)).ex h1⟩
  · have hd := decl_of (d := x) (by show (x.Kind == 23 && mayN x) = true; rw [e, hm]; rfl)
    rw [may_23 e, Bool.and_eq_true] at hm
    refine ⟨mk_ndN e hm.1 (by decide), by simpa [rnamedP, e] using (own_parts hm.1).1, ?_⟩
    rcases hd.2 with hL | ⟨a, hL, h1⟩
    · exact .inl hL
    · exact .inr ⟨a, hL, (h a (by rw [hL]; simp)).ex h1⟩
  · rw [may_42 e, Bool.and_eq_true] at hm
    have := mk_nd e hm.1 (by decide) (by decide)
    rw [match0 hm.2] at this
    exact this
mutual
theorem ra_n : ∀ x : Node, bulkN x ≤ 2097152 → RA c x
  | ⟨k, n, m, t, ns, l⟩, hb =>
    have hb2 := bulkN_eq ⟨k, n, m, t, ns, l⟩
    ra_step C _ hb (ra_l l (by simp only at hb2; omega))
theorem ra_l : ∀ (l : List Node), bulkL l ≤ 2097152 → ∀ q ∈ l, RA c q
  | [], _, q, hq => by cases hq
  | x :: r, hb, q, hq => by
    simp only [bulkL] at hb
    have hx := ra_n x (by omega)
    rcases List.mem_cons.1 hq with h | hq
    · exact h ▸ hx
    · exact ra_l r (by omega) q hq
end
def endTok : Tok := ⟨0, [], 0, false⟩
/-- a program's tokens are read as its statements -/
theorem prog_read (x : Node) (hb : bulkN x ≤ 2097152) (e : x.Kind = 41) (hm : mayN x = true) : STMTS true (T c (stmtsT (tkL x.L)) ++ [endTok]) (x.L, [endTok]) := by
  have a2 := bulkN_eq x
  rw [may_41 e, Bool.and_eq_true] at hm
  exact stmts_read C true x.L (fun k hk => ((ra_l C x.L (by omega) k hk).x120 (matchM hm.2 k hk)).imp id fun q => ⟨rfl, q⟩) [endTok] rfl ⟨rfl, rfl, rfl⟩
theorem prog_eq {x : Node} (e : x.Kind = 41) (hm : mayN x = true) : x = progN x.L := by
  rw [may_41 e, Bool.and_eq_true] at hm
  exact mk_nd e hm.1 (by decide) (by decide)
/-- the same tokens: the same program -/
theorem tokens_apart (x y : Node) (hx : bulkN x ≤ 2097152) (hy : bulkN y ≤ 2097152) (kx : x.Kind = 41) (ky : y.Kind = 41) (mx : mayN x = true) (my : mayN y = true) (h : stmtsT (tkL x.L) = stmtsT (tkL y.L)) : x = y := by
  have h1 := prog_read C x hx kx mx
  have h2 := prog_read C y hy ky my
  rw [h] at h1
  have := congrArg (·.1) (h1.uniq h2)
  rw [prog_eq C kx mx, prog_eq C ky my]
  show progN x.L = progN y.L
  rw [show x.L = y.L from this]
end
end Go.D07


/- Chapter 7, plainly: how a token's bytes tell its kind; tokens with blanks between can be told apart. -/
namespace Go.D07
open Go Go.Gw Go.Dn
set_option linter.unusedSimpArgs false
set_option maxRecDepth 100000

/-- a unit read back -/
def hexv (c : UInt8) : Nat := if c.toNat < 58 then c.toNat - 48 else c.toNat - 87
def escv (x : UInt8) : Nat := if x = 34 then 34 else if x = 92 then 92 else if x = 98 then 8 else if x = 116 then 9 else if x = 110 then 10 else if x = 102 then 12 else 13
def dec1 : Str → Option (Nat × Str)
  | [] => none
  | c :: r => if c = 34 then none else if c = 92 then (match r with
      | [] => none
      | x :: r => if x = 117 then (match r with
          | a :: b :: e :: d :: r => some (hexv a * 4096 + hexv b * 256 + hexv e * 16 + hexv d, r)
          | _ => none) else some (escv x, r)) else some (c.toNat, r)
theorem hexv_hexd {k : Nat} (h : k < 16) : hexv (hexd k) = k := by
  have : ∀ k : Fin 16, hexv (hexd k.val) = k.val := by decide
  exact this ⟨k, h⟩
theorem dec1_quote1 (n : Nat) (hn : n < 65536) (r : Str) : dec1 (quote1 n ++ r) = some (n, r) := by
  unfold quote1
  split
  · subst n; rfl
  · split
    · subst n; rfl
    · split
      · subst n; rfl
      · split
        · subst n; rfl
        · split
          · subst n; rfl
          · split
            · subst n; rfl
            · split
              · subst n; rfl
              · split
                · show some (hexv _ * 4096 + hexv _ * 256 + hexv _ * 16 + hexv _, r) = _
                  rw [hexv_hexd (by omega), hexv_hexd (by omega), hexv_hexd (by omega), hexv_hexd (by omega)]
                  congr 2
                  omega
                · rename_i h1 h2 _ _ _ _ _ h8
                  have hn : (UInt8.ofNat n).toNat = n := by rw [UInt8.toNat_ofNat']; omega
                  have e1 : UInt8.ofNat n ≠ 34 := fun e => by have := congrArg UInt8.toNat e; rw [hn] at this; exact h1 this
                  have e2 : UInt8.ofNat n ≠ 92 := fun e => by have := congrArg UInt8.toNat e; rw [hn] at this; exact h2 this
                  show (if UInt8.ofNat n = 34 then none else if UInt8.ofNat n = 92 then _ else some ((UInt8.ofNat n).toNat, r)) = _
                  rw [if_neg e1, if_neg e2, hn]
theorem dec1_end (r : Str) : dec1 (34 :: r) = none := rfl
/-- the units up to the closing sign, and what stands behind it -/
def decL : Nat → Str → List Nat × Str
  | 0, s => ([], s)
  | n + 1, s => match dec1 s with
    | none => ([], s.tail)
    | some (u, r) => (u :: (decL n r).1, (decL n r).2)
theorem decL_quoteL : ∀ (l : List Nat) (n : Nat) (r : Str), (∀ u ∈ l, u < 65536) → l.length < n → decL n (quoteL l ++ 34 :: r) = (l, r)
  | [], n + 1, r, _, _ => by show decL (n + 1) (34 :: r) = _; rw [decL, dec1_end]; rfl
  | u :: l, n + 1, r, h, hn => by
    have e : quoteL (u :: l) = quote1 u ++ quoteL l := by simp [quoteL]
    rw [e, List.append_assoc, decL, dec1_quote1 u (h u List.mem_cons_self)]
    simp only
    rw [decL_quoteL l n r (fun v hv => h v (List.mem_cons_of_mem _ hv)) (by simp only [List.length_cons] at hn; omega)]
theorem quoteL_len (l : List Nat) : l.length ≤ (quoteL l).length := by
  induction l with
  | nil => simp
  | cons u l ih =>
    have e : quoteL (u :: l) = quote1 u ++ quoteL l := by simp [quoteL]
    have : 1 ≤ (quote1 u).length := by
      unfold quote1
      repeat' split
      all_goals simp
    rw [e, List.length_append, List.length_cons]; omega
theorem quote_apart {l m : List Nat} {r q : Str} (hl : ∀ u ∈ l, u < 65536) (hm : ∀ u ∈ m, u < 65536) (h : quoteL l ++ 34 :: r = quoteL m ++ 34 :: q) : l = m ∧ r = q := by
  have h1 := decL_quoteL l (l.length + m.length + 1) r hl (by omega)
  have h2 := decL_quoteL m (l.length + m.length + 1) q hm (by omega)
  rw [h, h2] at h1
  exact ⟨(congrArg (·.1) h1).symm, (congrArg (·.2) h1).symm⟩
def bytesL (l : List Nat) : Str := l.flatMap fun u => [UInt8.ofNat (u / 256), UInt8.ofNat (u % 256)]
theorem bytes_units : ∀ s : Str, s.length % 2 = 0 → bytesL (unitsL s) = s
  | [], _ => rfl
  | [_], h => by simp at h
  | a :: b :: r, h => by
    have ih := bytes_units r (by simp only [List.length_cons] at h; omega)
    have e : bytesL (unitsL (a :: b :: r)) = [UInt8.ofNat ((a.toNat * 256 + b.toNat) / 256), UInt8.ofNat ((a.toNat * 256 + b.toNat) % 256)] ++ bytesL (unitsL r) := by simp [bytesL, unitsL]
    have ha : (a.toNat * 256 + b.toNat) / 256 = a.toNat := by have := b.toNat_lt; omega
    have hb : (a.toNat * 256 + b.toNat) % 256 = b.toNat := by have := b.toNat_lt; omega
    rw [e, ih, ha, hb]; simp
/-- a numeral read back -/
def numV (s : Str) : Nat := s.foldl (fun a c => a * 10 + (c.toNat - 48)) 0
theorem digits_num : ∀ (k u : Nat), u < k → numV (Lib.decDigits u) = u ∧ (∀ c ∈ Lib.decDigits u, isDig c = true) ∧ Lib.decDigits u ≠ []
  | 0, u, h => by omega
  | k + 1, u, h => by
    have hd : ∀ d, d < 10 → (UInt8.ofNat (48 + d)).toNat = 48 + d := fun d hd => by rw [UInt8.toNat_ofNat']; omega
    have hdig : ∀ d, d < 10 → isDig (UInt8.ofNat (48 + d)) = true := fun d h => by unfold isDig; rw [hd d h]; simp; omega
    rw [Lib.decDigits]
    split
    · rename_i hu
      refine ⟨?_, ?_, by simp⟩
      · unfold numV; simp only [List.foldl_cons, List.foldl_nil]; rw [hd u hu]; omega
      · intro c hc
        rw [List.mem_singleton.1 hc]; exact hdig u hu
    · rename_i hu
      obtain ⟨h1, h2, h3⟩ := digits_num k (u / 10) (by omega)
      refine ⟨?_, ?_, by simp⟩
      · unfold numV at h1 ⊢
        rw [List.foldl_append, h1]
        simp only [List.foldl_cons, List.foldl_nil]
        rw [hd _ (by omega)]; omega
      · intro c hc
        rcases List.mem_append.1 hc with hc | hc
        · exact h2 c hc
        · rw [List.mem_singleton.1 hc]; exact hdig _ (by omega)
theorem itoa_digits (n : Int) (h : 0 ≤ n) : Lib.itoa n = Lib.decDigits n.toNat := by unfold Lib.itoa; rw [if_neg (by omega)]
/-- how a token's bytes tell its kind -/
def clsT : Str → Tok
  | [] => ⟨5, [], 0, false⟩
  | a :: r => if a = 34 then ⟨4, bytesL (decL (r.length + 1) r).1, 0, false⟩
    else if isDig a = true then ⟨3, [], ((numV (a :: r) : Nat) : Int), false⟩
    else if isLet a = true then ⟨if wordP (a :: r) = true then 2 else 1, a :: r, 0, false⟩
    else ⟨5, a :: r, 0, false⟩
theorem let_dig (a : UInt8) (h : isLet a = true) : isDig a = false ∧ a ≠ 34 := by
  unfold isLet at h
  unfold isDig
  simp only [decide_eq_true_eq] at h
  refine ⟨by simp; omega, ?_⟩
  rintro rfl
  have e : (34 : UInt8).toNat = 34 := rfl
  omega
theorem dig_34 (a : UInt8) (h : isDig a = true) : a ≠ 34 := by
  unfold isDig at h
  simp only [decide_eq_true_eq] at h
  rintro rfl
  have e : (34 : UInt8).toNat = 34 := rfl
  omega
theorem ident_cons {s : Str} (h : identP s = true) : ∃ a r, s = a :: r ∧ isLet a = true ∧ ∀ c ∈ s, isLD c = true := by
  rcases s with _ | ⟨a, r⟩
  · cases h
  · unfold identP at h
    simp only [Bool.and_eq_true, List.all_eq_true] at h
    exact ⟨a, r, rfl, h.2.1, h.2.2⟩
theorem cls_ident {s : Str} (h : identP s = true) : clsT s = ⟨if wordP s = true then 2 else 1, s, 0, false⟩ := by
  obtain ⟨a, r, rfl, h1, _⟩ := ident_cons h
  obtain ⟨h2, h3⟩ := let_dig a h1
  unfold clsT
  simp only
  rw [if_neg h3, if_neg (by rw [h2]; decide), if_pos h1]
theorem quoteP_ok {s : Str} (he : evenP s = true) (hs : s.length ≤ 100000000) : quoteP s = 34 :: (quoteL (unitsL s) ++ [34]) := by
  have h1 := units_Quote_eq s hs he
  have h2 := quoteP_eq s hs he
  rw [h1] at h2
  simp only [Option.some.injEq, Prod.mk.injEq] at h2
  exact h2.1.symm
theorem cls_ok : Cls clsT where
  op := by
    have : ∀ w ∈ opsA, opK (clsT w) = true ∧ (clsT w).text = w := by decide +kernel
    exact fun w hw => ⟨(this w hw).1, (this w hw).2⟩
  name := fun s h => by
    unfold nameP at h
    rw [Bool.and_eq_true] at h
    rw [cls_ident h.1, show wordP s = false by simpa using h.2]
    exact ⟨rfl, rfl⟩
  ident := fun s h => by
    rw [cls_ident h]
    refine ⟨?_, rfl⟩
    cases wordP s
    · exact .inl rfl
    · exact .inr rfl
  num := fun n h1 h2 => by
    obtain ⟨d1, d2, d3⟩ := digits_num (n.toNat + 1) n.toNat (by omega)
    rw [itoa_digits n h1]
    cases e : Lib.decDigits n.toNat with
    | nil => exact absurd e d3
    | cons a r =>
      rw [e] at d1 d2
      have da := d2 a List.mem_cons_self
      unfold clsT
      simp only
      rw [if_neg (dig_34 a da), if_pos da, d1]
      exact ⟨rfl, by show ((n.toNat : Nat) : Int) = n; omega⟩
  str := fun s he hs => by
    rw [quoteP_ok he hs]
    have h2 : s.length % 2 = 0 := by unfold evenP at he; simpa using he
    have hu : ∀ u ∈ unitsL s, u < 65536 := fun u hu => unitsL_lt s u hu
    have := decL_quoteL (unitsL s) ((quoteL (unitsL s) ++ [34]).length + 1) [] hu (by have := quoteL_len (unitsL s); rw [List.length_append]; omega)
    unfold clsT
    simp only [if_true]
    rw [this]
    exact ⟨trivial, bytes_units s h2⟩
  fresh := fun s => by
    unfold clsT
    split
    · rfl
    · split
      · rfl
      · split
        · rfl
        · split <;> rfl
  opt := fun s => by
    unfold clsT
    split
    · intro _; rfl
    · split
      · intro h; exact Bool.noConfusion (show false = true from h)
      · split
        · intro h; exact Bool.noConfusion (show false = true from h)
        · split
          · intro _; rfl
          · intro _; rfl
/-- a token's shape: a literal, or no blank in it -/
def plainB (w : Str) : Bool := !w.isEmpty && (!w.contains 32 && !(w.head? == some 34))
def TokW (w : Str) : Prop := (∃ l : List Nat, (∀ u ∈ l, u < 65536) ∧ w = 34 :: (quoteL l ++ [34])) ∨ plainB w = true
theorem span_apart : ∀ {w v r q : Str}, (32 : UInt8) ∉ w → (32 : UInt8) ∉ v → (r = [] ∨ ∃ r', r = 32 :: r') → (q = [] ∨ ∃ q', q = 32 :: q') → w ++ r = v ++ q → w = v ∧ r = q
  | [], [], r, q, _, _, _, _, h => ⟨rfl, h⟩
  | [], b :: v, r, q, _, hv, hr, _, h => by
    exfalso
    rcases hr with rfl | ⟨r', rfl⟩
    · cases h
    · simp only [List.nil_append, List.cons_append, List.cons.injEq] at h
      exact hv (by rw [← h.1]; exact List.mem_cons_self)
  | a :: w, [], r, q, hw, _, _, hq, h => by
    exfalso
    rcases hq with rfl | ⟨r', rfl⟩
    · cases h
    · simp only [List.nil_append, List.cons_append, List.cons.injEq] at h
      exact hw (by rw [h.1]; exact List.mem_cons_self)
  | a :: w, b :: v, r, q, hw, hv, hr, hq, h => by
    simp only [List.cons_append, List.cons.injEq] at h
    obtain ⟨h1, h2⟩ := span_apart (fun e => hw (List.mem_cons_of_mem _ e)) (fun e => hv (List.mem_cons_of_mem _ e)) hr hq h.2
    exact ⟨by rw [h.1, h1], h2⟩
theorem tok_apart {w v r q : Str} (hw : TokW w) (hv : TokW v) (hr : r = [] ∨ ∃ r', r = 32 :: r') (hq : q = [] ∨ ∃ q', q = 32 :: q') (h : w ++ r = v ++ q) : w = v ∧ r = q := by
  have hp : ∀ {w : Str}, plainB w = true → ∃ a t, w = a :: t ∧ a ≠ 34 ∧ (32 : UInt8) ∉ w := by
    intro w h
    unfold plainB at h
    rcases w with _ | ⟨a, t⟩
    · cases h
    · simp only [Bool.and_eq_true, Bool.not_eq_true', List.head?_cons] at h
      exact ⟨a, t, rfl, fun e => by rw [e] at h; exact absurd h.2.2 (by decide), by have := h.2.1; simpa using this⟩
  rcases hw with ⟨l, hl, rfl⟩ | hw
  · rcases hv with ⟨m, hm, rfl⟩ | hv
    · simp only [List.cons_append, List.append_assoc, List.cons.injEq, true_and, List.nil_append] at h
      obtain ⟨h1, h2⟩ := quote_apart hl hm h
      exact ⟨by rw [h1], h2⟩
    · obtain ⟨a, t, rfl, ha, _⟩ := hp hv
      simp only [List.cons_append, List.cons.injEq] at h
      exact absurd h.1.symm ha
  · obtain ⟨a, t, rfl, ha, hn⟩ := hp hw
    rcases hv with ⟨m, hm, rfl⟩ | hv
    · simp only [List.cons_append, List.cons.injEq] at h
      exact absurd h.1 ha
    · obtain ⟨b, s, rfl, _, hn2⟩ := hp hv
      exact span_apart hn hn2 hr hq h
theorem join_parts (w : Str) (l : List Str) : ∃ r, Lib.join (w :: l) [32] = w ++ r ∧ (l = [] ∧ r = [] ∨ l ≠ [] ∧ r = 32 :: Lib.join l [32]) := by
  rcases l with _ | ⟨v, l⟩
  · exact ⟨[], by rw [Lib.join_one]; simp, .inl ⟨rfl, rfl⟩⟩
  · exact ⟨32 :: Lib.join (v :: l) [32], by rw [join_cons2]; rfl, .inr ⟨by simp, rfl⟩⟩
theorem tok_ne {w : Str} (h : TokW w) : w ≠ [] := by
  rcases h with ⟨l, _, rfl⟩ | h
  · simp
  · rintro rfl; cases h
theorem join_apart : ∀ (a b : List Str), (∀ w ∈ a, TokW w) → (∀ w ∈ b, TokW w) → Lib.join a [32] = Lib.join b [32] → a = b
  | [], [], _, _, _ => rfl
  | [], v :: b, _, hb, h => by
    exfalso
    exact join_solid (List.mem_cons_self (a := v) (l := b)) (tok_ne (hb v List.mem_cons_self)) (by rw [← h]; rfl)
  | w :: a, [], ha, _, h => by
    exfalso
    exact join_solid (List.mem_cons_self (a := w) (l := a)) (tok_ne (ha w List.mem_cons_self)) (by rw [h]; rfl)
  | w :: a, v :: b, ha, hb, h => by
    obtain ⟨r, e1, h1⟩ := join_parts w a
    obtain ⟨q, e2, h2⟩ := join_parts v b
    rw [e1, e2] at h
    obtain ⟨rfl, e⟩ := tok_apart (ha w List.mem_cons_self) (hb v List.mem_cons_self) (by rcases h1 with h | h; exact .inl h.2; exact .inr ⟨_, h.2⟩) (by rcases h2 with h | h; exact .inl h.2; exact .inr ⟨_, h.2⟩) h
    rcases h1 with ⟨rfl, r1⟩ | ⟨n1, r1⟩
    · rcases h2 with ⟨rfl, _⟩ | ⟨n2, r2⟩
      · rfl
      · rw [r1, r2] at e; cases e
    · rcases h2 with ⟨rfl, r2⟩ | ⟨n2, r2⟩
      · rw [r1, r2] at e; cases e
      · rw [r1, r2] at e
        simp only [List.cons.injEq, true_and] at e
        rw [join_apart a b (fun w hw => ha w (List.mem_cons_of_mem _ hw)) (fun w hw => hb w (List.mem_cons_of_mem _ hw)) e]
end Go.D07


/- Chapter 7, plainly: all that is written are tokens; TreeApart. -/
namespace Go.D07
open Go Go.Gw Go.Dn
set_option linter.unusedSimpArgs false
set_option maxRecDepth 100000

def AllT (l : List Str) : Prop := ∀ w ∈ l, TokW w
theorem all_nil : AllT [] := fun _ h => by cases h
theorem all_cons {w : Str} {l : List Str} (h : TokW w) (hl : AllT l) : AllT (w :: l) := fun v hv => by
  rcases List.mem_cons.1 hv with rfl | hv
  · exact h
  · exact hl v hv
theorem all_app {a b : List Str} (ha : AllT a) (hb : AllT b) : AllT (a ++ b) := fun v hv => by
  rcases List.mem_append.1 hv with hv | hv
  · exact ha v hv
  · exact hb v hv
theorem all_plain {w : Str} {l : List Str} (h : plainB w = true) (hl : AllT l) : AllT (w :: l) := all_cons (.inr h) hl
theorem tok_ops {w : Str} {l : List Str} (h : w ∈ l) (hl : ∀ w ∈ l, plainB w = true) : TokW w := .inr (hl w h)
theorem tok_ident {w : Str} (h : identP w = true) : TokW w := by
  obtain ⟨a, r, e, h1, h2⟩ := ident_cons h
  refine .inr ?_
  have hn : (32 : UInt8) ∉ w := fun hm => by
    have := h2 32 hm
    exact absurd this (by decide)
  unfold plainB
  subst e
  simp only [List.isEmpty_cons, Bool.not_false, Bool.true_and, List.head?_cons, Bool.and_eq_true, Bool.not_eq_true']
  refine ⟨by simpa using hn, ?_⟩
  rw [beq_eq_false_iff_ne]
  intro e
  exact (let_dig a h1).2 (Option.some.inj e)
theorem tok_name {w : Str} (h : nameP w = true) : TokW w := by
  unfold nameP at h
  rw [Bool.and_eq_true] at h
  exact tok_ident h.1
theorem tok_num {n : Int} (h : 0 ≤ n) : TokW (Lib.itoa n) := by
  obtain ⟨_, d2, d3⟩ := digits_num (n.toNat + 1) n.toNat (by omega)
  rw [itoa_digits n h]
  refine .inr ?_
  have hn : (32 : UInt8) ∉ Lib.decDigits n.toNat := fun hm => absurd (d2 32 hm) (by decide)
  cases e : Lib.decDigits n.toNat with
  | nil => exact absurd e d3
  | cons a r =>
    rw [e] at hn d2
    unfold plainB
    simp only [List.isEmpty_cons, Bool.not_false, Bool.true_and, List.head?_cons, Bool.and_eq_true, Bool.not_eq_true']
    refine ⟨by simpa using hn, ?_⟩
    rw [beq_eq_false_iff_ne]
    intro e
    exact dig_34 a (d2 a List.mem_cons_self) (Option.some.inj e)
theorem tok_quote {s : Str} (he : evenP s = true) (hs : s.length ≤ 100000000) : TokW (quoteP s) :=
  .inl ⟨unitsL s, fun u hu => unitsL_lt s u hu, quoteP_ok he hs⟩
theorem all_at {y : Node} (h : ∀ no, AllT ((tkN y).ex no)) (least : Int) (no : Bool) : AllT (atT (tkN y) least no) := by
  unfold atT
  split
  · exact all_plain (by decide) (all_app (h false) (all_plain (by decide) all_nil))
  · exact h no
theorem all_commas {ls : List Node} {f : Tk → List Str} (h : ∀ k ∈ ls, AllT (f (tkN k))) : AllT (commas f (tkL ls)) := by
  rw [commas_eq]
  rcases ls with _ | ⟨a, r⟩
  · exact all_nil
  · refine all_app (h a List.mem_cons_self) fun w hw => ?_
    obtain ⟨q, hq, hw⟩ := List.mem_flatMap.1 hw
    exact all_plain (by decide) (h q (List.mem_cons_of_mem _ hq)) w hw
theorem all_stmts {ls : List Node} (h : ∀ k ∈ ls, AllT (tkN k).st) : AllT (stmtsT (tkL ls)) := fun w hw => by
  unfold stmtsT at hw
  rw [tkL_map] at hw
  obtain ⟨q, hq, hw⟩ := List.mem_flatMap.1 hw
  obtain ⟨k, hk, rfl⟩ := List.mem_map.1 hq
  exact h k hk w hw
theorem all_names {ns : List Str} (h : ∀ s ∈ ns, nameP s = true) : AllT (namesT ns) := by
  rcases ns with _ | ⟨s, r⟩
  · exact all_nil
  · refine all_cons (tok_name (h s List.mem_cons_self)) fun w hw => ?_
    obtain ⟨q, hq, hw⟩ := List.mem_flatMap.1 hw
    exact all_plain (by decide) (all_cons (tok_name (h q (List.mem_cons_of_mem _ hq))) all_nil) w hw
theorem all_opt {s : Str} (h : s = [] ∨ nameP s = true) : AllT (if (s == ([] : Str)) = true then [] else [s]) := by
  rcases h with h | h
  · rw [h]; exact all_nil
  · split
    · exact all_nil
    · exact all_cons (tok_name h) all_nil
theorem all_func {x : Node} (ho : ownP x = true) (hk : x.Kind = 10 ∨ x.Kind = 39) (h : ∀ k ∈ x.L, AllT (tkN k).st) : AllT (funcT x (tkL x.L)) := by
  have hns : ∀ s ∈ x.Names, nameP s = true := by
    simp only [ownP, Bool.and_eq_true] at ho
    simpa using ho.2.2.2.2
  have hnm : x.Name = [] ∨ nameP x.Name = true := by
    have := (own_parts ho).1
    rcases hk with e | e
    · simpa [rnamedP, e] using this
    · exact .inr (by simpa [rnamedP, e] using this)
  unfold funcT
  exact all_plain (by decide) (all_app (all_opt hnm) (all_plain (by decide) (all_app (all_names hns) (all_plain (by decide) (all_plain (by decide) (all_app (all_stmts h) (all_plain (by decide) all_nil)))))))
/-- all that is written of a node are tokens -/
structure TA (x : Node) : Prop where
  ex : oneP x 101 = true → ∀ no, AllT ((tkN x).ex no)
  st : stOK x = true → AllT (tkN x).st
  it : itemOK x = true → AllT (itemT false (tkN x))
  de : oneP x 100 = true → ∀ no, AllT (declT no (tkN x))
  bg : beginOK x = true → ∀ least no, AllT (beginT (tkN x) least no)
theorem TA.at_ {x : Node} (h : TA x) (ho : oneP x 101 = true) (least : Int) (no : Bool) : AllT (atT (tkN x) least no) := all_at (h.ex ho) least no
theorem ta_ex (x : Node) (hb : bulkN x ≤ 2097152) (h : ∀ k ∈ x.L, TA k) (ho : oneP x 101 = true) (no : Bool) : AllT ((tkN x).ex no) := by
  obtain ⟨he, hm⟩ := one_101 ho
  have a2 := bulkN_eq x
  rcases expr_kinds he with e | e | e | e | e | e | e | e | e | e | e | e | e | e | e | e | e | e | e | e
  · rw [may_1 e, Bool.and_eq_true] at hm
    have hn : 0 ≤ x.Num ∧ x.Num ≤ 9007199254740991 := by simpa [numP, e] using (own_parts hm.1).2
    rw [ex_1 e]; exact all_cons (tok_num hn.1) all_nil
  · rw [may_2 e, Bool.and_eq_true] at hm
    rw [ex_2 e]; exact all_cons (tok_quote (own_text hm.1) (by omega)) all_nil
  · rw [may_3 e, Bool.and_eq_true] at hm
    rw [ex_3 e]; exact all_cons (tok_name (by simpa [rnamedP, e] using (own_parts hm.1).1)) all_nil
  · rw [ex_4 e]; exact all_plain (by decide) all_nil
  · rw [ex_5 e]; exact all_plain (by decide) all_nil
  · rw [ex_6 e]
    cases x.Num == 1
    · exact all_plain (by decide) all_nil
    · exact all_plain (by decide) all_nil
  · rw [may_7 e, Bool.and_eq_true] at hm
    rw [ex_7 e]; exact all_plain (by decide) (all_app (all_commas fun k hk => (h k hk).it (item_e (matchM hm.2 k hk))) (all_plain (by decide) all_nil))
  · rw [may_8 e, Bool.and_eq_true] at hm
    rw [ex_8 e]; exact all_plain (by decide) (all_app (all_commas fun k hk => (h k hk).it (item_p (matchM hm.2 k hk))) (all_plain (by decide) all_nil))
  · rw [may_10 e, Bool.and_eq_true] at hm
    rw [ex_10 e]; exact all_func hm.1 (.inl e) fun k hk => (h k hk).st (st_x (matchM hm.2 k hk))
  · rw [may_11 e, Bool.and_eq_true] at hm
    obtain ⟨a, hL, h1⟩ := match1 hm.2
    rw [ex_11 e, hL, tk0]
    exact all_app ((h a (by rw [hL]; simp)).at_ h1 _ _) (all_plain (by decide) (all_cons (tok_ident (by simpa [rnamedP, e] using (own_parts hm.1).1)) all_nil))
  · rw [may_12 e, Bool.and_eq_true] at hm
    obtain ⟨a, b, hL, h1, h2⟩ := match2 hm.2
    rw [ex_12 e, hL, tk0, tk1]
    exact all_app ((h a (by rw [hL]; simp)).at_ h1 _ _) (all_plain (by decide) (all_app ((h b (by rw [hL]; simp)).at_ h2 _ _) (all_plain (by decide) all_nil)))
  · rw [may_13 e, Bool.and_eq_true] at hm
    obtain ⟨a, l, hL, h1, h2⟩ := match1M hm.2
    rw [ex_13 e, hL, tk0, tkT]
    exact all_app ((h a (by rw [hL]; simp)).at_ h1 _ _) (all_plain (by decide) (all_app (all_commas fun k hk => (h k (by rw [hL]; exact List.mem_cons_of_mem _ hk)).it (item_e (h2 k hk))) (all_plain (by decide) all_nil)))
  · rw [may_14 e, Bool.and_eq_true] at hm
    obtain ⟨a, l, hL, h1, h2⟩ := match1M hm.2
    rw [ex_14 e, hL, tk0, tkT]
    exact all_plain (by decide) (all_app ((h a (by rw [hL]; simp)).at_ h1 _ _) (all_plain (by decide) (all_app (all_commas fun k hk => (h k (by rw [hL]; exact List.mem_cons_of_mem _ hk)).it (item_e (h2 k hk))) (all_plain (by decide) all_nil))))
  · rw [may_15 e, Bool.and_eq_true] at hm
    obtain ⟨a, hL, h1⟩ := match1 hm.2
    have hn : x.Name ∈ ops15 := by simpa [rnamedP, e] using (own_parts hm.1).1
    rw [ex_15 e, hL, tk0]
    exact all_cons (tok_ops hn (by decide)) ((h a (by rw [hL]; simp)).at_ h1 _ _)
  · rw [may_16 e, Bool.and_eq_true] at hm
    obtain ⟨a, hL, h1⟩ := match1 hm.2
    have hn : x.Name ∈ ops16 := by simpa [rnamedP, e] using (own_parts hm.1).1
    have ha := (h a (by rw [hL]; simp)).at_ (tgt_101 h1) 11 no
    rw [ex_16 e, hL, tk0]
    split
    · exact all_cons (tok_ops hn (by decide)) ha
    · exact all_app ha (all_cons (tok_ops hn (by decide)) all_nil)
  · rw [may_17 e, Bool.and_eq_true] at hm
    obtain ⟨a, b, hL, h1, h2⟩ := match2 hm.2
    have hn : x.Name ∈ ops17 := by simpa [rnamedP, e] using (own_parts hm.1).1
    rw [ex_17 e, hL, tk0, tk1]
    exact all_app ((h a (by rw [hL]; simp)).at_ h1 _ _) (all_cons (tok_ops hn (by decide)) ((h b (by rw [hL]; simp)).at_ h2 _ _))
  · rw [may_18 e, Bool.and_eq_true] at hm
    obtain ⟨a, b, hL, h1, h2⟩ := match2 hm.2
    have hn : x.Name ∈ ops18 := by simpa [rnamedP, e] using (own_parts hm.1).1
    rw [ex_18 e, hL, tk0, tk1]
    exact all_app ((h a (by rw [hL]; simp)).at_ h1 _ _) (all_cons (tok_ops hn (by decide)) ((h b (by rw [hL]; simp)).at_ h2 _ _))
  · rw [may_19 e, Bool.and_eq_true] at hm
    obtain ⟨a, b, d, hL, h1, h2, h3⟩ := match3 hm.2
    rw [ex_19 e, hL, tk0, tk1, tk2]
    exact all_app ((h a (by rw [hL]; simp)).at_ h1 _ _) (all_plain (by decide) (all_app ((h b (by rw [hL]; simp)).at_ h2 _ _) (all_plain (by decide) ((h d (by rw [hL]; simp)).at_ h3 _ _))))
  · rw [may_20 e, Bool.and_eq_true] at hm
    obtain ⟨a, b, hL, h1, h2⟩ := match2 hm.2
    have hn : x.Name ∈ ops20 := by simpa [rnamedP, e] using (own_parts hm.1).1
    rw [ex_20 e, hL, tk0, tk1]
    exact all_app ((h a (by rw [hL]; simp)).at_ (tgt_101 h1) _ _) (all_cons (tok_ops hn (by decide)) ((h b (by rw [hL]; simp)).at_ h2 _ _))
  · rw [may_21 e, Bool.and_eq_true] at hm
    obtain ⟨a, b, hL, h1, h2⟩ := match2 hm.2
    rw [ex_21 e, hL, tk0, tk1]
    exact all_app ((h a (by rw [hL]; simp)).at_ h1 _ _) (all_plain (by decide) ((h b (by rw [hL]; simp)).at_ h2 _ _))
theorem ta_bg (x : Node) (h : ∀ k ∈ x.L, TA k) (hx : ∀ no, oneP x 101 = true → AllT ((tkN x).ex no)) (ho : beginOK x = true) (least : Int) (no : Bool) : AllT (beginT (tkN x) least no) := by
  rcases begin_or ho with e | e | e
  · rw [begin_no e]; exact all_nil
  · rw [begin_var e]
    have hm := one_may (c := 118) ho
    rw [may_22 e, Bool.and_eq_true] at hm
    obtain ⟨d, l, hL, h1, h2⟩ := match1M hm.2
    have hk : ∀ k ∈ x.L, oneP k 100 = true := by
      rw [hL]; intro k hk
      rcases List.mem_cons.1 hk with rfl | hk
      · exact h1
      · exact h2 k hk
    exact all_plain (by decide) (all_commas fun k hk1 => (h k hk1).de (hk k hk1) no)
  · rw [begin_expr (one_101 e).1]
    exact all_at (fun no => hx no e) least no
theorem all_head {w : Str} {k : Node} (hw : plainB w = true) (h : TA k) (ho : oneP k 101 = true) : AllT (headT w (tkN k)) := by
  unfold headT
  exact all_plain hw (all_plain (by decide) (all_app (h.at_ ho _ _) (all_plain (by decide) all_nil)))
theorem all_bare {l : List Str} (h : AllT l) : AllT (bareT l) := by
  unfold bareT
  split
  · exact all_nil
  · split
    · exact all_plain (by decide) (all_app h (all_plain (by decide) all_nil))
    · exact h
theorem ta_word (x : Node) (hk : x.Kind = 31 ∨ x.Kind = 32 ∨ x.Kind = 33 ∨ x.Kind = 34 ∨ x.Kind = 40) (ho : ownP x = true) : AllT (wordT x) := by
  have hnm : x.Name = [] ∨ nameP x.Name = true := by
    have := (own_parts ho).1
    rcases hk with e | e | e | e | e
    · simpa [rnamedP, e] using this
    · simpa [rnamedP, e] using this
    · exact .inl (own_noname ho (by rw [e]; decide))
    · exact .inl (own_noname ho (by rw [e]; decide))
    · exact .inl (own_noname ho (by rw [e]; decide))
  unfold wordT
  refine all_app ?_ (all_opt hnm)
  rcases hk with e | e | e | e | e <;> rw [e]
  · exact all_plain (by decide) all_nil
  · exact all_plain (by decide) all_nil
  · exact all_plain (by decide) all_nil
  · exact all_plain (by decide) all_nil
  · exact all_nil
theorem all_flat {ls : List Node} (h : ∀ k ∈ ls, TA k) (ho : ∀ k ∈ ls, oneP k 101 = true) : AllT ((tkL ls).flatMap fun k => atT k 0 false) := fun w hw => by
  rw [tkL_map] at hw
  obtain ⟨q, hq, hw⟩ := List.mem_flatMap.1 hw
  obtain ⟨k, hk, rfl⟩ := List.mem_map.1 hq
  exact (h k hk).at_ (ho k hk) 0 false w hw
theorem ta_st (x : Node) (h : ∀ k ∈ x.L, TA k) (ho : stOK x = true) : AllT (tkN x).st := by
  obtain ⟨hm, hK⟩ := st_of ho
  have hend : AllT [[59]] := all_plain (by decide) all_nil
  rcases hK with e | e | e | e | e | e | e | e | e | e | e | e | e | e | e | e | e | e
  · have hbg := ta_bg x h (fun no h101 => by
      have := (one_101 h101).1
      rw [e] at this
      exact absurd this (by decide)) (begin_22 e hm) 0 false
    rw [begin_var e] at hbg
    rw [st_22 e]; exact all_app hbg hend
  · rw [may_24 e, Bool.and_eq_true] at hm
    obtain ⟨a, hL, h1⟩ := match1 hm.2
    rw [st_24 e, hL, tk0]; exact all_app (all_bare ((h a (by rw [hL]; simp)).at_ h1 _ _)) hend
  · rw [may_25 e, Bool.and_eq_true] at hm
    rw [st_25 e]; exact all_plain (by decide) (all_app (all_stmts fun k hk => (h k hk).st (st_s (matchM hm.2 k hk))) (all_plain (by decide) all_nil))
  · rw [may_26 e, Bool.and_eq_true] at hm
    rcases if_of hm.2 with ⟨a, b, hL, h1, h2⟩ | ⟨a, b, d, hL, h1, h2, h3⟩
    · rw [st_26 e, hL, tk0, tk1, tk2n]
      exact all_app (all_head (by decide) (h a (by rw [hL]; simp)) h1) (all_app ((h b (by rw [hL]; simp)).st (st_b h2)) all_nil)
    · rw [st_26 e, hL, tk0, tk1, tk2]
      exact all_app (all_head (by decide) (h a (by rw [hL]; simp)) h1) (all_app ((h b (by rw [hL]; simp)).st (st_b h2)) (all_plain (by decide) ((h d (by rw [hL]; simp)).st (st_b h3))))
  · rw [may_27 e, Bool.and_eq_true] at hm
    obtain ⟨a, b, hL, h1, h2⟩ := match2 hm.2
    rw [st_27 e, hL, tk0, tk1]
    exact all_app (all_head (by decide) (h a (by rw [hL]; simp)) h1) ((h b (by rw [hL]; simp)).st (st_b h2))
  · rw [may_28 e, Bool.and_eq_true] at hm
    obtain ⟨a, b, hL, h1, h2⟩ := match2 hm.2
    rw [st_28 e, hL, tk0, tk1]
    exact all_plain (by decide) (all_app ((h a (by rw [hL]; simp)).st (st_b h1)) (all_app (all_head (by decide) (h b (by rw [hL]; simp)) h2) hend))
  · rw [may_29 e, Bool.and_eq_true] at hm
    obtain ⟨a, b, d, q, hL, h1, h2, h3, h4⟩ := match4 hm.2
    rw [st_29 e, hL, tk0, tk1, tk2, tk3]
    exact all_plain (by decide) (all_plain (by decide) (all_app ((h a (by rw [hL]; simp)).bg (begin_v h1) _ _) (all_plain (by decide) (all_app ((h b (by rw [hL]; simp)).bg (begin_f h2) _ _) (all_plain (by decide) (all_app ((h d (by rw [hL]; simp)).bg (begin_f h3) _ _) (all_plain (by decide) ((h q (by rw [hL]; simp)).st (st_b h4)))))))))
  · rw [may_30 e, Bool.and_eq_true] at hm
    obtain ⟨a, b, q, hL, h1, h2, h3⟩ := match3 hm.2
    rw [st_30 e, hL, tk0, tk1, tk2]
    exact all_plain (by decide) (all_plain (by decide) (all_app ((h a (by rw [hL]; simp)).bg (begin_w h1) _ _) (all_plain (by decide) (all_app ((h b (by rw [hL]; simp)).at_ h2 _ _) (all_plain (by decide) ((h q (by rw [hL]; simp)).st (st_b h3)))))))
  · rw [may_31 e, Bool.and_eq_true] at hm
    rw [st_31 e, match0 hm.2]; exact all_app (ta_word x (by omega) hm.1) (all_app (by simp [tkL]; exact all_nil) hend)
  · rw [may_32 e, Bool.and_eq_true] at hm
    rw [st_32 e, match0 hm.2]; exact all_app (ta_word x (by omega) hm.1) (all_app (by simp [tkL]; exact all_nil) hend)
  · rw [may_33 e, Bool.and_eq_true] at hm
    rw [st_33 e]
    refine all_app (ta_word x (by omega) hm.1) (all_app (all_flat h ?_) hend)
    rcases ret_of hm.2 with hL | ⟨a, hL, h1⟩
    · rw [hL]; simp
    · rw [hL]; simpa using h1
  · rw [may_34 e, Bool.and_eq_true] at hm
    obtain ⟨a, hL, h1⟩ := match1 hm.2
    rw [st_34 e]
    exact all_app (ta_word x (by omega) hm.1) (all_app (all_flat h (by rw [hL]; simpa using h1)) hend)
  · rw [may_35 e, Bool.and_eq_true] at hm
    obtain ⟨a, b, d, hL, h1, h2, h3, h4⟩ := try_of hm.2
    have hnm := (own_parts hm.1).1
    unfold rnamedP at hnm
    rw [e, hL] at hnm
    have hnm : (if (b.Kind == 25) = true then nameP x.Name else x.Name == ([] : Str)) = true := hnm
    rw [st_35 e, hL, tk0, tk1, tk2, kids_x, kids_x]
    refine all_plain (by decide) (all_app ((h a (by rw [hL]; simp)).st (st_b h1)) (all_app ?_ ?_))
    · rcases one_99 h2 with ⟨k, h5⟩ | k
      · rw [k] at hnm ⊢
        exact all_plain (by decide) (all_plain (by decide) (all_cons (tok_name hnm) (all_plain (by decide) ((h b (by rw [hL]; simp)).st (st_b h5)))))
      · rw [k]; exact all_nil
    · rcases one_99 h3 with ⟨k, h5⟩ | k
      · rw [k]
        exact all_plain (by decide) ((h d (by rw [hL]; simp)).st (st_b h5))
      · rw [k]; exact all_nil
  · rw [may_36 e, Bool.and_eq_true] at hm
    obtain ⟨a, l, hL, h1, h2⟩ := switch_of hm.2
    rw [st_36 e, hL, tk0, tkT]
    exact all_app (all_head (by decide) (h a (by rw [hL]; simp)) h1) (all_plain (by decide) (all_app (all_stmts fun k hk => (h k (by rw [hL]; exact List.mem_cons_of_mem _ hk)).st (st_k (cases_of h2 k hk))) (all_plain (by decide) all_nil)))
  · rw [may_37 e, Bool.and_eq_true] at hm
    obtain ⟨a, l, hL, h1, h2⟩ := match1M hm.2
    rw [st_37 e, hL, tk0, tkT]
    refine all_app (all_cons ?_ ((h a (by rw [hL]; simp)).bg (begin_f h1) _ _)) (all_plain (by decide) (all_stmts fun k hk => (h k (by rw [hL]; exact List.mem_cons_of_mem _ hk)).st (st_s (h2 k hk))))
    split
    · exact .inr (by decide)
    · exact .inr (by decide)
  · rw [may_38 e, Bool.and_eq_true] at hm
    obtain ⟨a, hL, h1⟩ := match1 hm.2
    rw [st_38 e, hL, tk0]
    exact all_cons (tok_name (by simpa [rnamedP, e] using (own_parts hm.1).1)) (all_plain (by decide) ((h a (by rw [hL]; simp)).st (st_s h1)))
  · rw [may_39 e, Bool.and_eq_true] at hm
    rw [st_39 e]; exact all_func hm.1 (.inr e) fun k hk => (h k hk).st (st_x (matchM hm.2 k hk))
  · rw [may_40 e, Bool.and_eq_true] at hm
    rw [st_40 e, match0 hm.2]; exact all_app (ta_word x (by omega) hm.1) (all_app (by simp [tkL]; exact all_nil) hend)
theorem ta_step (x : Node) (hb : bulkN x ≤ 2097152) (h : ∀ k ∈ x.L, TA k) : TA x := by
  have a2 := bulkN_eq x
  refine ⟨fun ho no => ta_ex x hb h ho no, ta_st x h, fun ho => ?_, fun ho no => ?_, fun ho least no => ta_bg x h (fun no h1 => ta_ex x hb h h1 no) ho least no⟩
  · unfold itemT
    rw [kids_x, kids_k]
    split
    · rename_i e
      have e := eq_of_beq e
      have hm : mayN x = true := by
        unfold itemOK at ho
        rw [Bool.or_eq_true] at ho
        rcases ho with h | h <;> exact one_may h
      rw [may_9 e, Bool.and_eq_true] at hm
      obtain ⟨a, hL, h1⟩ := match1 hm.2
      rw [hL, tk0]
      exact all_cons (tok_quote (own_text hm.1) (by omega)) (all_plain (by decide) ((h a (by rw [hL]; simp)).at_ h1 _ _))
    · rename_i e
      refine all_at (fun no => ta_ex x hb h ?_ no) _ _
      unfold itemOK at ho
      rw [Bool.or_eq_true] at ho
      rcases ho with h1 | h1
      · exact h1
      · exact absurd (show (x.Kind == 9) = true from one_is h1) e
  · obtain ⟨e, hL⟩ := decl_of ho
    have hm := one_may ho
    rw [may_23 e, Bool.and_eq_true] at hm
    unfold declT
    rw [kids_x, kids_k]
    refine all_cons (tok_name (by simpa [rnamedP, e] using (own_parts hm.1).1)) ?_
    rcases hL with hL | ⟨a, hL, h1⟩
    · rw [hL]; simp [tkL, k0]; exact all_nil
    · rw [hL, tk0]
      exact all_plain (by decide) ((h a (by rw [hL]; simp)).at_ h1 _ _)
mutual
theorem ta_n : ∀ x : Node, bulkN x ≤ 2097152 → TA x
  | ⟨k, n, m, t, ns, l⟩, hb =>
    have hb2 := bulkN_eq ⟨k, n, m, t, ns, l⟩
    ta_step _ hb (ta_l l (by simp only at hb2; omega))
theorem ta_l : ∀ (l : List Node), bulkL l ≤ 2097152 → ∀ q ∈ l, TA q
  | [], _, q, hq => by cases hq
  | x :: r, hb, q, hq => by
    simp only [bulkL] at hb
    have hx := ta_n x (by omega)
    rcases List.mem_cons.1 hq with h | hq
    · exact h ▸ hx
    · exact ta_l r (by omega) q hq
end
mutual
theorem sameN_iff : ∀ a b : Node, sameN a b = true ↔ a = b
  | ⟨k, n, m, t, ns, l⟩, ⟨k', n', m', t', ns', l'⟩ => by
    have := sameL_iff l l'
    simp only [sameN, Bool.and_eq_true, beq_iff_eq, this]
    constructor
    · rintro ⟨⟨⟨⟨⟨rfl, rfl⟩, rfl⟩, rfl⟩, rfl⟩, rfl⟩; rfl
    · intro e
      injection e with e1 e2 e3 e4 e5 e6
      exact ⟨⟨⟨⟨⟨e1, e2⟩, e3⟩, e4⟩, e5⟩, e6⟩
theorem sameL_iff : ∀ a b : List Node, sameL a b = true ↔ a = b
  | [], [] => by simp [sameL]
  | [], y :: r => by simp [sameL]
  | x :: r, [] => by simp [sameL]
  | x :: r, y :: q => by
    have h1 := sameN_iff x y
    have h2 := sameL_iff r q
    simp only [sameL, Bool.and_eq_true, h1, h2, List.cons.injEq]
end
theorem prog_toks {x : Node} (hb : bulkN x ≤ 2097152) (e : x.Kind = 41) (hm : mayN x = true) : ∀ w ∈ stmtsT (tkL x.L), TokW w := by
  have a2 := bulkN_eq x
  exact all_stmts fun k hk => (ta_l x.L (by omega) k hk).st (prog_kids e hm k hk)
theorem law07_TreeApart_true (a b : Node) (oa : okN a) (ob : okN b) (ha : bulkN a ≤ 1048576) (hb : bulkN b ≤ 1048576) : credenzalaw07_TreeApart a b = some (true, ()) := by
  have sa := size_bulk a; have sb := size_bulk b; have na := names_bulk a; have nb := names_bulk b
  have T1 := tree_Text_eq a oa (by omega)
  have T2 := tree_Text_eq b ob (by omega)
  have r3 : credenzaref07_Same a b = some (sameN a b, ()) := rsame_n 1000000000000 a b (by have := deep_size a; omega) (by omega) (by omega) (by omega) (by omega)
  unfold credenzalaw07_TreeApart
  simp only [live_true, Option.bind_some, re25_eq, T1, T2, r3, if_true]
  by_cases e1 : (textP a).2 = 0
  · by_cases e2 : (textP b).2 = 0
    · rw [e1, e2]
      obtain ⟨k1, m1, d1, t1, l1⟩ := text_ok e1
      obtain ⟨k2, m2, d2, t2, l2⟩ := text_ok e2
      have key : ((textP a).1 == (textP b).1) = sameN a b := by
        cases hs : sameN a b with
        | true =>
          have := (sameN_iff a b).1 hs
          rw [this]; simp
        | false =>
          rw [beq_eq_false_iff_ne]
          intro e
          rw [t1, t2] at e
          have := join_apart _ _ (prog_toks (by omega) k1 m1) (prog_toks (by omega) k2 m2) e
          have := tokens_apart cls_ok a b (by omega) (by omega) k1 k2 m1 m2 this
          have := (sameN_iff a b).2 this
          rw [hs] at this; cases this
      rw [key]
      simp
    · have : ((textP b).2 != 0) = true := by simpa using e2
      simp only [this, Bool.or_true, if_true]
  · have : ((textP a).2 != 0) = true := by simpa using e1
    simp only [this, Bool.true_or, if_true]
end Go.D07

