/- The engine, part C: abstract values, abstract memory, and what one operation does to them. Definitions alone. -/
import Derived.Test.YtmedjckknalpbaaEngB
namespace Go.Tk
open Go Go.RowKit

inductive V where
  | any
  | d (f : Bool) (t : T) (x : t.den)
  | c (v : Value)
  | ptr (k g : Nat) (p : List Stp)
  | own (k g : Nat)
  | ept (f : Bool) (t : T) (x : t.den)
  | fnc (g : FuncId) (t : T) (x : t.den)
  | tup (n : Nat) (l : Nat → V)
  | ub (p q : Prop)
  /- a method, bound to what it is of -/
  | bnd (g : FuncId) (t : T) (x : t.den)
  /- a part of an own slice, from lo to hi -/
  | sub (k g lo hi : Nat)
  /- the slice at place n of a nested own slice -/
  | inn (k g h n : Nat)
  /- a pointer into it -/
  | ipt (k g h n : Nat) (p : List Stp)
  /- in an iterator: yield -/
  | yld

inductive L where
  | box (f : Bool) (t : T) (x : t.den)
  | sl (f : Bool) (t : T) (xs : List t.den)
  | fz (f : Bool) (t : T) (xs : List t.den)
  /- a variable that is written to no more -/
  | fb (f : Bool) (t : T) (x : t.den)
  /- an own slice of own slices; hole: one of them is elsewhere just now -/
  | nl (f : Bool) (t : T) (xss : List (List t.den)) (h : Nat) (hole : Option Nat)
  /- what has gone elsewhere -/
  | mv
  /- in an iterator: who ranges over it, behind k elements; that has stopped -/
  | it (A : T) (ys : List A.den) (k : Nat)
  | itx
  /- in a range over a function: behind k elements -/
  | rg (fr : Bool) (A : T) (ys : List A.den) (k : Nat)

def L.mut : L → Bool
  | .fz _ _ _ => false
  | .fb _ _ _ => false
  | .mv => false
  | .rg _ _ _ _ => false
  | _ => true

def T.isSeq : T → Bool
  | .seq _ _ => true
  | _ => false

def itK : Nat := 5000000

structure Con where
  A : T
  R : T
  pre : A.den → Prop
  F : A.den → R.den
  al : Bool := false

/-- What a call does to an own slice that it is handed first: the slice itself changes; ret: it is handed back, too. -/
structure InC where
  a : T
  B : T
  pre : List a.den → B.den → Prop
  F : List a.den → B.den → List a.den
  ret : Bool

/-- A function that may panic, with a datum of R in a value of the type ty: with F's, or, where that is none, it returns. The arguments A2 lie in memory of the caller's own. -/
structure PanC where
  A1 : T
  A2 : T
  R : T
  ty : TypeId
  pre : A1.den → A2.den → Prop
  F : A1.den → A2.den → Option R.den

/-- With what a function may panic. -/
structure PanX where
  R : T
  ty : TypeId
  ok : R.den → Prop

structure Eff where
  pre : Prop
  val : V
  upd : List (Nat × Nat × L)

abbrev Mem := Nat → Option (Nat × L)

structure St where
  env : Nat → V
  loc : Mem

/-- What some functions want besides: slots whose slices stay parts of own slices; types that are uint64; functions that multiply such numbers. -/
structure Xtr where
  subs : List Nat
  frz : List Nat
  U : List Nat
  mul : List Nat
  /- nested own slices; slices that are nil exactly if they are empty -/
  nst : List Nat := []
  nls : List Nat := []
  /- the function is an iterator -/
  itf : Option Bool := none
  /- functions that change an own slice; types that are two numbers -/
  inp : List (Nat × InC) := []
  arrs : List Nat := []
  /- functions that may panic; with what this one may -/
  pcs : List (Nat × PanC) := []
  /- functions that are handed nil first -/
  nilc : List (Nat × Con) := []
  pan : Option PanX := none

def noX : Xtr := { subs := [], frz := [], U := [], mul := [] }

structure Cx where
  Γ : List (Nat × Con)
  Θ : List (Nat × T)
  n : Nat
  X : Xtr

def inN : List Nat → Nat → Bool
  | [], _ => false
  | k :: l, n => match Nat.beq k n with | true => true | false => inN l n

def lk {α : Type _} : List (Nat × α) → Nat → Option α
  | [], _ => none
  | (k, a) :: l, n => match Nat.beq k n with | true => some a | false => lk l n

def lkF : List (Nat × Con) → Nat → Option Con
  | [], _ => none
  | (k, a) :: l, n => match Nat.beq k n with | true => (match a.R.isSeq with | true => none | false => some a) | false => lkF l n

def putEnv (e : Nat → V) (d : Option Nat) (v : V) : Nat → V := match d with
  | some d => fun n => match Nat.beq d n with | true => v | false => e n
  | none => e

def set1 (m : Mem) (k g : Nat) (l : L) : Mem := fun n => match Nat.beq k n with | true => some (g, l) | false => m n

def putLoc (m : Mem) : List (Nat × Nat × L) → Mem
  | [] => m
  | (k, g, l) :: u => putLoc (set1 m k g l) u

def nx (m : Mem) (k : Nat) : Nat := match m k with
  | some (g, _) => g + 1
  | none => 0

def T.app : T → T → T
  | .nil, b => b
  | .cons a c, b => .cons a (c.app b)
  | a, _ => a

def appX : (a b : T) → a.den → b.den → (a.app b).den
  | .nil, _, _, y => y
  | .cons _ c, b, x, y => (x.1, appX c b x.2 y)
  | .int, _, x, _ => x
  | .bool, _, x, _ => x
  | .sl _, _, x, _ => x
  | .osl _, _, x, _ => x
  | .ref _, _, x, _ => x
  | .arr _ _, _, x, _ => x
  | .fn _ _, _, x, _ => x
  | .nsl _, _, x, _ => x
  | .seq _ _, _, x, _ => x

/-- The elements of the own slice k, as they stand. -/
def ownX (m : Mem) (k g : Nat) : Option (Bool × Σ t : T, List t.den) := match m k with
  | some (g', .sl f s xs) => match Nat.beq g g' with | true => some (f, ⟨s, xs⟩) | false => none
  | some (g', .fz f s xs) => match Nat.beq g g' with | true => some (f, ⟨s, xs⟩) | false => none
  | some (g', .box f (.arr n s) xs) => match Nat.beq g g' && Nat.ble n 1000000 with | true => some (f, ⟨s, xs⟩) | false => none
  | some (g', .nl f s xss _ none) => match Nat.beq g g' with | true => some (f, ⟨.sl s, xss⟩) | false => none
  | _ => none

/-- The elements of the slice at a place of a nested own slice. -/
def innX (m : Mem) (k g h n : Nat) : Option (Bool × Σ t : T, List t.den) := match m k with
  | some (g', .nl f s xss h' hole) => match Nat.beq g g' && (Nat.beq h h' && (match hole with | none => true | some n' => !(Nat.beq n n'))) with
    | true => some (f, ⟨s, xss.getD n []⟩)
    | false => none
  | _ => none

/-- An abstract value seen as a datum of a type; the Bool: does it lie in memory of the call's own. -/
def asD (Γ : List (Nat × Con)) (m : Mem) (t : T) (v : V) : Option (Bool × t.den) := match t, v with
  | .int, .d f .int x => some (f, x)
  | .bool, .d f .bool x => some (f, x)
  | .sl a, .own k g => match ownX m k g with
    | some (f, ⟨s, xs⟩) => if h : s.beq a = true then some (f, castT (a := .sl s) (b := .sl a) (pf h) xs) else none
    | none => none
  | .sl a, .inn k g h n => match innX m k g h n with
    | some (f, ⟨s, xs⟩) => if h : s.beq a = true then some (f, castT (a := .sl s) (b := .sl a) (pf h) xs) else none
    | none => none
  | .sl a, .d f (.nsl b) xs => if h : b.beq a = true then some (f, castT (a := .sl b) (b := .sl a) (pf h) xs) else none
  | .sl _, .c (.slice none 0 0) => some (true, [])
  | .seq fr a, .fnc g ct cx => match lk Γ g with
    | some con => if h : ct.beq con.A = true then (if h2 : con.R.beq (.seq fr a) = true then some ((match ct with | .nil => true | _ => false), castT (pf h2) (con.F (castT (pf h) cx))) else none) else none
    | none => none
  | .fn a r, .fnc g ct cx => match lkF Γ g with
    | some con => match con.al with
      | false => if h : (a.app ct).beq con.A = true then (if h2 : con.R.beq r = true then
          some ((match ct with | .nil => true | _ => false), (fun x => con.pre (castT (pf h) (appX a ct x cx)), fun x => castT (pf h2) (con.F (castT (pf h) (appX a ct x cx))))) else none) else none
      | true => none
    | none => none
  | .ref a, .ept f s x => if h : s.beq a = true then some (f, castT (a := s) (b := a) (pf h) x) else none
  | t, .d f s x => if h : s.beq t = true then some (f, castT (pf h) x) else none
  | _, _ => none

/-- The same, to be kept: an own slice is written to no more. -/
def stor (Γ : List (Nat × Con)) (m : Mem) (t : T) (v : V) : Option (Bool × t.den × List (Nat × Nat × L)) := match asD Γ m t v with
  | none => none
  | some (f, x) => match v with
    | .own k _ => match m k with
      | some (g', .sl f s xs) => some (f, x, [(k, g', .fz f s xs)])
      | some (_, .fz _ _ _) => some (f, x, [])
      | some (g', .nl f s xss _ none) => some (f, x, [(k, g', .fz f (.sl s) xss)])
      | _ => none
    | .inn _ _ _ _ => none
    | _ => some (f, x, [])

def eff (pre : Prop) (v : V) : Option Eff := some ⟨pre, v, []⟩

def aMove (cx : Cx) (ty : TypeId) (dst : Option Nat) (m : Mem) (v : V) : Option Eff := match v with
  | .c (.slice none 0 0) => match dst, lk cx.Θ ty with
    | some d, some (.sl t) => some ⟨True, .own d (nx m d), [(d, nx m d, .sl true t [])]⟩
    | _, _ => eff True v
  | .any => eff True .any
  | .d f t x => eff True (.d f t x)
  | .c v => eff True (.c v)
  | .ptr k g p => eff True (.ptr k g p)
  | .own k g => eff True (.own k g)
  | .ept f t x => eff True (.ept f t x)
  | .fnc g t x => eff True (.fnc g t x)
  | .bnd g t x => eff True (.bnd g t x)
  | .tup n l => eff True (.tup n l)
  | .ub p q => eff True (.ub p q)
  | .sub k g lo hi => eff True (.sub k g lo hi)
  | .inn k g h n => eff True (.inn k g h n)
  | .ipt k g h n p => eff True (.ipt k g h n p)
  | .yld => eff True .yld

def aPick (c a b : V) : Option Eff := match c, a, b with
  | .d _ .bool c, .d _ .bool x, .d _ .bool y => eff True (.d true .bool (cond c x y))
  | .d _ .bool c, .any, b => eff (c = false) b
  | .d _ .bool c, a, .any => eff (c = true) a
  | .d _ .bool c, .c (.tuple ⟨[]⟩), b => eff (c = false) b
  | .d _ .bool c, a, .c (.tuple ⟨[]⟩) => eff (c = true) a
  | _, _, _ => none

def aAlloc (cx : Cx) (e : TypeId) (dst : Option Nat) (m : Mem) : Option Eff := match dst, lk cx.Θ e with
  | some d, some t => match t.hasZero with
    | true => match inN cx.X.nls d with
      | true => match t with
        | .sl a => some ⟨True, .ptr d (nx m d) [], [(d, nx m d, .box true (.nsl a) [])]⟩
        | _ => none
      | false => some ⟨True, .ptr d (nx m d) [], [(d, nx m d, .box true t t.dflt)]⟩
    | false => none
  | _, _ => none

def aBox (cx : Cx) (e : TypeId) (dst : Option Nat) (m : Mem) (v : V) : Option Eff := match dst, lk cx.Θ e with
  | some d, some t => match stor cx.Γ m t v with
    | some (f, x, u) => match inN cx.X.frz d with
      | true => some ⟨True, .ept f t x, u⟩
      | false => some ⟨True, .ptr d (nx m d) [], u ++ [(d, nx m d, .box f t x)]⟩
    | none => none
  | _, _ => none

/-- A variable that holds an own slice: a nested own slice of one. -/
def aBoxN (cx : Cx) (e : TypeId) (dst : Option Nat) (m : Mem) (v : V) : Option Eff := match dst, lk cx.Θ e, v with
  | some d, some (.sl b), .c (.slice none 0 0) => some ⟨True, .ptr d (nx m d) [.i 0], [(d, nx m d, .nl true b (List.replicate 1 []) 0 none)]⟩
  | _, _, _ => none

/-- The datum at a place of abstract memory. -/
def mget (m : Mem) (k g : Nat) (p : List Stp) : Option (Bool × Σ t : T, t.den) := match m k with
  | some (g', l) => match Nat.beq g g' with
    | true => match l with
      | .box f s x => match s.get x p with | some r => some (f, r) | none => none
      | .sl f s xs => match p with
        | .i n :: p => match s.get (xs.getD n s.dflt) p with | some r => some (f, r) | none => none
        | _ => none
      | .fb f s x => match p with | [] => some (f, ⟨s, x⟩) | _ => none
      | _ => none
    | false => none
  | none => none

def mput (m : Mem) (k g : Nat) (p : List Stp) (f : Bool) (t : T) (y : t.den) : Option (Nat × L) := match m k with
  | some (g', l) => match Nat.beq g g' with
    | true => match l with
      | .box f' s x => match s.put x p t y with | some x' => some (g', .box (f' && f) s x') | none => none
      | .sl f' s xs => match p with
        | .i n :: p => match s.put (xs.getD n s.dflt) p t y with | some x' => some (g', .sl (f' && f) s (xs.set n x')) | none => none
        | _ => none
      | _ => none
    | false => none
  | none => none

/-- A nested own slice that has a slice at place n. -/
def isNl (m : Mem) (k : Nat) : Bool := match m k with
  | some (_, .nl _ _ _ _ _) => true
  | _ => false

def nlAt (m : Mem) (k g : Nat) (p : List Stp) : Option (Nat × Nat) := match m k with
  | some (g', .nl _ _ _ h hole) => match Nat.beq g g' with
    | true => match p with
      | [.i n] => match hole with
        | none => some (h, n)
        | some n' => match Nat.beq n n' with | true => none | false => some (h, n)
      | _ => none
    | false => none
  | _ => none

def iget (m : Mem) (k g h n : Nat) (p : List Stp) : Option (Bool × Σ t : T, t.den) := match innX m k g h n with
  | some (f, ⟨s, xs⟩) => match p with
    | .i i :: p => match s.get (xs.getD i s.dflt) p with | some r => some (f, r) | none => none
    | _ => none
  | none => none

def iput (m : Mem) (k g h n : Nat) (p : List Stp) (f : Bool) (t : T) (y : t.den) : Option (Nat × L) := match m k with
  | some (g', .nl f' s xss h' hole) => match Nat.beq g g' && (Nat.beq h h' && (match hole with | none => true | some n' => !(Nat.beq n n'))) with
    | true => match p with
      | .i i :: p => match s.put ((xss.getD n []).getD i s.dflt) p t y with | some x' => some (g', .nl (f' && f) s (xss.set n ((xss.getD n []).set i x')) h' hole) | none => none
      | _ => none
    | false => none
  | _ => none

def aLoad (cx : Cx) (t : TypeId) (m : Mem) (a : V) : Option Eff := match lk cx.Θ t with
  | none => none
  | some u => match a with
    | .ptr k g p => match mget m k g p with
      | some (f, ⟨s, y⟩) => if h : s.beq u = true then eff True (.d f u (castT (pf h) y)) else (match s, u, y with
        | .nsl a, .sl b, y => match a.beq b with | true => eff True (.d f (.nsl a) y) | false => none
        | _, _, _ => none)
      | none => match nlAt m k g p with
        | some (h, n) => match innX m k g h n with
          | some (_, ⟨s, _⟩) => match (T.sl s).beq u with | true => eff True (.inn k g h n) | false => none
          | none => none
        | none => none
    | .ept f s y => if h : s.beq u = true then eff True (.d f u (castT (pf h) y)) else none
    | .ipt k g h n p => match iget m k g h n p with
      | some (f, ⟨s, y⟩) => if h : s.beq u = true then eff True (.d f u (castT (pf h) y)) else none
      | none => none
    | _ => none

def holeOK (hole : Option Nat) (n : Nat) : Prop := match hole with
  | none => True
  | some n' => n = n'

/-- An own slice goes to a place of a nested own slice. -/
def aMoveIn (k g : Nat) (p : List Stp) (m : Mem) (v : V) (u : T) : Option Eff := match v, p with
  | .own k2 g2, [.i n] => match m k, m k2 with
    | some (g', .nl f t xss h hole), some (g2', .sl f2 t2 xs) => if hb : t2.beq t = true then (match Nat.beq g g' && (Nat.beq g2 g2' && (!(Nat.beq k k2) && t.beq u)) with
        | true => some ⟨holeOK hole n, .c undef, [(k2, g2' + 1, .mv), (k, g', .nl (f && f2) t (xss.set n (castT (a := .sl t2) (b := .sl t) (pf hb) xs)) (h + 1) none)]⟩
        | false => none) else none
    | _, _ => none
  | _, _ => none

/-- A slice that is nil exactly if it is empty. -/
def aStoreN (k g : Nat) (p : List Stp) (m : Mem) (u : T) (f : Bool) (y : u.den) (us : List (Nat × Nat × L)) : Option Eff := match m k, p with
  | some (g', .box f' (.nsl a) _), [] => match Nat.beq g g' && us.all (fun e => !(Nat.beq e.1 k)) with
    | true => match u, y with
      | .sl b, y => if hb : b.beq a = true then some ⟨y ≠ [], .c undef, us ++ [(k, g', .box (f' && f) (.nsl a) (castT (a := .sl b) (b := .sl a) (pf hb) y))]⟩ else none
      | _, _ => none
    | false => none
  | _, _ => none

def aStore (cx : Cx) (t : TypeId) (m : Mem) (a v : V) : Option Eff := match lk cx.Θ t with
  | none => none
  | some u => match a with
    | .ptr k g p => match isNl m k with
      | true => match u with | .sl a => aMoveIn k g p m v a | _ => none
      | false => match stor cx.Γ m u v with
        | some (f, y, us) => match mput m k g p (f || u.flat) u y with
          | some (g', l) => match us.all (fun e => !(Nat.beq e.1 k)) with
            | true => some ⟨True, .any, us ++ [(k, g', l)]⟩
            | false => none
          | none => aStoreN k g p m u (f || u.flat) y us
        | none => none
    | .ipt k g h n p => match stor cx.Γ m u v with
      | some (f, y, []) => match iput m k g h n p (f || u.flat) u y with
        | some (g', l) => some ⟨True, .any, [(k, g', l)]⟩
        | none => none
      | _ => none
    | _ => none

def aFieldAddr (cx : Cx) (s : TypeId) (i : Nat) (m : Mem) (a : V) : Option Eff := match lk cx.Θ s with
  | none => none
  | some u => match a with
    | .ptr k g p => match mget m k g p with
      | some (_, ⟨s', y⟩) => match s'.beq u with
        | true => match s'.get y [.f i] with
          | some _ => eff True (.ptr k g (p ++ [.f i]))
          | none => none
        | false => none
      | none => none
    | .ept f s' y => match s'.beq u with
      | true => match s'.get y [.f i] with
        | some ⟨r, z⟩ => eff True (.ept f r z)
        | none => none
      | false => none
    | _ => none

def aField (cx : Cx) (s : TypeId) (i : Nat) (a : V) : Option Eff := match lk cx.Θ s with
  | none => none
  | some u => match a with
    | .d f s' y => match s'.beq u with
      | true => match s'.get y [.f i] with
        | some ⟨r, z⟩ => eff True (.d f r z)
        | none => none
      | false => none
    | _ => none

/-- An index within a length. -/
def idx (n k : Int) : Prop := 0 ≤ n ∧ n < k
def mkLen (n k : Int) : Prop := 0 ≤ n ∧ n ≤ 4294967296 ∧ n = k
def negI (n : Int) : Int := -n
def shrI (a n : Int) : Int := a.fdiv (2 ^ n.toNat)
def shlI (a n : Int) : Int := a * 2 ^ n.toNat

def aIndexAddr (cx : Cx) (t : TypeId) (m : Mem) (x i : V) : Option Eff := match i with
  | .d _ .int n => match lk cx.Θ t with
    | some (.sl a) => match x with
      | .d f (.sl b) xs => match b.beq a with
        | true => eff (idx n xs.length) (.ept f b (xs.getD n.toNat b.dflt))
        | false => none
      | .own k g => match m k with
        | some (g', .sl _ b xs) => match Nat.beq g g' && b.beq a with
          | true => eff (idx n xs.length) (.ptr k g [.i n.toNat])
          | false => none
        | some (g', .fz f b xs) => match Nat.beq g g' && b.beq a with
          | true => eff (idx n xs.length) (.ept f b (xs.getD n.toNat b.dflt))
          | false => none
        | some (g', .box _ (.arr l b) _) => match Nat.beq g g' && b.beq a with
          | true => eff (idx n (l : Int)) (.ptr k g [.i n.toNat])
          | false => none
        | some (g', .nl _ b xss _ _) => match Nat.beq g g' && (T.sl b).beq a with
          | true => eff (idx n xss.length) (.ptr k g [.i n.toNat])
          | false => none
        | _ => none
      | .inn k g h j => match innX m k g h j with
        | some (_, ⟨b, xs⟩) => match b.beq a with
          | true => eff (idx n xs.length) (.ipt k g h j [.i n.toNat])
          | false => none
        | none => none
      | _ => none
    | some (.arr l a) => match x with
      | .ptr k g p => match mget m k g p with
        | some (_, ⟨s, _⟩) => match s.beq (.arr l a) with
          | true => eff (idx n (l : Int)) (.ptr k g (p ++ [.i n.toNat]))
          | false => none
        | none => none
      | .ept f (.arr l' b) xs => match Nat.beq l' l && b.beq a with
        | true => eff (idx n (l' : Int)) (.ept f b (xs.getD n.toNat b.dflt))
        | false => none
      | _ => none
    | _ => none
  | _ => none

def aIndex (cx : Cx) (t : TypeId) (x i : V) : Option Eff := match i with
  | .d _ .int n => match lk cx.Θ t, x with
    | some (.arr l a), .d f (.arr l' b) xs => match Nat.beq l' l && b.beq a with
      | true => eff (idx n (l' : Int)) (.d f b (xs.getD n.toNat b.dflt))
      | false => none
    | _, _ => none
  | _ => none

/-- The type of part i of an aggregate, and its step. -/
def T.part : T → Nat → Option T
  | .cons a _, 0 => some a
  | .cons _ b, i + 1 => b.part i
  | .arr n a, i => match Nat.ble (i + 1) n with | true => some a | false => none
  | _, _ => none

def T.step : T → Nat → Stp
  | .arr _ _, i => .i i
  | _, i => .f i

def bld (Γ : List (Nat × Con)) (u : T) : List (Nat × V) → Mem → Bool → u.den → Option (Bool × u.den × List (Nat × Nat × L))
  | [], _, f, x => some (f, x, [])
  | (i, v) :: l, m, f, x => match u.part i with
    | some s => match stor Γ m s v with
      | some (fv, y, us) => match u.put x [u.step i] s y with
        | some x' => match bld Γ u l (putLoc m us) (f && (fv || s.flat)) x' with
          | some (f', x'', us') => some (f', x'', us ++ us')
          | none => none
        | none => none
      | none => none
    | none => none

def aBuild (cx : Cx) (t : TypeId) (m : Mem) (parts : List (Nat × V)) : Option Eff := match lk cx.Θ t with
  | some u => match u.agg && u.hasZero with
    | true => match bld cx.Γ u parts m true u.dflt with
      | some (f, x, us) => some ⟨True, .d f u x, us⟩
      | none => none
    | false => none
  | none => none

def aBuildSlice (cx : Cx) (t : TypeId) (len : Nat) (dst : Option Nat) (m : Mem) (parts : List (Nat × V)) : Option Eff := match dst, lk cx.Θ t with
  | some d, some (.sl a) => match a.hasZero && Nat.ble (len * a.csize) 10000 && Nat.ble len 10000 with
    | true => match bld cx.Γ (.arr len a) parts m true (List.replicate len a.dflt) with
      | some (f, xs, us) => some ⟨True, .own d (nx m d), us ++ [(d, nx m d, .sl f a xs)]⟩
      | none => none
    | false => none
  | _, _ => none

def aMakeSlice (cx : Cx) (t : TypeId) (dst : Option Nat) (m : Mem) (l c : V) : Option Eff := match dst, lk cx.Θ t, l, c with
  | some d, some (.sl a), .d _ .int n, .d _ .int k => match a.hasZero with
    | true => match inN cx.X.nst d with
      | true => match a with
        | .sl b => some ⟨mkLen n k, .own d (nx m d), [(d, nx m d, .nl true b (List.replicate n.toNat []) 0 none)]⟩
        | _ => none
      | false => some ⟨mkLen n k, .own d (nx m d), [(d, nx m d, .sl true a (List.replicate n.toNat a.dflt))]⟩
    | false => none
  | _, _, _, _ => none

def bound (v : Option V) (dflt : Int) : Option Int := match v with
  | none => some dflt
  | some (.d _ .int n) => some n
  | _ => none

def aSlice (cx : Cx) (t : TypeId) (sb : Bool) (m : Mem) (x : V) (lo hi mx : Option V) : Option Eff := match mx.isNone || hi.isSome with
 | false => none
 | true => match lk cx.Θ t with
  | some (.sl a) => match x with
    | .d f (.sl b) xs => match b.beq a, bound lo 0, bound hi xs.length, bound mx xs.length with
      | true, some l, some h, some k => eff (0 ≤ l ∧ l ≤ h ∧ h ≤ k ∧ k ≤ xs.length) (.d f (.sl b) ((xs.take h.toNat).drop l.toNat))
      | _, _, _, _ => none
    | .own k g => match m k with
      | some (g', .sl f b xs) => match Nat.beq g g' && b.beq a, bound lo 0, bound hi xs.length, bound mx xs.length with
        | true, some l, some h, some c => match sb && mx.isNone with
          | true => eff (0 ≤ l ∧ l ≤ h ∧ h ≤ c ∧ c ≤ xs.length) (.sub k g l.toNat h.toNat)
          | false => some ⟨0 ≤ l ∧ l ≤ h ∧ h ≤ c ∧ c ≤ xs.length, .own k (g' + 1), [(k, g' + 1, .sl f b ((xs.take h.toNat).drop l.toNat))]⟩
        | _, _, _, _ => none
      | some (g', .fz f b xs) => match Nat.beq g g' && b.beq a, bound lo 0, bound hi xs.length, bound mx xs.length with
        | true, some l, some h, some c => eff (0 ≤ l ∧ l ≤ h ∧ h ≤ c ∧ c ≤ xs.length) (.d f (.sl b) ((xs.take h.toNat).drop l.toNat))
        | _, _, _, _ => none
      | _ => none
    | _ => none
  | some (.arr l a) => match x, lo, hi, mx with
    | .ept f (.arr l' b) xs, none, none, none => match Nat.beq l' l && b.beq a && Nat.ble l 1000000 with
      | true => eff True (.d f (.sl b) xs)
      | false => none
    | .ptr k g [], none, none, none => match m k with
      | some (g', .box _ (.arr l' b) _) => match Nat.beq g g' && (Nat.beq l' l && b.beq a) with
        | true => eff True (.own k g)
        | false => none
      | _ => none
    | .ptr k g p, none, none, none => match mget m k g p, m k with
      | some (f, ⟨.arr l' b, xs⟩), some (g', .box f2 s x) => match Nat.beq g g' && (Nat.beq l' l && b.beq a && Nat.ble l 1000000) with
        | true => some ⟨True, .d (f && f2) (.sl b) xs, [(k, g', .fb f2 s x)]⟩
        | false => none
      | _, _ => none
    | _, _, _, _ => none
  | _ => none

def aExtract (x : V) (i : Nat) : Option Eff := match x with
  | .tup n l => match Nat.ble (i + 1) n with | true => eff True (l i) | false => none
  | _ => none

/-- '==' of two data of one type. -/
def T.eqB : (t : T) → t.den → t.den → Bool
  | .int, x, y => x == y
  | .bool, x, y => x == y
  | .nil, _, _ => true
  | .cons a b, x, y => a.eqB x.1 y.1 && b.eqB x.2 y.2
  | _, _, _ => false

def T.ht : T → Nat
  | .cons a b => max (a.ht + 1) b.ht
  | _ => 1

def T.hasEq : T → Bool
  | .int => true | .bool => true | .nil => true
  | .cons a b => a.hasEq && b.hasEq
  | _ => false

def aInt (op : BinOp) (x y : Int) : Option Eff := match op with
  | .add => eff (inI (x + y)) (.d true .int (x + y))
  | .sub => eff (inI (x - y)) (.d true .int (x - y))
  | .mul => eff (inI (x * y)) (.d true .int (x * y))
  | .quo => eff (y ≠ 0 ∧ inI (x.tdiv y)) (.d true .int (x.tdiv y))
  | .rem => eff (y ≠ 0 ∧ inI (x.tmod y)) (.d true .int (x.tmod y))
  | .and => eff True (.d true .int (IntKind.i64.wrap (BitVec.ofInt 64 x &&& BitVec.ofInt 64 y).toNat))
  | .or => eff True (.d true .int (IntKind.i64.wrap (BitVec.ofInt 64 x ||| BitVec.ofInt 64 y).toNat))
  | .eql => eff True (.d true .bool (x == y))
  | .neq => eff True (.d true .bool (x != y))
  | .lss => eff True (.d true .bool (decide (x < y)))
  | .leq => eff True (.d true .bool (decide (x ≤ y)))
  | .gtr => eff True (.d true .bool (decide (x > y)))
  | .geq => eff True (.d true .bool (decide (x ≥ y)))
  | .shl => eff (0 ≤ y ∧ y < 64 ∧ inI (x * 2 ^ y.toNat)) (.d true .int (x * 2 ^ y.toNat))
  | .shr => eff (0 ≤ y ∧ y < 64) (.d true .int (x.fdiv (2 ^ y.toNat)))
  | _ => none

def aBin (cx : Cx) (op : BinOp) (ty : TypeId) (x y : V) : Option Eff := match x, y with
  | .d _ .int a, .d _ .int b => aInt op a b
  | .d _ .int a, .c (.int .u64 n) => match op with
    | .shr => eff (0 ≤ n ∧ n < 64) (.d true .int (shrI a n))
    | .shl => eff (0 ≤ n ∧ n < 64 ∧ inI (shlI a n)) (.d true .int (shlI a n))
    | _ => none
  | .d _ (.nsl _) xs, .c (.slice none 0 0) => match op, lk cx.Θ ty with
    | .eql, some (.sl _) => eff True (.d true .bool xs.isEmpty)
    | .neq, some (.sl _) => eff True (.d true .bool (!xs.isEmpty))
    | _, _ => none
  | .d _ (.sl _) xs, .c (.slice none 0 0) => match op, lk cx.Θ ty with
    | .eql, some (.sl _) => eff True (.ub (xs = []) True)
    | .neq, some (.sl _) => eff True (.ub True (xs = []))
    | _, _ => none
  | .c (.int .u64 a), .c (.int .u64 b) => match op with
    | .gtr => eff True (.d true .bool (decide (a > b)))
    | _ => none
  | .d _ .bool a, .d _ .bool b => match op, lk cx.Θ ty with
    | .eql, some .bool => eff True (.d true .bool (a == b))
    | .neq, some .bool => eff True (.d true .bool (!(a == b)))
    | _, _ => none
  | .d _ (.arr 2 .int) a, .d _ (.arr 2 .int) b => match inN cx.X.arrs ty with
    | true => match op with
      | .eql => eff True (.d true .bool (a.getD 0 0 == b.getD 0 0 && a.getD 1 0 == b.getD 1 0))
      | .neq => eff True (.d true .bool (!(a.getD 0 0 == b.getD 0 0 && a.getD 1 0 == b.getD 1 0)))
      | _ => none
    | false => none
  | .d _ (.cons s t) a, .d _ u b => match lk cx.Θ ty with
    | some r => match (T.cons s t).beq r && (T.cons s t).hasEq && Nat.ble (T.cons s t).ht 9000 with
      | true => if h : u.beq (.cons s t) = true then (match op with
          | .eql => eff True (.d true .bool ((T.cons s t).eqB a (castT (pf h) b)))
          | .neq => eff True (.d true .bool (!((T.cons s t).eqB a (castT (pf h) b))))
          | _ => none) else none
      | false => none
    | none => none
  | _, _ => none

def aUn (op : UnOp) (x : V) : Option Eff := match op, x with
  | .not, .d _ .bool b => eff True (.d true .bool (!b))
  | .neg, .d _ .int n => eff (inI (negI n)) (.d true .int (negI n))
  | _, _ => none

def aConvert (cx : Cx) (s d : TypeId) (x : V) : Option Eff := match x with
  | .d _ .int n => match lk cx.Θ s, lk cx.Θ d with
    | some .int, some .int => eff True (.d true .int n)
    | some .int, none => match inN cx.X.U d with
      | true => eff True (.c (.int .u64 (IntKind.u64.wrap n)))
      | false => none
    | _, _ => none
  | .c (.int .u64 n) => match inN cx.X.U s, lk cx.Θ d with
    | true, some .int => eff True (.d true .int (IntKind.i64.wrap n))
    | _, _ => none
  | _ => none

def aNilCheck (m : Mem) (x : V) : Option Eff := match x with
  | .fnc _ _ _ => eff True x
  | .ptr k g _ => match m k with
    | some (g', l) => match Nat.beq g g' && l.mut with | true => eff True x | false => none
    | none => none
  | .ept _ _ _ => eff True x
  | .ipt k g h n _ => match innX m k g h n with
    | some _ => eff True x
    | none => none
  | _ => none

/-- What a closure captures, as one datum. -/
def capD (m : Mem) : List V → Option ((Σ t : T, t.den) × List (Nat × Nat × L))
  | [] => some (⟨.nil, ()⟩, [])
  | v :: l => match (match v with
      | .d _ t x => some ((⟨t, x⟩ : Σ t : T, t.den), ([] : List (Nat × Nat × L)))
      | .ept _ t x => some ((⟨.ref t, x⟩ : Σ t : T, t.den), ([] : List (Nat × Nat × L)))
      | .own k g => match m k with
        | some (g', .sl f s xs) => match Nat.beq g g' with | true => some (⟨.sl s, xs⟩, [(k, g', .fz f s xs)]) | false => none
        | some (g', .fz _ s xs) => match Nat.beq g g' with | true => some (⟨.sl s, xs⟩, []) | false => none
        | _ => none
      | .ptr k g [] => match m k with
        | some (g', .box f s x) => match Nat.beq g g' with | true => some (⟨.ref s, x⟩, [(k, g', .fb f s x)]) | false => none
        | some (g', .fb _ s x) => match Nat.beq g g' with | true => some (⟨.ref s, x⟩, []) | false => none
        | _ => none
      | _ => none) with
    | some (⟨t, x⟩, us) => match capD (putLoc m us) l with
      | some (⟨t', x'⟩, us') => some (⟨.cons t t', (x, x')⟩, us ++ us')
      | none => none
    | none => none

def aMakeFunc (fn : Fn) (m : Mem) (first caps : List V) : Option Eff := match fn, first with
  | .func g, [] => match capD m caps with
    | some (⟨t, x⟩, us) => some ⟨True, .fnc g t x, us⟩
    | none => none
  | .func g, f :: fs => match caps with
    | [] => match capD m (f :: fs) with
      | some (⟨t, x⟩, us) => some ⟨True, .bnd g t x, us⟩
      | none => none
    | _ => none
  | _, _ => none

def aLen (cx : Cx) (tys : List TypeId) (m : Mem) (x : V) : Option Eff := match tys with
  | ty :: _ => match lk cx.Θ ty with
    | some (.sl _) => match x with
      | .d _ (.sl _) xs => eff True (.d true .int (xs.length : Int))
      | .own k g => match ownX m k g with
        | some (_, ⟨_, xs⟩) => eff True (.d true .int (xs.length : Int))
        | none => none
      | .inn k g h n => match innX m k g h n with
        | some (_, ⟨_, xs⟩) => eff True (.d true .int (xs.length : Int))
        | none => none
      | .c (.slice none 0 0) => eff True (.d true .int 0)
      | _ => none
    | some (.arr n _) => match Nat.ble n 1000000 with | true => eff True (.d true .int (n : Int)) | false => none
    | _ => none
  | [] => none

/-- A slice seen as data, of which the elements may be kept. -/
def asDs (Γ : List (Nat × Con)) (m : Mem) (t : T) (v : V) : Option (Bool × t.den) := match v with
  | .own k g => match isNl m k with
    | true => none
    | false => asD Γ m t (.own k g)
  | v => asD Γ m t v

def aAppend (cx : Cx) (tys : List TypeId) (dst : Option Nat) (m : Mem) (x y : V) : Option Eff := match tys with
  | [ty, ty2] => match Nat.beq ty ty2, lk cx.Θ ty with
    | true, some (.sl a) => match a.hasZero, asDs cx.Γ m (.sl a) y with
      | true, some (fy, ys) => match x with
        | .own k g => match m k with
          | some (g', .sl f b xs) => if h : a.beq b = true then (match Nat.beq g g' with
              | true => some ⟨xs.length + ys.length ≤ 4294967296, .own k (g' + 1), [(k, g' + 1, .sl (f && (fy || a.flat)) b (xs ++ castT (a := .sl a) (b := .sl b) (pf h) ys))]⟩
              | false => none) else none
          | _ => none
        | .inn k g h n => match dst, m k with
          | some d, some (g', .nl f b xss h' none) => if hb : a.beq b = true then (match Nat.beq g g' && (Nat.beq h h' && !(Nat.beq k d)) with
              | true => some ⟨(xss.getD n []).length + ys.length ≤ 4294967296, .own d (nx m d), [(k, g', .nl f b xss (h' + 1) (some n)), (d, nx m d, .sl (f && (fy || a.flat)) b (xss.getD n [] ++ castT (a := .sl a) (b := .sl b) (pf hb) ys))]⟩
              | false => none) else none
          | _, _ => none
        | .c (.slice none 0 0) => match dst with
          | some d => some ⟨ys.length ≤ 4294967296, .own d (nx m d), [(d, nx m d, .sl (fy || a.flat) a ys)]⟩
          | none => none
        | _ => none
      | _, _ => none
    | _, _ => none
  | _ => none

/-- A copy from one part of an own slice to another part of it. -/
def aCopyS (a : T) (m : Mem) (x y : V) : Option Eff := match x, y with
  | .sub k g lo hi, .sub k2 g2 lo2 hi2 => match m k with
    | some (g', .sl f b xs) => match Nat.beq k k2 && Nat.beq g g' && Nat.beq g2 g' && b.beq a with
      | true => some ⟨True, .d true .int (min (hi - lo) (hi2 - lo2) : Nat), [(k, g', .sl f b (xs.take lo ++ ((xs.take hi2).drop lo2).take (hi - lo) ++ xs.drop (lo + min (hi - lo) (hi2 - lo2))))]⟩
      | false => none
    | _ => none
  | _, _ => none

def aCopy (cx : Cx) (tys : List TypeId) (m : Mem) (x y : V) : Option Eff := match tys with
  | [ty, ty2] => match lk cx.Θ ty, lk cx.Θ ty2 with
    | some (.sl a), some (.sl a2) => match a2.beq a, asDs cx.Γ m (.sl a) y with
      | true, none => aCopyS a m x y
      | true, some (fy, ys) => match x with
        | .own k g => match m k with
          | some (g', .sl f b xs) => if h : a.beq b = true then (match Nat.beq g g' with
              | true => some ⟨True, .d true .int (min xs.length ys.length : Nat), [(k, g', .sl (f && (fy || a.flat)) b (castT (a := .sl a) (b := .sl b) (pf h) ys |>.take xs.length |>.append (xs.drop ys.length)))]⟩
              | false => none) else none
          | some (g', .box f (.arr l b) xs) => if h : a.beq b = true then (match Nat.beq g g' with
              | true => some ⟨True, .d true .int (min xs.length ys.length : Nat), [(k, g', .box (f && (fy || a.flat)) (.arr l b) (castT (a := .sl a) (b := .sl b) (pf h) ys |>.take xs.length |>.append (xs.drop ys.length)))]⟩
              | false => none) else none
          | _ => none
        | _ => none
      | _, _ => none
    | _, _ => none
  | _ => none

/-- A part of an own slice is cleared. -/
def aClear (cx : Cx) (tys : List TypeId) (m : Mem) (x : V) : Option Eff := match tys with
  | ty :: _ => match lk cx.Θ ty with
    | some (.sl a) => match a.hasZero, x with
      | true, .sub k g lo hi => match m k with
        | some (g', .sl f b xs) => match Nat.beq g g' && b.beq a with
          | true => some ⟨True, .any, [(k, g', .sl f b (xs.take lo ++ List.replicate (hi - lo) b.dflt ++ xs.drop hi))]⟩
          | false => none
        | _ => none
      | _, _ => none
    | _ => none
  | [] => none

def aMinGo (f : Int → Int → Int) : Int → List V → Option V
  | a, [] => some (.d true .int a)
  | a, .d _ .int y :: l => aMinGo f (f a y) l
  | _, _ => none

def aMin (f : Int → Int → Int) : List V → Option V
  | .d _ .int x :: l => aMinGo f x l
  | _ => none

/-- The arguments of a call, as one datum. -/
def gather (Γ : List (Nat × Con)) (m : Mem) : (A : T) → List V → Option A.den
  | .nil, [] => some ()
  | .cons a b, v :: vs => match asD Γ m a v with
    | some (_, x) => match gather Γ m b vs with
      | some y => some (x, y)
      | none => none
    | none => none
  | _, _ => none

def capV : (t : T) → t.den → List V
  | .cons a b, x => .d false a x.1 :: capV b x.2
  | _, _ => []

/-- The results. The first one may be an own slice: it becomes the local id. -/
def compV (f : Bool) : (a : T) → a.den → V
  | .osl _, _ => .any
  | a, x => .d f a x

def restV (f : Bool) : (R : T) → R.den → List V
  | .cons a b, y => compV f a y.1 :: restV f b y.2
  | _, _ => []

def compsV (m : Mem) (f : Bool) : (R : T) → R.den → Option Nat → List V × List (Nat × Nat × L)
  | .cons (.osl s) b, y, some id => (.own id (nx m id) :: restV f b y.2, [(id, nx m id, .sl f s y.1)])
  | R, y, _ => (restV f R y, [])

def tupV : List V → Nat → V
  | [], _ => .any
  | v :: _, 0 => v
  | _ :: l, i + 1 => tupV l i

def packV : List V → V
  | [v] => v
  | vs => .tup vs.length (tupV vs)

def resV (m : Mem) (f : Bool) (R : T) (y : R.den) (dst : Option Nat) : V × List (Nat × Nat × L) := match compsV m f R y dst with
  | (vs, u) => (packV vs, u)

/-- No own slice among the captured. -/
def T.noOwn : T → Bool
  | .cons (.osl _) _ => false
  | .cons _ b => b.noOwn
  | .nil => true
  | _ => false

def isMutL (m : Mem) : V → Bool
  | .own k _ => match m k with | some (_, l) => l.mut | none => true
  | .inn _ _ _ _ => true
  | _ => false

def isMut (m : Mem) : V → Bool
  | .own k _ => match m k with | some (_, l) => l.mut | none => true
  | .ptr _ _ _ => true
  | .fnc _ _ _ => true
  | .tup _ _ => true
  | .inn _ _ _ _ => true
  | .ipt _ _ _ _ _ => true
  | _ => false

/-- A call that changes the own slice k. -/
def aInp (cx : Cx) (m : Mem) (g k g0 : Nat) (rest : List V) : Option Eff := match lk cx.X.inp g with
  | none => none
  | some c => match m k with
    | some (g', .sl f t xs) => if h : t.beq c.a = true then (match Nat.beq g0 g' && !(rest.any (isMutL m)) with
      | true => match gather cx.Γ m c.B rest with
        | some x => match c.ret with
          | true => some ⟨c.pre (castT (a := .sl t) (b := .sl c.a) (pf h) xs) x, .own k (g' + 1), [(k, g' + 1, .sl (f && c.a.flat) c.a (c.F (castT (a := .sl t) (b := .sl c.a) (pf h) xs) x))]⟩
          | false => some ⟨c.pre (castT (a := .sl t) (b := .sl c.a) (pf h) xs) x, .any, [(k, g', .sl (f && c.a.flat) c.a (c.F (castT (a := .sl t) (b := .sl c.a) (pf h) xs) x))]⟩
        | none => none
      | false => none) else none
    | _ => none

def aCall (cx : Cx) (dst : Option Nat) (m : Mem) (f : V) (args : List V) : Option Eff := match f with
  | .fnc g ct x => match ct.noOwn with
    | false => none
    | true => match lkF cx.Γ g with
      | some con => match gather cx.Γ m con.A (args ++ capV ct x) with
        | some a => match con.al && args.any (isMut m) with
          | true => none
          | false => match resV m (!con.al) con.R (con.F a) dst with
            | (v, u) => some ⟨con.pre a, v, u⟩
        | none => none
      | none => match ct, args with
        | .nil, [.c (.int .u64 a), .c (.int .u64 b)] => match inN cx.X.mul g with
          | true => eff (0 ≤ a ∧ a < 18446744073709551616 ∧ 0 ≤ b ∧ b < 18446744073709551616) (.tup 2 (tupV [.c (.int .u64 (a * b / 18446744073709551616)), .c (.int .u64 (a * b % 18446744073709551616))]))
          | false => none
        | .nil, .own k g0 :: rest => aInp cx m g k g0 rest
        | .nil, .c (.slice none 0 0) :: rest => match lk cx.X.nilc g with
          | some con => match gather cx.Γ m con.A rest with
            | some a => match resV m true con.R (con.F a) dst with
              | (v, u) => some ⟨con.pre a, v, u⟩
            | none => none
          | none => none
        | _, _ => none
  | .bnd g ct x => match ct.noOwn with
    | false => none
    | true => match lkF cx.Γ g with
      | some con => match con.al with
        | true => none
        | false => match gather cx.Γ m con.A (capV ct x ++ args) with
          | some a => match resV m true con.R (con.F a) dst with
            | (v, u) => some ⟨con.pre a, v, u⟩
          | none => none
      | none => none
  | .d _ (.fn a r) F => match gather cx.Γ m a args with
    | some x => match resV m true r (F.2 x) dst with
      | (v, u) => some ⟨F.1 x, v, u⟩
    | none => none
  | _ => none

def fits (n : Int) : Bool := match n with
  | .ofNat k => Nat.ble k 9223372036854775807
  | .negSucc k => Nat.ble k 9223372036854775807

def constV (v : Value) : V := match v with
  | .int .i64 n => match fits n with | true => .d true .int n | false => .any
  | .bool b => .d true .bool b
  | v => .c v

def St.eval (st : St) : Operand → V
  | .tmp t => st.env t
  | .const v => constV v
  | .func f => .fnc f .nil ()
  | .global _ => .any

def V.deref : V → V
  | .d f (.ref s) y => .ept f s y
  | v => v

def act (cx : Cx) (o : Oper) (ev : Operand → V) (m : Mem) : Option Eff := match o.op with
  | .move x => aMove cx o.type o.dst m (ev x)
  | .assign x => aMove cx o.type o.dst m (ev x)
  | .pick c a b => aPick (ev c) (ev a) (ev b)
  | .alloc e => aAlloc cx e o.dst m
  | .box e x => match (match o.dst with | some d => inN cx.X.nst d | none => false) with | true => aBoxN cx e o.dst m (ev x) | false => aBox cx e o.dst m (ev x)
  | .load t a => aLoad cx t m (ev a).deref
  | .store t a v => match o.dst with | none => aStore cx t m (ev a) (ev v) | some _ => none
  | .fieldAddr s a i => aFieldAddr cx s i m (ev a).deref
  | .field s a i => aField cx s i (ev a)
  | .indexAddr t x i => aIndexAddr cx t m (ev x).deref (ev i)
  | .index t x i => aIndex cx t (ev x) (ev i)
  | .build t ps => aBuild cx t m (ps.toList.map fun p => (p.1, ev p.2))
  | .buildSlice t n ps => aBuildSlice cx t n o.dst m (ps.toList.map fun p => (p.1, ev p.2))
  | .makeSlice t l c => aMakeSlice cx t o.dst m (ev l) (ev c)
  | .slice t x lo hi mx => aSlice cx t (match o.dst with | some d => inN cx.X.subs d | none => false) m (ev x) (lo.map ev) (hi.map ev) (mx.map ev)
  | .extract x i => aExtract (ev x) i
  | .binOp op t x y _ => aBin cx op t (ev x) (ev y)
  | .unOp op _ x => aUn op (ev x)
  | .convert s d x => aConvert cx s d (ev x)
  | .nilCheck x => aNilCheck m (ev x)
  | .makeFunc fn first caps => aMakeFunc fn m (first.toList.map ev) (caps.toList.map ev)
  | .call c => match c.callee with
    | .value f => aCall cx o.dst m (ev f) (c.args.toList.map ev)
    | .builtin b => match b, c.args.toList.map ev with
      | .len, [x] => aLen cx c.argTypes.toList m x
      | .append, [x, y] => aAppend cx c.argTypes.toList o.dst m x y
      | .copy, [x, y] => aCopy cx c.argTypes.toList m x y
      | .clear, [x] => aClear cx c.argTypes.toList m x
      | .min, l => match aMin min l with | some v => eff True v | none => none
      | .max, l => match aMin max l with | some v => eff True v | none => none
      | _, _ => none
    | _ => none
  | _ => none

end Go.Tk
