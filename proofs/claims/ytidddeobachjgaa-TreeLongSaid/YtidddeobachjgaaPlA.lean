/- Patterns as plain data, and what the layers of trees and of checks tell of them: plain Lean, no program in sight. -/
import Init
namespace Go.Proofs.Ytidddeobachjgaa

/-- A term: its kind, N, S, R. -/
structure Tm where
  k : Int
  n : Int
  s : Int
  r : Int
/-- A comparison. -/
structure Cm where
  op : Int
  l : Tm
  r : Tm
/-- A step. -/
structure Sp where
  neg : Bool
  kind : Int
  min : Int
  max : Int
  strict : Bool
  cmps : List Cm

theorem Tm.ext' {a b : Tm} (h : a.k = b.k ∧ a.n = b.n ∧ a.s = b.s ∧ a.r = b.r) : a = b := by
  cases a; cases b; simp only at h; obtain ⟨rfl, rfl, rfl, rfl⟩ := h; rfl
instance : DecidableEq Tm := fun a b =>
  if h : a.k = b.k ∧ a.n = b.n ∧ a.s = b.s ∧ a.r = b.r then .isTrue (Tm.ext' h) else .isFalse (fun e => h (e ▸ ⟨rfl, rfl, rfl, rfl⟩))
theorem Cm.ext' {a b : Cm} (h : a.op = b.op ∧ a.l = b.l ∧ a.r = b.r) : a = b := by
  cases a; cases b; simp only at h; obtain ⟨rfl, rfl, rfl⟩ := h; rfl
instance : DecidableEq Cm := fun a b =>
  if h : a.op = b.op ∧ a.l = b.l ∧ a.r = b.r then .isTrue (Cm.ext' h) else .isFalse (fun e => h (e ▸ ⟨rfl, rfl, rfl⟩))

/-- Same numbers, whatever the comparisons are. -/
def Sp.plain (a b : Sp) : Bool := a.neg == b.neg && decide (a.kind = b.kind) && decide (a.min = b.min) && decide (a.max = b.max) && a.strict == b.strict
def Sp.eqB (a b : Sp) : Bool := a.plain b && decide (a.cmps = b.cmps)
theorem Sp.eqB_iff {a b : Sp} : a.eqB b = true ↔ a = b := by
  cases a; cases b; simp [Sp.eqB, Sp.plain, and_assoc]
instance : DecidableEq Sp := fun a b => if h : a.eqB b = true then .isTrue (Sp.eqB_iff.1 h) else .isFalse (fun e => h (Sp.eqB_iff.2 e))

/-! ### which may be written -/
def numB (n : Int) : Bool := decide (0 ≤ n ∧ n ≤ 1099511627776)
def Tm.two (t : Tm) : Bool := decide (t.k = 5 ∨ t.k = 6)
def Tm.ok (t : Tm) : Bool :=
  decide (-1099511627776 ≤ t.n ∧ t.n ≤ 1099511627776 ∧ t.k < 7 ∧ 0 ≤ t.s ∧ t.s < 26 ∧ 0 ≤ t.r ∧ t.r < 26 ∧ (t.k = 0 → t.s = 0) ∧ (¬(t.k = 5 ∨ t.k = 6) → t.r = 0))
def Cm.ok (c : Cm) : Bool := decide (c.op ≠ 0 ∧ c.op < 7) && c.l.ok && c.r.ok
def Sp.ok (s : Sp) : Bool := numB s.kind && numB s.min && numB s.max && s.cmps.all Cm.ok
def rightB (p : List Sp) (win : Int) : Bool := decide (0 < p.length) && decide (p.length ≤ 26) && numB win && p.all Sp.ok

/-! ### names -/
def Tm.names (t : Tm) : List Int := if t.k = 0 then [] else if t.two = true then [t.s, t.r] else [t.s]
/-- A rising row with one more. -/
def ins (n : Int) : List Int → List Int
  | [] => [n]
  | x :: l => if x = n then x :: l else if n < x then n :: x :: l else x :: ins n l
def Cm.names (c : Cm) : List Int := c.l.names ++ c.r.names
def allNames (cs : List Cm) : List Int := cs.flatMap Cm.names
def asked (cs : List Cm) : List Int := (allNames cs).foldl (fun l n => ins n l) []

/-! ### positive steps, lengths, sizes -/
def posFrom (i : Nat) : List Sp → List Int
  | [] => []
  | s :: l => if s.neg then posFrom (i + 1) l else (i : Int) :: posFrom (i + 1) l
def positive (p : List Sp) : List Int := posFrom 0 p
def within (n : Int) : Int := max 0 (min n 1099511627776)
def leastL (p : List Sp) : Int := (p.map fun s => if s.neg then 0 else within s.min).sum
def mostL (p : List Sp) : Int := (p.map fun s => if s.neg then 0 else within s.max).sum
def sizeF (p : List Sp) : Int := (p.map fun s => 1 + 3 * (s.cmps.length : Int)).sum
def greatB (p : List Sp) : Bool := decide (40 < p.length) || (p.take 41).any fun s => decide (20 < s.cmps.length)
def sameB (p : List Sp) (wp : Int) (q : List Sp) (wq : Int) : Bool := decide (wp = wq) && decide (p = q)

/-! ### which rule is not kept first, and of which step -/
def firstFrom (f : Nat → Sp → Bool) (i : Nat) : List Sp → Int
  | [] => -1
  | s :: l => if f i s then firstFrom f (i + 1) l else i
def whole (b : Bool) : Int := if b then -1 else 0
def stepAt (p : List Sp) (i : Nat) : Sp := p.getD i ⟨true, 0, 0, 0, false, []⟩
def rule1 (p : List Sp) (win : Int) : Bool := decide (p.length ≤ 6 ∧ win ≤ 1073741824)
def rule2 (p : List Sp) : Bool := !(stepAt p 0).neg && !(stepAt p 0).strict
def rule3 (_ : List Sp) (_ : Nat) (s : Sp) : Bool := decide (s.kind < 6)
def rule4 (p : List Sp) (i : Nat) (s : Sp) : Bool :=
  ((!s.neg && (decide (i = 0) || !(stepAt p (i - 1)).neg)) || !s.strict) && (!s.neg || decide (s.min = 1 ∧ s.max = 1))
def rule5 (_ : List Sp) (_ : Nat) (s : Sp) : Bool := s.neg || decide (0 < s.min ∧ s.min ≤ s.max ∧ s.max ≤ 3)
def longF (p : List Sp) : Int := (p.map fun s => if s.neg then 0 else s.max).sum
def rule6 (p : List Sp) : Bool := decide (longF p ≤ 4)
def askOk (p : List Sp) (i : Nat) (n : Int) : Bool := decide (n = i) || (decide (n < i) && !(stepAt p n.toNat).neg && decide ((stepAt p n.toNat).max = 1))
def rule7 (p : List Sp) (i : Nat) (s : Sp) : Bool := decide (s.cmps.length ≤ 4) && (asked s.cmps).all (askOk p i)
/-- Of which step rule r (1 to 7) is not kept first; -1: it is kept. -/
def broken (p : List Sp) (win : Int) (r : Nat) : Int :=
  if r = 1 then whole (rule1 p win) else if r = 2 then whole (rule2 p) else if r = 3 then firstFrom (rule3 p) 0 p
  else if r = 4 then firstFrom (rule4 p) 0 p else if r = 5 then firstFrom (rule5 p) 0 p else if r = 6 then whole (rule6 p) else firstFrom (rule7 p) 0 p
/-- The first of the rules from r on, n of them, that is not kept. -/
def checkFrom (p : List Sp) (win : Int) (r : Nat) : Nat → Int × Int × Int
  | 0 => (0, 0, 0)
  | n + 1 => if broken p win r < 0 then checkFrom p win (r + 1) n else (r, broken p win r, 110)
def checkF (p : List Sp) (win : Int) : Int × Int × Int := if rightB p win then checkFrom p win 1 7 else (0, 0, 2)
def mayB (p : List Sp) (win : Int) : Bool := decide ((checkF p win).2.2 = 0)
/-- The last positive one of the first n steps; -1: there is none. -/
def lastPos (p : List Sp) : Nat → Int
  | 0 => -1
  | n + 1 => if (stepAt p n).neg then lastPos p n else n
def tailF (p : List Sp) : Int := p.length - 1 - lastPos p p.length
def headF (p : List Sp) (i : Int) : Int := if 0 ≤ i ∧ i < p.length then lastPos p i.toNat else -1
end Go.Proofs.Ytidddeobachjgaa
