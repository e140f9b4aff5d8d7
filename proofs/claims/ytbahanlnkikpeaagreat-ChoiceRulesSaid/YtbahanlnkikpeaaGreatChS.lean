import Derived.Test.YtbahanlnkikpeaaGreatKeep
namespace Go.Proofs.YtbahanlnkikpeaaGreat
open Go.RowKit Go.Proofs.YtbahanlnkikpeaaGreatW.PrintWords Go.Proofs.YtbahanlnkikpeaaGreatW.PrintLast
set_option linter.unusedVariables false
set_option linter.unusedSimpArgs false
/-! What the ground builds, in plain Lean: the table of atoms, the clauses. -/
instance : DecidableEq DAtom := fun a b =>
  if h : a.kind = b.kind ∧ a.a = b.a ∧ a.b = b.b ∧ a.c = b.c then .isTrue (by cases a; cases b; simp at h; simp [h]) else .isFalse (by rintro rfl; exact h ⟨rfl, rfl, rfl, rfl⟩)
/-- The place of an atom in a row, from k on; 0: none. -/
def numTo (a : DAtom) : List DAtom → Nat → Nat
  | [], _ => 0
  | x :: l, k => if x = a then k + 1 else numTo a l (k + 1)
def numOf (l : List DAtom) (a : DAtom) : Nat := numTo a l 0
structure TS where
  l : List DAtom
  full : Bool
def TS.num (lim : Nat) (t : TS) (a : DAtom) : Nat := if numOf t.l a ≠ 0 then numOf t.l a else if lim ≤ t.l.length then 0 else t.l.length + 1
def TS.put (lim : Nat) (t : TS) (a : DAtom) : TS := if numOf t.l a ≠ 0 then t else if lim ≤ t.l.length then ⟨t.l, true⟩ else ⟨t.l ++ [a], t.full⟩
theorem numTo_snoc (a b : DAtom) : ∀ (l : List DAtom) (k : Nat), numTo a (l ++ [b]) k = if numTo a l k ≠ 0 then numTo a l k else if b = a then k + l.length + 1 else 0
  | [], k => by simp [numTo]
  | x :: l, k => by
    simp only [List.cons_append, numTo]
    by_cases h : x = a
    · simp [h]
    · simp only [h, if_false]
      rw [numTo_snoc a b l (k + 1)]
      simp only [List.length_cons]
      have : k + 1 + l.length + 1 = k + (l.length + 1) + 1 := by omega
      rw [this]
theorem numOf_snoc (a b : DAtom) (l : List DAtom) : numOf (l ++ [b]) a = if numOf l a ≠ 0 then numOf l a else if b = a then l.length + 1 else 0 := by
  unfold numOf
  rw [numTo_snoc]
  simp
theorem numTo_le (a : DAtom) : ∀ (l : List DAtom) (k : Nat), numTo a l k ≤ k + l.length
  | [], k => by simp [numTo]
  | x :: l, k => by
    unfold numTo
    split
    · simp
    · have := numTo_le a l (k + 1); rw [List.length_cons]; omega
theorem numOf_le (a : DAtom) (l : List DAtom) : numOf l a ≤ l.length := by have := numTo_le a l 0; unfold numOf; omega
/-! Clauses. -/
def absI (x : Int) : Int := max x (-x)
/-- Before: by the atom's number, then by the literal. -/
def litLt (x y : Int) : Bool := decide (absI x < absI y) || (decide (absI x = absI y) && decide (x < y))
/-- One element is brought to its place: from place j downward. -/
def swapAt (xs : List Int) (j : Nat) : List Int := (xs.set j (xs.getD (j - 1) 0)).set (j - 1) (xs.getD j 0)
def sink (xs : List Int) : Nat → List Int
  | 0 => xs
  | j + 1 => if litLt (xs.getD (j + 1) 0) (xs.getD j 0) then sink (swapAt xs (j + 1)) j else xs
/-- The first i + 1 places are in order. -/
def isortTo (xs : List Int) : Nat → List Int
  | 0 => xs
  | i + 1 => sink (isortTo xs i) (i + 1)
def isortI (xs : List Int) : List Int := isortTo xs (xs.length - 1)
/-- A row of literals of different atoms, few. -/
structure GoodC (l : List Int) : Prop where
  ne : l ≠ []
  len : l.length ≤ 12
  lit : ∀ x ∈ l, x ≠ 0 ∧ -1000000 < x ∧ x < 1000000
  diff : (l.map absI).Nodup
/-- A builder: its clauses; were there too many? -/
structure BS where
  l : List (List Int)
  full : Bool
def BS.add (b : BS) (l : List Int) : BS := if 262144 ≤ b.l.length then ⟨b.l, true⟩ else ⟨b.l ++ [isortI l], b.full⟩
def BS.most (b : BS) : List Int → BS
  | [] => b
  | x :: l => BS.most (l.foldl (fun b y => b.add [-x, -y]) b) l
def BS.one (b : BS) (node : Int) (row : List Int) : BS :=
  if node = 0 ∨ (0 : Int) ∈ row then b else row.foldl (fun b n => b.add [-n, node]) ((b.add (-node :: row)).most row)
/-- A row of atoms gets numbers. -/
def TS.nums (lim : Nat) (t : TS) : List DAtom → List Int
  | [] => []
  | a :: l => (t.num lim a : Int) :: TS.nums lim (t.put lim a) l
def TS.puts (lim : Nat) (t : TS) (l : List DAtom) : TS := l.foldl (TS.put lim) t
structure GS where
  t : TS
  b : BS
def nodeA (p : Nat) : DAtom := ⟨1, p, 0, 0⟩
def relA (p i : Nat) : DAtom := ⟨2, p, i, 0⟩
def valA (p j k : Nat) : DAtom := ⟨3, p, j, k⟩
def GS.rowOne (lim : Nat) (node : Int) (g : GS) (l : List DAtom) : GS := ⟨g.t.puts lim l, g.b.one node (g.t.nums lim l)⟩
def relAs (p n : Nat) : List DAtom := (List.range n).map (relA p)
def valAs (p j n : Nat) : List DAtom := (List.range n).map (valA p j)
def GS.vars (lim : Nat) (node : Int) (p : Nat) (g : GS) (vs : List DVariant) (n : Nat) : GS := (List.range n).foldl (fun g j => g.rowOne lim node (valAs p j (vs.getD j zVariant).values.length)) g
def GS.pkg (lim : Nat) (ps : List DPackage) (g : GS) (p : Nat) : GS :=
  let k := ps.getD p zPackage
  let node : Int := g.t.num lim (nodeA p)
  GS.vars lim node p ((⟨g.t.put lim (nodeA p), g.b⟩ : GS).rowOne lim node (relAs p k.releases.length)) k.variants k.variants.length
def GS.start : GS := ⟨⟨[], false⟩, ⟨[], false⟩⟩
def GS.choices (lim : Nat) (ps : List DPackage) (g : GS) (places : List Nat) : GS := places.foldl (GS.pkg lim ps) g

end Go.Proofs.YtbahanlnkikpeaaGreat
