import Derived.DeepKeys4
import Derived.Test.YtbahanlnkikpeaaGreatTableG
namespace Go.Proofs.YtbahanlnkikpeaaGreat
open Go.RowKit Go.Proofs.YtbahanlnkikpeaaGreatW.PrintWords Go.Proofs.YtbahanlnkikpeaaGreatW.PrintLast
set_option linter.unusedVariables false
set_option linter.unusedSimpArgs false
open Go.RowKit Go.Maps Go.Sort Go.Shelf
/-! A map keyed by atoms. -/
theorem keyedA : Keyed Tryz.prog 96 := Keyed.of_law (deep_law_laid (m := 20) (by kernel_rfl) (by decide) (of_decide_eq_true (by kernel_rfl)) (by kernel_rfl) (by kernel_rfl))
def atomV (x : DAtom) : Value := .agg #[.int .u8 x.kind, .int .i64 x.a, .int .i64 x.b, .int .i64 x.c]
/-- An atom that fits its cells. -/
def AtOK (x : DAtom) : Prop := (Lit.int .u8 x.kind).wf = true ∧ (Lit.int .i64 x.a).wf = true ∧ (Lit.int .i64 x.b).wf = true ∧ (Lit.int .i64 x.c).wf = true
def keyA (x : DAtom) : Lit := .string (keyBytes [.int .u8 x.kind, .int .i64 x.a, .int .i64 x.b, .int .i64 x.c])
theorem ntypes : ∃ m, (Tryz.prog).types.size = m + 1 := ⟨(Tryz.prog).types.size - 1, by kernel_rfl⟩
theorem lits_int {n : Nat} {x : Int} (h : (Lit.int .i64 x).wf = true) : (Tryz.prog).keyLits (n + 1) 3 [.int .i64 x] = some [.int .i64 x] := by
  unfold Program.keyLits
  simp [Tryz.underlying3, h]
theorem lits_u8 {n : Nat} {x : Int} (h : (Lit.int .u8 x).wf = true) : (Tryz.prog).keyLits (n + 1) 5 [.int .u8 x] = some [.int .u8 x] := by
  unfold Program.keyLits
  simp [Tryz.underlying5, h]
theorem keyOf_atom {x : DAtom} (h : AtOK x) : keyOf Tryz.prog 96 (atomV x) = some (keyA x) := by
  obtain ⟨h0, h1, h2, h3⟩ := h
  unfold keyOf atomV keyA
  simp [Tryz.underlying96]
  refine ⟨⟨by kernel_rfl, by kernel_rfl⟩, [.int .u8 x.kind, .int .i64 x.a, .int .i64 x.b, .int .i64 x.c], ?_, rfl⟩
  unfold Program.keyLits
  simp only [Tryz.underlying96, Value.cells]
  have c0 : (Tryz.prog).cellsOf 96 = 4 := by kernel_rfl
  have c1 : (Tryz.prog).cellsOf 3 = 1 := by kernel_rfl
  have c2 : (Tryz.prog).cellsOf 5 = 1 := by kernel_rfl
  rw [if_pos ⟨by rw [c0]; rfl, by kernel_rfl⟩]
  simp [List.mapM_cons, c1, c2, lits_int h1, lits_int h2, lits_int h3, lits_u8 h0]

end Go.Proofs.YtbahanlnkikpeaaGreat
