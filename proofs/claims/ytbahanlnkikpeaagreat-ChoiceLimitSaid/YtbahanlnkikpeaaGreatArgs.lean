import Derived.WalkKit
import Derived.ProofKit
import Derived.OpenShut
import Derived.ShutString
import Derived.ChangeOld
import Derived.Below
import Derived.SizedLaws
import Derived.Test.YtbahanlnkikpeaaGreatRows
import Derived.Test.YtbahanlnkikpeaaGreatOpens
namespace Go.Proofs.YtbahanlnkikpeaaGreat
open Go.RowKit Go.Proofs.YtbahanlnkikpeaaGreatW.PrintWords Go.Proofs.YtbahanlnkikpeaaGreatW.PrintLast
set_option linter.unusedVariables false
set_option linter.unusedSimpArgs false
open Go.ChangeShapes Go.WideShapes Go.ChangeAt Go.RowKit
set_option maxRecDepth 100000
/-! The laws' arguments, opened. -/
theorem own : ownKnob (Tryz.prog).godebug = none := by kernel_rfl
theorem laidOut : laidOutB Tryz.prog = true := by kernel_rfl
theorem open_recipe {H : Type} {enc : TypeId × Value → H} {W : World} {base : Nat} {v : Value} {d : DataW H} {p : List MemPlace} (hv : Value.okWide Tryz.prog W .any base 25 v) (h : DataW.Trod enc Tryz.prog W 0 (fun _ => true) true 25 v d p) :
    ∃ (A : Option Addr) (c : Nat) (ps : List DPackage) (A2 : Option Addr) (c2 : Nat) (fs : List DPrefer), v = .agg #[.slice A ps.length c, .slice A2 fs.length c2] ∧ Kd.C kPackage W A ps.length ps ∧ Kd.C kPrefer W A2 fs.length fs := by
  obtain ⟨cs, rfl, -⟩ := okWide_struct Tryz.underlying25 hv
  obtain ⟨fuel, hf⟩ := h
  obtain ⟨x, hx⟩ := opens_Recipe enc W fuel _ _ hf
  obtain ⟨A0, c0, A1, c1, e, -, g0, -, g1⟩ := kRecipe_open hx
  refine ⟨A0, c0, x.packages, A1, c1, x.prefers, ?_, g0, g1⟩
  have e' : cs.toList = [.slice A0 x.packages.length c0, .slice A1 x.prefers.length c1] := e
  rw [← Array.toArray_toList (xs := cs), e']
theorem open_request {H : Type} {enc : TypeId × Value → H} {W : World} {base : Nat} {v : Value} {d : DataW H} {p : List MemPlace} (hv : Value.okWide Tryz.prog W .any base 28 v) (h : DataW.Trod enc Tryz.prog W 0 (fun _ => true) true 28 v d p) :
    ∃ (B : Option Addr) (c : Nat) (rs : List DRoot), v = .agg #[.slice B rs.length c] ∧ Kd.C kRoot W B rs.length rs := by
  obtain ⟨cs, rfl, -⟩ := okWide_struct Tryz.underlying28 hv
  obtain ⟨fuel, hf⟩ := h
  obtain ⟨x, hx⟩ := opens_Request enc W fuel _ _ hf
  obtain ⟨A0, c0, e, -, g0⟩ := kRequest_open hx
  refine ⟨A0, c0, x.roots, ?_, g0⟩
  have e' : cs.toList = [.slice A0 x.roots.length c0] := e
  rw [← Array.toArray_toList (xs := cs), e']

end Go.Proofs.YtbahanlnkikpeaaGreat
