import Derived.Test.YtbahanlnkikpeaaGreatArgs
import Derived.Test.YtbahanlnkikpeaaGreatModelW
namespace Go.Proofs.YtbahanlnkikpeaaGreat
open Go.RowKit Go.Proofs.YtbahanlnkikpeaaGreatW.PrintWords Go.Proofs.YtbahanlnkikpeaaGreatW.PrintLast
set_option linter.unusedVariables false
set_option linter.unusedSimpArgs false
open Go.ChangeShapes Go.WideShapes Go.ChangeAt Go.RowKit Go.Deep
set_option maxRecDepth 100000
/-! Raw numbers as arguments, opened. -/
theorem wf_u8 {n : Int} (h : (Lit.int .u8 n).wf = true) : 0 ≤ n ∧ n ≤ 255 := by
  have hm : IntKind.u8.min = 0 := by decide
  have hx : IntKind.u8.max = 255 := by decide
  simp only [Lit.wf, hm, hx, Bool.and_eq_true, decide_eq_true_eq] at h
  omega
theorem wf_u16 {n : Int} (h : (Lit.int .u16 n).wf = true) : 0 ≤ n ∧ n ≤ 65535 := by
  have hm : IntKind.u16.min = 0 := by decide
  have hx : IntKind.u16.max = 65535 := by decide
  simp only [Lit.wf, hm, hx, Bool.and_eq_true, decide_eq_true_eq] at h
  omega
def kByte : Kd {n : Int // 0 ≤ n ∧ n ≤ 255} := Kd.iso (Kd.int .u8) Subtype.val
theorem opens_byte : Opens 5 kByte := by
  intro H enc w fuel cs x h
  obtain ⟨n, rfl, -, hw⟩ := DataW.trod_int Tryz.underlying5 h
  exact ⟨⟨n, wf_u8 hw⟩, rfl⟩
theorem open_bytes {H : Type} {enc : TypeId × Value → H} {W : World} {base : Nat} {v : Value} {d : DataW H} {p : List MemPlace} (hv : Value.okWide Tryz.prog W .any base 56 v) (h : DataW.Trod enc Tryz.prog W 0 (fun _ => true) true 56 v d p) :
    ∃ (B : Option Addr) (c : Nat) (xs : List Int), v = .slice B xs.length c ∧ Kd.C (Kd.int .u8) W B xs.length xs ∧ Bytes xs := by
  obtain ⟨a, len, cap, rfl⟩ := okWide_slice Tryz.underlying56 hv
  obtain ⟨fuel, hf⟩ := h
  obtain ⟨x, A, c, e, -, hC⟩ := opens_slice Tryz.underlying56 (by kernel_rfl) opens_byte enc W fuel _ _ hf
  have e' : [Value.slice a len cap] = [.slice A x.length c] := e
  injection e' with e' _
  refine ⟨A, c, x.map Subtype.val, by rw [List.length_map]; exact e', ?_, ?_⟩
  · obtain ⟨h1, h2, h3⟩ := hC
    refine ⟨rfl, by rw [List.length_map]; exact h2, fun hp => ?_⟩
    obtain ⟨ad, e1, h4⟩ := h3 (by rw [List.length_map] at hp; exact hp)
    refine ⟨ad, e1, fun j q hj => ?_⟩
    rw [List.getElem?_map] at hj
    obtain ⟨y, hy, rfl⟩ := Option.map_eq_some_iff.1 hj
    exact h4 j y hy
  · intro y hy
    obtain ⟨z, -, rfl⟩ := List.mem_map.1 hy
    exact z.2

end Go.Proofs.YtbahanlnkikpeaaGreat
