import Derived.Test.YtbahanlnkikpeaaGreatLines
namespace Go.Proofs.YtbahanlnkikpeaaGreat
open Go.RowKit Go.Proofs.YtbahanlnkikpeaaGreatW.PrintWords Go.Proofs.YtbahanlnkikpeaaGreatW.PrintLast
set_option linter.unusedVariables false
set_option linter.unusedSimpArgs false
open Go.RowKit Go.Maps
set_option maxRecDepth 100000
/-! What is asked of a ground. -/
theorem Rules_of_gnd {w0 w : World} {g : Nat} {a : Args} {gs : GS} (h : Gnd w0 g a gs w) (hl : (rulesOf a.ps a.rs).length < 1000000000000) :
    Calls Tryz.prog 10 #[.pointer (some ⟨g, 0, none⟩)] w (fun e w' => ∃ v, e = .returned v ∧ OwnRl w' w.heap.size v (rulesOf a.ps a.rs) ∧ Below w.heap.size w w') := by
  obtain ⟨h1, h2, tg, bg, Ai, cI, Ar, cR, hG, hT, hB, hI, hR⟩ := h
  exact RulesOf_calls w g _ hG (Kd.R_reads' hR).2.2 hl
theorem cntTo_le {ps : List DPackage} (h : RcOK ps) : ∀ (l : List Nat), cntTo ps l ≤ l.length * 24
  | [] => by simp [cntTo]
  | q :: l => by
    have h1 := pkgRules_len h q
    rw [pkgRules_cnt] at h1
    have h2 := cntTo_le h l
    unfold cntTo at h2 ⊢
    rw [List.map_cons, List.sum_cons, List.length_cons]
    omega
theorem Places_of_gnd {w0 w : World} {g : Nat} {a : Args} {gs : GS} (h : Gnd w0 g a gs w) (hl : (clo a.ps a.rs).length < 1000000000000) :
    Calls Tryz.prog 26 #[.pointer (some ⟨g, 0, none⟩)] w (RetI w (clo a.ps a.rs)) := by
  obtain ⟨h1, h2, tg, bg, Ai, cI, Ar, cR, hG, hT, hB, hI, hR⟩ := h
  exact Places_calls w g _ hG (Kd.R_reads' hI).2.2 hl
theorem Has_of_gnd {w0 w : World} {g : Nat} {a : Args} {gs : GS} (h : Gnd w0 g a gs w) (p : Int) :
    Calls Tryz.prog 23 #[.pointer (some ⟨g, 0, none⟩), .int .i64 p] w (fun e w' => e = .returned (.bool (hasI (clo a.ps a.rs) p)) ∧ w' = w) := by
  obtain ⟨h1, h2, tg, bg, Ai, cI, Ar, cR, hG, hT, hB, hI, hR⟩ := h
  exact HasG_same w g _ p hG (Kd.R_reads' hI).2.2
theorem Builder_of_gnd {w0 w : World} {g : Nat} {a : Args} {gs : GS} (h : Gnd w0 g a gs w) :
    Calls Tryz.prog 15 #[.pointer (some ⟨g, 0, none⟩)] w (fun e w' => ∃ bg, e = .returned (.pointer (some ⟨bg, 0, none⟩)) ∧ w' = w ∧ Bld w w0.heap.size bg gs.b) := by
  obtain ⟨h1, h2, tg, bg, Ai, cI, Ar, cR, hG, hT, hB, hI, hR⟩ := h
  refine (BuilderG_same w g hG).mono ?_
  rintro e w' ⟨rfl, rfl⟩
  exact ⟨bg, rfl, rfl, hB⟩
theorem Table_of_gnd {w0 w : World} {g : Nat} {a : Args} {gs : GS} (h : Gnd w0 g a gs w) :
    Calls Tryz.prog 18 #[.pointer (some ⟨g, 0, none⟩)] w (fun e w' => ∃ tg, e = .returned (.pointer (some ⟨tg, 0, none⟩)) ∧ w' = w ∧ Tab w w0.heap.size tg a.lim gs.t) := by
  obtain ⟨h1, h2, tg, bg, Ai, cI, Ar, cR, hG, hT, hB, hI, hR⟩ := h
  refine (TableG_same w g hG).mono ?_
  rintro e w' ⟨rfl, rfl⟩
  exact ⟨tg, rfl, rfl, hT⟩
theorem Request_of_gnd {w0 w : World} {g : Nat} {a : Args} {gs : GS} (h : Gnd w0 g a gs w) :
    Calls Tryz.prog 27 #[.pointer (some ⟨g, 0, none⟩)] w (RetB w (.agg #[.slice a.B a.rs.length a.d])) := by
  obtain ⟨h1, h2, tg, bg, Ai, cI, Ar, cR, hG, hT, hB, hI, hR⟩ := h
  exact RequestG_calls w g hG
theorem Recipe_of_gnd {w0 w : World} {g : Nat} {a : Args} {gs : GS} (h : Gnd w0 g a gs w) :
    Calls Tryz.prog 28 #[.pointer (some ⟨g, 0, none⟩)] w (RetB w (.agg #[.slice a.A a.ps.length a.c, .slice a.A2 a.n2 a.c2])) := by
  obtain ⟨h1, h2, tg, bg, Ai, cI, Ar, cR, hG, hT, hB, hI, hR⟩ := h
  exact RecipeG_calls w g hG
theorem run_field_rq (B : Option Addr) (n d : Nat) (w : World) : (Instr.field 28 (.agg #[.slice B n d]) 0).run Tryz.prog w = .ok (.slice B n d) w := by kernel_rfl
theorem run_field_rc (A : Option Addr) (n c : Nat) (A2 : Option Addr) (n2 c2 : Nat) (w : World) : (Instr.field 25 (.agg #[.slice A n c, .slice A2 n2 c2]) 0).run Tryz.prog w = .ok (.slice A n c) w := by kernel_rfl

end Go.Proofs.YtbahanlnkikpeaaGreat
