import Derived.Test.YtbahanlnkikpeaaGreatFixed
import Derived.Test.YtbahanlnkikpeaaGreatRef10c
import Derived.Test.YtbahanlnkikpeaaGreatRec9h
namespace Go.Proofs.YtbahanlnkikpeaaGreat
open Go.RowKit Go.Proofs.YtbahanlnkikpeaaGreatW.PrintWords Go.Proofs.YtbahanlnkikpeaaGreatW.PrintLast
set_option linter.unusedVariables false
set_option linter.unusedSimpArgs false
section
open Go.RowKit Go.Maps
set_option maxRecDepth 100000
set_option maxHeartbeats 4000000
/-! The rules, in plain Lean: each is of something, at its line; none stands twice. -/
inductive RuleOK (ps : List DPackage) (rs : List DRoot) : DRule → Prop
  | root (k : Nat) (hk : k < rs.length) : RuleOK ps rs ⟨1, -1, k, rs[k].line⟩
  | dep (q : Nat) (hq : q < ps.length) (k : Nat) (hk : k < ps[q].depends.length) : RuleOK ps rs ⟨2, q, k, ps[q].depends[k].line⟩
  | con (q : Nat) (hq : q < ps.length) (k : Nat) (hk : k < ps[q].conflicts.length) : RuleOK ps rs ⟨3, q, k, ps[q].conflicts[k].line⟩
theorem mem_mapIdx' {α β : Type} {f : Nat → α → β} {l : List α} {y : β} (h : y ∈ l.mapIdx f) : ∃ k, ∃ hk : k < l.length, y = f k l[k] := by
  obtain ⟨k, hk, e⟩ := List.mem_iff_getElem.1 h
  rw [List.length_mapIdx] at hk
  exact ⟨k, hk, by rw [← e, List.getElem_mapIdx]⟩
theorem pkgRules_ok {ps : List DPackage} {rs : List DRoot} {q : Nat} (hq : q < ps.length) {r : DRule} (h : r ∈ pkgRules ps q) : RuleOK ps rs r ∧ r.pack = q ∧ r.kind ≠ 1 := by
  unfold pkgRules at h
  rw [getD_at _ _ hq] at h
  rcases List.mem_append.1 h with h | h
  · obtain ⟨k, hk, rfl⟩ := mem_mapIdx' h
    exact ⟨.dep q hq k hk, rfl, by simp [depRule]⟩
  · obtain ⟨k, hk, rfl⟩ := mem_mapIdx' h
    exact ⟨.con q hq k hk, rfl, by simp [conRule]⟩
theorem rules_ok {ps : List DPackage} {rs : List DRoot} {r : DRule} (h : r ∈ rulesOf ps rs) : RuleOK ps rs r := by
  unfold rulesOf at h
  rcases List.mem_append.1 h with h | h
  · obtain ⟨k, hk, rfl⟩ := mem_mapIdx' h
    exact .root k hk
  · obtain ⟨q, hq, h⟩ := List.mem_flatMap.1 h
    exact (pkgRules_ok (rch_lt (mem_cloN.1 hq)) h).1
def sameR (a b : DRule) : Prop := a.kind = b.kind ∧ a.pack = b.pack ∧ a.idx = b.idx
theorem pairwise_mapIdx {α β : Type} {f : Nat → α → β} {R : β → β → Prop} (l : List α) (h : ∀ i j x y, i < j → R (f i x) (f j y)) : (l.mapIdx f).Pairwise R := by
  rw [List.pairwise_iff_getElem]
  intro i j hi hj hij
  rw [List.getElem_mapIdx, List.getElem_mapIdx]
  exact h _ _ _ _ hij
theorem rules_apart (ps : List DPackage) (rs : List DRoot) : (rulesOf ps rs).Pairwise (fun a b => ¬ sameR a b) := by
  unfold rulesOf
  rw [List.pairwise_append]
  refine ⟨pairwise_mapIdx _ (fun i j x y hij h => by have := h.2.2; simp [rootRule] at this; omega), ?_, ?_⟩
  · rw [List.pairwise_flatMap]
    refine ⟨fun q hq => ?_, ?_⟩
    · unfold pkgRules
      rw [List.pairwise_append]
      refine ⟨pairwise_mapIdx _ (fun i j x y hij h => by have := h.2.2; simp [depRule] at this; omega), pairwise_mapIdx _ (fun i j x y hij h => by have := h.2.2; simp [conRule] at this; omega), ?_⟩
      intro a ha b hb h
      obtain ⟨_, _, rfl⟩ := mem_mapIdx' ha
      obtain ⟨_, _, rfl⟩ := mem_mapIdx' hb
      have := h.1
      simp [depRule, conRule] at this
    · refine List.Pairwise.imp_of_mem ?_ (cloN_sorted ps rs)
      intro q q' hq hq' hlt a ha b hb h
      have h1 := (pkgRules_ok (rs := rs) (rch_lt (mem_cloN.1 hq)) ha).2.1
      have h2 := (pkgRules_ok (rs := rs) (rch_lt (mem_cloN.1 hq')) hb).2.1
      have := h.2.1
      omega
  · intro a ha b hb h
    obtain ⟨_, _, rfl⟩ := mem_mapIdx' ha
    obtain ⟨q, hq, hb⟩ := List.mem_flatMap.1 hb
    have h1 := (pkgRules_ok (rs := rs) (rch_lt (mem_cloN.1 hq)) hb).2.2
    exact h1 h.1.symm
def cnt1 (ps : List DPackage) (q : Nat) : Nat := (ps.getD q zPackage).depends.length + (ps.getD q zPackage).conflicts.length
def cntTo (ps : List DPackage) (l : List Nat) : Nat := (l.map (cnt1 ps)).sum
theorem pkgRules_cnt (ps : List DPackage) (q : Nat) : (pkgRules ps q).length = cnt1 ps q := by
  unfold pkgRules cnt1
  rw [List.length_append, List.length_mapIdx, List.length_mapIdx]
theorem rules_len (ps : List DPackage) (rs : List DRoot) : (rulesOf ps rs).length = rs.length + cntTo ps (cloN ps rs) := by
  unfold rulesOf cntTo
  rw [List.length_append, List.length_mapIdx, List.length_flatMap]
  congr 2
  exact List.map_congr_left (fun q _ => pkgRules_cnt ps q)
theorem cntTo_snoc (ps : List DPackage) (l : List Nat) (q : Nat) : cntTo ps (l ++ [q]) = cntTo ps l + cnt1 ps q := by unfold cntTo; rw [List.map_append, List.sum_append]; simp

end
section
open Go.RowKit Go.Maps
set_option maxRecDepth 100000
/-! What is asked of a ground. -/
theorem Rules_of_gnd {w0 w : World} {g : Nat} {a : Args} {gs : GS} (h : Gnd w0 g a gs w) (hl : (rulesOf a.ps a.rs).length < 1000000000000) :
    Calls Tryz.prog 10 #[.pointer (some ⟨g, 0, none⟩)] w (fun e w' => ∃ v, e = .returned v ∧ OwnRl w' w.heap.size v (rulesOf a.ps a.rs) ∧ Below w.heap.size w w') := by
  obtain ⟨h1, h2, tg, bg, Ai, cI, Ar, cR, hG, hT, hB, hI, hR⟩ := h
  exact RulesOf_calls w g _ hG (Kd.R_reads' hR).2.2 hl
theorem cntTo_le {ps : List DPackage} (h : RcOK ps) : ∀ (l : List Nat), cntTo ps l ≤ l.length * 24
  | [] => by simp [cntTo]
  | q :: l => by
    have h1 := pkgRules_len h q
    rw [pkgRules_cnt] at h1
    have h2 := cntTo_le h l
    unfold cntTo at h2 ⊢
    rw [List.map_cons, List.sum_cons, List.length_cons]
    omega
theorem Places_of_gnd {w0 w : World} {g : Nat} {a : Args} {gs : GS} (h : Gnd w0 g a gs w) (hl : (clo a.ps a.rs).length < 1000000000000) :
    Calls Tryz.prog 26 #[.pointer (some ⟨g, 0, none⟩)] w (RetI w (clo a.ps a.rs)) := by
  obtain ⟨h1, h2, tg, bg, Ai, cI, Ar, cR, hG, hT, hB, hI, hR⟩ := h
  exact Places_calls w g _ hG (Kd.R_reads' hI).2.2 hl
theorem Has_of_gnd {w0 w : World} {g : Nat} {a : Args} {gs : GS} (h : Gnd w0 g a gs w) (p : Int) :
    Calls Tryz.prog 23 #[.pointer (some ⟨g, 0, none⟩), .int .i64 p] w (fun e w' => e = .returned (.bool (hasI (clo a.ps a.rs) p)) ∧ w' = w) := by
  obtain ⟨h1, h2, tg, bg, Ai, cI, Ar, cR, hG, hT, hB, hI, hR⟩ := h
  exact HasG_same w g _ p hG (Kd.R_reads' hI).2.2
theorem Builder_of_gnd {w0 w : World} {g : Nat} {a : Args} {gs : GS} (h : Gnd w0 g a gs w) :
    Calls Tryz.prog 15 #[.pointer (some ⟨g, 0, none⟩)] w (fun e w' => ∃ bg, e = .returned (.pointer (some ⟨bg, 0, none⟩)) ∧ w' = w ∧ Bld w w0.heap.size bg gs.b) := by
  obtain ⟨h1, h2, tg, bg, Ai, cI, Ar, cR, hG, hT, hB, hI, hR⟩ := h
  refine (BuilderG_same w g hG).mono ?_
  rintro e w' ⟨rfl, rfl⟩
  exact ⟨bg, rfl, rfl, hB⟩
theorem Table_of_gnd {w0 w : World} {g : Nat} {a : Args} {gs : GS} (h : Gnd w0 g a gs w) :
    Calls Tryz.prog 18 #[.pointer (some ⟨g, 0, none⟩)] w (fun e w' => ∃ tg, e = .returned (.pointer (some ⟨tg, 0, none⟩)) ∧ w' = w ∧ Tab w w0.heap.size tg a.lim gs.t) := by
  obtain ⟨h1, h2, tg, bg, Ai, cI, Ar, cR, hG, hT, hB, hI, hR⟩ := h
  refine (TableG_same w g hG).mono ?_
  rintro e w' ⟨rfl, rfl⟩
  exact ⟨tg, rfl, rfl, hT⟩
theorem Request_of_gnd {w0 w : World} {g : Nat} {a : Args} {gs : GS} (h : Gnd w0 g a gs w) :
    Calls Tryz.prog 27 #[.pointer (some ⟨g, 0, none⟩)] w (RetB w (.agg #[.slice a.B a.rs.length a.d])) := by
  obtain ⟨h1, h2, tg, bg, Ai, cI, Ar, cR, hG, hT, hB, hI, hR⟩ := h
  exact RequestG_calls w g hG
theorem Recipe_of_gnd {w0 w : World} {g : Nat} {a : Args} {gs : GS} (h : Gnd w0 g a gs w) :
    Calls Tryz.prog 28 #[.pointer (some ⟨g, 0, none⟩)] w (RetB w (.agg #[.slice a.A a.ps.length a.c, .slice a.A2 a.n2 a.c2])) := by
  obtain ⟨h1, h2, tg, bg, Ai, cI, Ar, cR, hG, hT, hB, hI, hR⟩ := h
  exact RecipeG_calls w g hG
theorem run_field_rq (B : Option Addr) (n d : Nat) (w : World) : (Instr.field 28 (.agg #[.slice B n d]) 0).run Tryz.prog w = .ok (.slice B n d) w := by kernel_rfl
theorem run_field_rc (A : Option Addr) (n c : Nat) (A2 : Option Addr) (n2 c2 : Nat) (w : World) : (Instr.field 25 (.agg #[.slice A n c, .slice A2 n2 c2]) 0).run Tryz.prog w = .ok (.slice A n c) w := by kernel_rfl

end
end Go.Proofs.YtbahanlnkikpeaaGreat
