import Derived.Test.YtbahanlnkikpeaaGreatRec9d
namespace Go.Proofs.YtbahanlnkikpeaaGreat
open Go.RowKit Go.Proofs.YtbahanlnkikpeaaGreatW.PrintWords Go.Proofs.YtbahanlnkikpeaaGreatW.PrintLast
set_option linter.unusedVariables false
set_option linter.unusedSimpArgs false
/-! What the walks come to, in plain Lean. -/
def targets (ps : List DPackage) (s : ByteArray) : List Int := if 0 ≤ findI ps s then [findI ps s] else prov ps s
theorem prov_range {ps : List DPackage} {s : ByteArray} {x : Int} (h : x ∈ prov ps s) : 0 ≤ x ∧ x < ps.length := by
  unfold prov provTo at h
  obtain ⟨i, hi, rfl⟩ := List.mem_map.1 h
  have := List.mem_range.1 (List.mem_filter.1 hi).1
  exact ⟨Int.natCast_nonneg i, by show (i : Int) < _; omega⟩
theorem targets_range {ps : List DPackage} {s : ByteArray} {x : Int} (h : x ∈ targets ps s) : 0 ≤ x ∧ x < ps.length := by
  unfold targets at h
  split at h
  · rw [List.mem_singleton] at h
    subst h
    exact ⟨by assumption, findI_lt ps s⟩
  · exact prov_range h
/-- A package is one that the roots, or the depends of the packages in 'inn', may mean. -/
def Asked (ps : List DPackage) (rs : List DRoot) (inn : Nat → Prop) (x : Int) : Prop :=
  (∃ r ∈ rs, x ∈ targets ps r.spec.name) ∨ ∃ k, ∃ hk : k < ps.length, inn k ∧ ∃ d ∈ ps[k].depends, x ∈ targets ps d.on_.name
theorem Asked.mono {ps : List DPackage} {rs : List DRoot} {p q : Nat → Prop} {x : Int} (h : Asked ps rs p x) (hpq : ∀ k, p k → q k) : Asked ps rs q x := by
  rcases h with h | ⟨k, hk, hp, h⟩
  · exact .inl h
  · exact .inr ⟨k, hk, hpq k hp, h⟩
theorem Asked.range {ps : List DPackage} {rs : List DRoot} {p : Nat → Prop} {x : Int} (h : Asked ps rs p x) : 0 ≤ x ∧ x < ps.length := by
  rcases h with ⟨_, _, h⟩ | ⟨_, _, _, _, _, h⟩ <;> exact targets_range h
/-- A package may be needed. -/
inductive Rch (ps : List DPackage) (rs : List DRoot) : Nat → Prop
  | root (r : DRoot) (i : Nat) : r ∈ rs → (i : Int) ∈ targets ps r.spec.name → Rch ps rs i
  | step (k i : Nat) (d : DDepend) (hk : k < ps.length) : Rch ps rs k → d ∈ ps[k].depends → (i : Int) ∈ targets ps d.on_.name → Rch ps rs i
theorem rch_asked {ps : List DPackage} {rs : List DRoot} {p : Nat → Prop} (hp : ∀ k, p k → Rch ps rs k) {i : Nat} (h : Asked ps rs p i) : Rch ps rs i := by
  rcases h with ⟨r, hr, h⟩ | ⟨k, hk, hq, d, hd, h⟩
  · exact .root r i hr h
  · exact .step k i d hk (hp k hq) hd h
theorem rch_closed {ps : List DPackage} {rs : List DRoot} {p : Nat → Prop} (hc : ∀ i : Nat, Asked ps rs p i → p i) {i : Nat} (h : Rch ps rs i) : p i := by
  induction h with
  | root r i hr ht => exact hc i (.inl ⟨r, hr, ht⟩)
  | step k i d hk _ hd ht ih => exact hc i (.inr ⟨k, hk, ih, d, hd, ht⟩)
theorem rch_lt {ps : List DPackage} {rs : List DRoot} {i : Nat} (h : Rch ps rs i) : i < ps.length := by
  cases h with
  | root r i hr ht => have := (targets_range ht).2; omega
  | step k i d hk _ hd ht => have := (targets_range ht).2; omega
open Classical in
/-- The places of the packages that may be needed. -/
noncomputable def cloN (ps : List DPackage) (rs : List DRoot) : List Nat := (List.range ps.length).filter (fun i => decide (Rch ps rs i))
noncomputable def clo (ps : List DPackage) (rs : List DRoot) : List Int := (cloN ps rs).map Int.ofNat
theorem mem_cloN {ps : List DPackage} {rs : List DRoot} {i : Nat} : i ∈ cloN ps rs ↔ Rch ps rs i := by
  classical
  unfold cloN
  rw [List.mem_filter, List.mem_range, decide_eq_true_iff]
  exact ⟨fun h => h.2, fun h => ⟨rch_lt h, h⟩⟩
theorem mem_clo {ps : List DPackage} {rs : List DRoot} {x : Int} : x ∈ clo ps rs ↔ ∃ i : Nat, x = i ∧ Rch ps rs i := by
  unfold clo
  rw [List.mem_map]
  constructor
  · rintro ⟨i, hi, rfl⟩
    exact ⟨i, rfl, mem_cloN.1 hi⟩
  · rintro ⟨i, rfl, hi⟩
    exact ⟨i, mem_cloN.2 hi, rfl⟩
theorem cloN_sorted (ps : List DPackage) (rs : List DRoot) : (cloN ps rs).Pairwise (· < ·) := List.Pairwise.filter _ (List.pairwise_lt_range)
theorem cloN_len (ps : List DPackage) (rs : List DRoot) : (cloN ps rs).length ≤ ps.length := by
  unfold cloN
  exact Nat.le_trans (List.length_filter_le _ _) (by rw [List.length_range]; omega)
theorem clo_len (ps : List DPackage) (rs : List DRoot) : (clo ps rs).length ≤ ps.length := by
  unfold clo
  rw [List.length_map]
  exact cloN_len ps rs
theorem clo_sorted (ps : List DPackage) (rs : List DRoot) : (clo ps rs).Pairwise (· < ·) := by
  unfold clo
  rw [List.pairwise_map]
  exact (cloN_sorted ps rs).imp (fun h => by show (_ : Int) < _; simpa using h)
/-- Two rising lists of the same numbers are one. -/
theorem sorted_unique : ∀ {a b : List Int}, a.Pairwise (· < ·) → b.Pairwise (· < ·) → (∀ x, x ∈ a ↔ x ∈ b) → a = b
  | [], [], _, _, _ => rfl
  | [], y :: b, _, _, h => absurd ((h y).2 (by simp)) (by simp)
  | x :: a, [], _, _, h => absurd ((h x).1 (by simp)) (by simp)
  | x :: a, y :: b, ha, hb, h => by
    rw [List.pairwise_cons] at ha hb
    have hxy : x = y := by
      rcases List.mem_cons.1 ((h x).1 (by simp)) with e | e
      · exact e
      · rcases List.mem_cons.1 ((h y).2 (by simp)) with e' | e'
        · exact e'.symm
        · have := ha.1 y e'; have := hb.1 x e; omega
    subst hxy
    congr 1
    refine sorted_unique ha.2 hb.2 (fun z => ⟨fun hz => ?_, fun hz => ?_⟩)
    · rcases List.mem_cons.1 ((h z).1 (by simp [hz])) with e | e
      · have := ha.1 z hz; omega
      · exact e
    · rcases List.mem_cons.1 ((h z).2 (by simp [hz])) with e | e
      · have := hb.1 z hz; omega
      · exact e
/-- A list that is closed and sound, flag by flag, is the closure. -/
theorem clo_of_flags (ps : List DPackage) (rs : List DRoot) (inn : List Bool) (hl : inn.length = ps.length) (hs : ∀ k, inn.getD k false = true → Rch ps rs k) (hc : ∀ i : Nat, Asked ps rs (fun k => inn.getD k false = true) i → inn.getD i false = true) :
    (((List.range inn.length).filter (fun i => inn.getD i false)).map Int.ofNat) = clo ps rs := by
  classical
  unfold clo cloN
  rw [hl]
  congr 1
  apply List.filter_congr
  intro i _
  rw [Bool.eq_iff_iff, decide_eq_true_iff]
  exact ⟨hs i, rch_closed hc⟩

end Go.Proofs.YtbahanlnkikpeaaGreat
