import Derived.Test.YtbahanlnkikpeaaGreatRec9d
import Derived.StillTailTactics
import Derived.Deep.RegionHeld3
import Derived.Test.YtbahanlnkikpeaaGreatProv
namespace Go.Proofs.YtbahanlnkikpeaaGreat
open Go.RowKit Go.Proofs.YtbahanlnkikpeaaGreatW.PrintWords Go.Proofs.YtbahanlnkikpeaaGreatW.PrintLast
set_option linter.unusedVariables false
set_option linter.unusedSimpArgs false
section
/-! What the walks come to, in plain Lean. -/
def targets (ps : List DPackage) (s : ByteArray) : List Int := if 0 ≤ findI ps s then [findI ps s] else prov ps s
theorem prov_range {ps : List DPackage} {s : ByteArray} {x : Int} (h : x ∈ prov ps s) : 0 ≤ x ∧ x < ps.length := by
  unfold prov provTo at h
  obtain ⟨i, hi, rfl⟩ := List.mem_map.1 h
  have := List.mem_range.1 (List.mem_filter.1 hi).1
  exact ⟨Int.natCast_nonneg i, by show (i : Int) < _; omega⟩
theorem targets_range {ps : List DPackage} {s : ByteArray} {x : Int} (h : x ∈ targets ps s) : 0 ≤ x ∧ x < ps.length := by
  unfold targets at h
  split at h
  · rw [List.mem_singleton] at h
    subst h
    exact ⟨by assumption, findI_lt ps s⟩
  · exact prov_range h
/-- A package is one that the roots, or the depends of the packages in 'inn', may mean. -/
def Asked (ps : List DPackage) (rs : List DRoot) (inn : Nat → Prop) (x : Int) : Prop :=
  (∃ r ∈ rs, x ∈ targets ps r.spec.name) ∨ ∃ k, ∃ hk : k < ps.length, inn k ∧ ∃ d ∈ ps[k].depends, x ∈ targets ps d.on_.name
theorem Asked.mono {ps : List DPackage} {rs : List DRoot} {p q : Nat → Prop} {x : Int} (h : Asked ps rs p x) (hpq : ∀ k, p k → q k) : Asked ps rs q x := by
  rcases h with h | ⟨k, hk, hp, h⟩
  · exact .inl h
  · exact .inr ⟨k, hk, hpq k hp, h⟩
theorem Asked.range {ps : List DPackage} {rs : List DRoot} {p : Nat → Prop} {x : Int} (h : Asked ps rs p x) : 0 ≤ x ∧ x < ps.length := by
  rcases h with ⟨_, _, h⟩ | ⟨_, _, _, _, _, h⟩ <;> exact targets_range h
/-- A package may be needed. -/
inductive Rch (ps : List DPackage) (rs : List DRoot) : Nat → Prop
  | root (r : DRoot) (i : Nat) : r ∈ rs → (i : Int) ∈ targets ps r.spec.name → Rch ps rs i
  | step (k i : Nat) (d : DDepend) (hk : k < ps.length) : Rch ps rs k → d ∈ ps[k].depends → (i : Int) ∈ targets ps d.on_.name → Rch ps rs i
theorem rch_asked {ps : List DPackage} {rs : List DRoot} {p : Nat → Prop} (hp : ∀ k, p k → Rch ps rs k) {i : Nat} (h : Asked ps rs p i) : Rch ps rs i := by
  rcases h with ⟨r, hr, h⟩ | ⟨k, hk, hq, d, hd, h⟩
  · exact .root r i hr h
  · exact .step k i d hk (hp k hq) hd h
theorem rch_closed {ps : List DPackage} {rs : List DRoot} {p : Nat → Prop} (hc : ∀ i : Nat, Asked ps rs p i → p i) {i : Nat} (h : Rch ps rs i) : p i := by
  induction h with
  | root r i hr ht => exact hc i (.inl ⟨r, hr, ht⟩)
  | step k i d hk _ hd ht ih => exact hc i (.inr ⟨k, hk, ih, d, hd, ht⟩)
theorem rch_lt {ps : List DPackage} {rs : List DRoot} {i : Nat} (h : Rch ps rs i) : i < ps.length := by
  cases h with
  | root r i hr ht => have := (targets_range ht).2; omega
  | step k i d hk _ hd ht => have := (targets_range ht).2; omega
open Classical in
/-- The places of the packages that may be needed. -/
noncomputable def cloN (ps : List DPackage) (rs : List DRoot) : List Nat := (List.range ps.length).filter (fun i => decide (Rch ps rs i))
noncomputable def clo (ps : List DPackage) (rs : List DRoot) : List Int := (cloN ps rs).map Int.ofNat
theorem mem_cloN {ps : List DPackage} {rs : List DRoot} {i : Nat} : i ∈ cloN ps rs ↔ Rch ps rs i := by
  classical
  unfold cloN
  rw [List.mem_filter, List.mem_range, decide_eq_true_iff]
  exact ⟨fun h => h.2, fun h => ⟨rch_lt h, h⟩⟩
theorem mem_clo {ps : List DPackage} {rs : List DRoot} {x : Int} : x ∈ clo ps rs ↔ ∃ i : Nat, x = i ∧ Rch ps rs i := by
  unfold clo
  rw [List.mem_map]
  constructor
  · rintro ⟨i, hi, rfl⟩
    exact ⟨i, rfl, mem_cloN.1 hi⟩
  · rintro ⟨i, rfl, hi⟩
    exact ⟨i, mem_cloN.2 hi, rfl⟩
theorem cloN_sorted (ps : List DPackage) (rs : List DRoot) : (cloN ps rs).Pairwise (· < ·) := List.Pairwise.filter _ (List.pairwise_lt_range)
theorem cloN_len (ps : List DPackage) (rs : List DRoot) : (cloN ps rs).length ≤ ps.length := by
  unfold cloN
  exact Nat.le_trans (List.length_filter_le _ _) (by rw [List.length_range]; omega)
theorem clo_len (ps : List DPackage) (rs : List DRoot) : (clo ps rs).length ≤ ps.length := by
  unfold clo
  rw [List.length_map]
  exact cloN_len ps rs
theorem clo_sorted (ps : List DPackage) (rs : List DRoot) : (clo ps rs).Pairwise (· < ·) := by
  unfold clo
  rw [List.pairwise_map]
  exact (cloN_sorted ps rs).imp (fun h => by show (_ : Int) < _; simpa using h)
/-- Two rising lists of the same numbers are one. -/
theorem sorted_unique : ∀ {a b : List Int}, a.Pairwise (· < ·) → b.Pairwise (· < ·) → (∀ x, x ∈ a ↔ x ∈ b) → a = b
  | [], [], _, _, _ => rfl
  | [], y :: b, _, _, h => absurd ((h y).2 (by simp)) (by simp)
  | x :: a, [], _, _, h => absurd ((h x).1 (by simp)) (by simp)
  | x :: a, y :: b, ha, hb, h => by
    rw [List.pairwise_cons] at ha hb
    have hxy : x = y := by
      rcases List.mem_cons.1 ((h x).1 (by simp)) with e | e
      · exact e
      · rcases List.mem_cons.1 ((h y).2 (by simp)) with e' | e'
        · exact e'.symm
        · have := ha.1 y e'; have := hb.1 x e; omega
    subst hxy
    congr 1
    refine sorted_unique ha.2 hb.2 (fun z => ⟨fun hz => ?_, fun hz => ?_⟩)
    · rcases List.mem_cons.1 ((h z).1 (by simp [hz])) with e | e
      · have := ha.1 z hz; omega
      · exact e
    · rcases List.mem_cons.1 ((h z).2 (by simp [hz])) with e | e
      · have := hb.1 z hz; omega
      · exact e
/-- A list that is closed and sound, flag by flag, is the closure. -/
theorem clo_of_flags (ps : List DPackage) (rs : List DRoot) (inn : List Bool) (hl : inn.length = ps.length) (hs : ∀ k, inn.getD k false = true → Rch ps rs k) (hc : ∀ i : Nat, Asked ps rs (fun k => inn.getD k false = true) i → inn.getD i false = true) :
    (((List.range inn.length).filter (fun i => inn.getD i false)).map Int.ofNat) = clo ps rs := by
  classical
  unfold clo cloN
  rw [hl]
  congr 1
  apply List.filter_congr
  intro i _
  rw [Bool.eq_iff_iff, decide_eq_true_iff]
  exact ⟨hs i, rch_closed hc⟩

end
section
set_option maxRecDepth 100000
set_option maxHeartbeats 8000000
theorem OwnI.lit1 (w : World) (B : Nat) (hB : B ≤ w.heap.size) (p : Int) : OwnI (w.alloc (.cells #[.int .i64 p] 3)) B (.slice (some ⟨w.heap.size, 0, none⟩) 1 1) [p] :=
  Kd.R_of_own (own_lit_of (enc := Value.int .i64) w B 3 [p] hB (by simp)) (fun _ _ => trivial)
theorem OwnI.lower {w : World} {B B' : Nat} {v : Value} {xs : List Int} (h : OwnI w B v xs) (hb : B' ≤ B) : OwnI w B' v xs := Kd.R_lower h hb
def hasI (l : List Int) (x : Int) : Bool := l.any (fun y => y == x)
theorem hasI_iff {l : List Int} {x : Int} : hasI l x = true ↔ x ∈ l := by
  unfold hasI
  rw [List.any_eq_true]
  exact ⟨fun ⟨y, hy, e⟩ => by rw [beq_iff_eq] at e; subst e; exact hy, fun h => ⟨x, h, by simp⟩⟩
theorem Has10_same (w : World) (A : Option Addr) (c : Nat) (l : List Int) (s : Int) (h : Kd.C (Kd.int .i64) w A l.length l) :
   Calls Tryz.prog 24 #[.slice A l.length c, .int .i64 s] w (fun e w' => e = .returned (.bool (hasI l s)) ∧ w' = w) := by
  have hm := Kd.C_max h
  have H := Aside0.mk h
  clear h
  go_enter Tryz.func24, Tryz.ntmps24
  go_wp2
  go_loop [8] (fun i => ∃ k : Nat, k ≤ l.length ∧ i = .int .i64 k ∧ Aside0 (∀ j, (hj : j < l.length) → j < k → (l[j] == s) = false)) (fun i => l.length - (intOf i).toNat)
  case atStart => exact ⟨0, by omega, rfl, ⟨fun j _ hj => by omega⟩⟩
  case round =>
    obtain ⟨k, hk, rfl, hno⟩ := hrel
    by_cases hlt : k < l.length
    · obtain ⟨ad, e, h0⟩ := at_i64 H.out k hlt
      subst e
      cases he : (l[k] == s)
      · have HE := Aside0.mk he
        go_wp2
        go_round
        case rel => exact ⟨k + 1, by omega, by go_num, ⟨fun j hj hjk => by
          by_cases e : j = k
          · subst e; exact HE.out
          · exact hno.out j hj (by omega)⟩⟩
        case measure => simp [intOf] <;> omega
      · have HE := Aside0.mk he
        go_wp2
        go_ret
        exact ⟨ret_bool (List.any_eq_true.2 ⟨l[k], List.getElem_mem hlt, HE.out⟩).symm, rfl⟩
    · go_wp2
      go_ret
      refine ⟨ret_bool (Eq.symm ?_), rfl⟩
      rw [hasI, List.any_eq_false]
      intro x hx
      obtain ⟨j, hj, rfl⟩ := List.getElem_of_mem hx
      rw [hno.out j hj (by omega)]
      simp
theorem Targets_calls (w : World) (A : Option Addr) (c : Nat) (ps : List DPackage) (A2 : Option Addr) (n2 c2 : Nat) (s : ByteArray) (h : Kd.C kPackage w A ps.length ps) (hps : ps.length < 1000000000000) :
   Calls Tryz.prog 57 #[.agg #[.slice A ps.length c, .slice A2 n2 c2], .string s] w (RetI w (targets ps s)) := by
  have H := Aside0.mk h
  clear h
  have HF := Aside0.mk (Fr1.mk0 w 25 #[.slice A ps.length c, .slice A2 n2 c2])
  have HT : Aside0 (targets ps s = if 0 ≤ findI ps s then [findI ps s] else prov ps s) := ⟨rfl⟩
  go_enter Tryz.func57, Tryz.ntmps57
  go_wp2_with fail
  refine (Find_calls _ _ _ _ _ _ _ _ (Kd.C_alloc H.out _)).mono ?_
  rintro e w1 ⟨rfl, hb⟩
  replace HF := Aside0.mk (HF.out.step hb)
  clear hb
  obtain ⟨x0, x1⟩ := cells2 HF.out.b0
  by_cases hf : 0 ≤ findI ps s
  · go_wp2_with fail
    go_ret
    refine ⟨_, rfl, ?_, below_alloc HF.out.below _⟩
    rw [HT.out, if_pos hf]
    exact OwnI.lit1 w1 _ HF.out.below.size _
  · go_wp2_with fail
    refine (Providers_calls _ _ _ _ _ _ _ _ (Kd.C_below H.out HF.out.below) hps).mono ?_
    rintro e w2 ⟨v, rfl, hO, hb⟩
    go_wp2_with fail
    go_ret
    refine ⟨_, rfl, ?_, below_step HF.out.below hb⟩
    rw [HT.out, if_neg (by omega)]
    exact hO.lower HF.out.below.size

end
end Go.Proofs.YtbahanlnkikpeaaGreat
