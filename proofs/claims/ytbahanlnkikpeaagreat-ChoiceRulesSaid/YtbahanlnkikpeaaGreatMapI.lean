import Derived.Maps.OwnSet
import Derived.Maps.OwnOps
import Derived.Test.YtbahanlnkikpeaaGreatSortG
namespace Go.Proofs.YtbahanlnkikpeaaGreat
open Go.RowKit Go.Proofs.YtbahanlnkikpeaaGreatW.PrintWords Go.Proofs.YtbahanlnkikpeaaGreatW.PrintLast
set_option linter.unusedVariables false
set_option linter.unusedSimpArgs false
open Go.RowKit Go.Maps Go.Sort Go.Shelf
/-! A map from numbers to numbers, and what the closure keeps in it. -/
abbrev DM := DataW Unit
def MapI (w : World) (b n : Nat) (D : DM) : Prop := w.ownsMap Tryz.prog 3 (plainElem Tryz.prog 3) b n D
theorem keyedI : Keyed Tryz.prog 3 := int_keyed Tryz.underlying3
theorem zeroI (w : World) : (zeroValue 3).run Tryz.prog w = .ok (.int .i64 0) w := by kernel_rfl
theorem wf_small {x : Int} (h0 : 0 ≤ x) (h1 : x < 1000000) : (Lit.int .i64 x).wf = true := by
  have hm : IntKind.i64.min = -9223372036854775808 := by decide
  have hx : IntKind.i64.max = 9223372036854775807 := by decide
  simp only [Lit.wf, hm, hx, Bool.and_eq_true, decide_eq_true_eq]
  omega
/-- The map counts how often a place was named, at most n times in all; S holds the places named. -/
def Cnt (D : DM) (S : List Int) (n : Nat) : Prop :=
  ∀ x : Int, ∃ c : Nat, D.atKey (.int .i64 x) (.lit (.int .i64 0)) = .lit (.int .i64 c) ∧ c ≤ n ∧ (c = 0 ↔ x ∉ S) ∧ (Maps.has D (.int .i64 x) = true ↔ x ∈ S)
theorem cnt_nil : Cnt (.map []) [] 0 := fun x => ⟨0, rfl, Nat.le_refl _, by simp, by simp [Maps.has]⟩
theorem keylit {x : Int} : WideAt.IsKeyLit (.int .i64 x) := trivial
/-- Named once more. -/
theorem cnt_put {D : DM} {S : List Int} {n : Nat} (hm : IsMap D) (h : Cnt D S n) {x : Int} {c : Nat} (hc : D.atKey (.int .i64 x) (.lit (.int .i64 0)) = .lit (.int .i64 c)) :
    Cnt (D.put (.int .i64 x) (.lit (.int .i64 ((c : Int) + 1)))) (if x ∈ S then S else x :: S) (n + 1) := by
  intro y
  have hS : ∀ z : Int, z ∈ (if x ∈ S then S else x :: S) ↔ z = x ∨ z ∈ S := by
    intro z
    split
    · exact ⟨.inr, fun h => h.elim (fun e => e ▸ (by assumption)) id⟩
    · exact List.mem_cons
  rw [hS]
  by_cases e : y = x
  · subst e
    obtain ⟨c', hc', hn, -, -⟩ := h y
    have : c = c' := by rw [hc] at hc'; simp at hc'; omega
    subst this
    exact ⟨c + 1, by rw [atKey_put_same hm keylit]; simp, by omega, by simp, by rw [has_put_same hm keylit]; simp⟩
  · obtain ⟨c', hc', hn, h2, h3⟩ := h y
    have hne : (Lit.int .i64 y) ≠ (Lit.int .i64 x) := by intro he; injection he; exact e (by assumption)
    exact ⟨c', by rw [atKey_put_other hne]; exact hc', by omega, by rw [h2]; simp [e], by rw [has_put_other hne, h3]; simp [e]⟩
/-- The keys of the map are the places named. -/
theorem cnt_keys {w : World} {b n m : Nat} {D : DM} {S : List Int} (hown : MapI w b m D) (h : Cnt D S n) (hS : S.Nodup) : S.Perm (intKeys D) := by
  refine CollectedI.perm (left := fun _ => false) ⟨hS, fun x => ?_⟩ hown keyedI Tryz.underlying3 (fun _ => rfl)
  obtain ⟨_, _, _, _, h4⟩ := h x
  rw [h4]; simp
theorem keys_calls (m : Nat) (W : World) : Calls Tryz.prog 56 #[.map (some m)] W (fun e w' => e = .returned (.func (.func 83) #[] #[.pointer (some ⟨W.heap.size, 0, none⟩)]) ∧ w' = W.alloc (.cells #[.map (some m)] 125)) :=
  (callsIn_wide (n := 6)).1 (AnyZI.keys_in Tryz.keysA Fence.wide 6 trivial rfl (some m) W)
theorem sortsI (m : Nat) : AnyZI.SortsIn Tryz.prog Tryz.sortedA_ren Fence.wide m :=
  ⟨fun blk off cap ss W hH hblk hsz => callsIn_wide.2 (AnyM.slices_Sort_int Tryz.sortA blk off cap ss W hH hblk hsz),
   fun p cap W => callsIn_wide.2 (AnyM.slices_Sort_int_none Tryz.sortA p cap W)⟩
theorem cnt_sort {ss S : List Int} (h : ss.Perm S) (hS : S.Nodup) {ps : List DPackage} {rs : List DRoot} (hm : ∀ x, x ∈ S ↔ x ∈ clo ps rs) : ss.mergeSort (fun x y => decide (x ≤ y)) = clo ps rs := by
  have tr : ∀ a b c : Int, decide (a ≤ b) = true → decide (b ≤ c) = true → decide (a ≤ c) = true := fun a b c h1 h2 => by simp only [decide_eq_true_eq] at *; exact Int.le_trans h1 h2
  have tot : ∀ a b : Int, (decide (a ≤ b) || decide (b ≤ a)) = true := fun a b => by simp only [Bool.or_eq_true, decide_eq_true_eq]; exact Int.le_total a b
  have hp : (ss.mergeSort (fun x y => decide (x ≤ y))).Perm S := (List.mergeSort_perm ss _).trans h
  have hnd : (ss.mergeSort (fun x y => decide (x ≤ y))).Nodup := hp.nodup_iff.2 hS
  refine sorted_unique ?_ (clo_sorted ps rs) (fun x => by rw [hp.mem_iff, hm])
  have hle := List.pairwise_mergeSort tr tot ss
  exact (hle.and hnd).imp (fun ⟨h1, h2⟩ => by simp only [decide_eq_true_eq] at h1; omega)
/-- slices.Sorted of the map's keys. -/
theorem sorted_calls (m n nn : Nat) (D : DM) (S : List Int) (W : World) (hown : MapI W m nn D) (hc : Cnt D S n) (hS : S.Nodup) (hl : S.length ≤ 1000) (ps : List DPackage) (rs : List DRoot) (hm : ∀ x, x ∈ S ↔ x ∈ clo ps rs) :
    Calls Tryz.prog 55 #[.func (.func 83) #[] #[.pointer (some ⟨W.heap.size, 0, none⟩)]] (W.alloc (.cells #[.map (some m)] 125)) (RetI (W.alloc (.cells #[.map (some m)] 125)) (clo ps rs)) := by
  refine (callsIn_wide (n := 6)).1 ?_
  have hbl := hown.lt
  have hsz : Maps.size D ≤ 1000 := by
    have h1 := (cnt_keys hown hc hS).length_eq
    have h2 : (intKeys D).length = Maps.size D := by
      obtain ⟨es, rfl, -⟩ := hown.entries keyedI
      simp [intKeys, Maps.size]
    omega
  have hseq : SeqGives Fence.wide 3 Tryz.prog 83 #[.pointer (some ⟨W.heap.size, 0, none⟩)] encZ (fun ss => ss.Perm (intKeys D)) (Maps.size D) (W.alloc (.cells #[.map (some m)] 125)) :=
    AnyZI.keys_gives (ρ := Tryz.keysA_ren) { Tryz.keysA with } Fence.wide _ trivial rfl (by omega) W.heap.size m nn D _ (by simp) (by simp) (by
      obtain ⟨es, clock, hb, Ft, hs, hD⟩ := hown
      exact ⟨es, clock, (Below.heap_alloc _ _ m hbl).trans hb, Ft, hs, hD⟩)
  have cS := AnyZI.sorted_in Tryz.sortedA Fence.wide 6 trivial trivial trivial trivial rfl (by omega) (sortsI _) (enters_of Tryz.func82 (by kernel_rfl) rfl) 83 #[.pointer (some ⟨W.heap.size, 0, none⟩)] trivial (enters_of Tryz.func83 (by kernel_rfl) rfl) _ _ (show Maps.size D ≤ maxLen by simp only [maxLen]; omega) (by omega) _ hseq
  change CallsIn _ _ Tryz.prog 55 _ _ _ at cS
  refine cS.mono ?_
  rintro e w' ⟨v, ss, rfl, hp, hrow, hnil, hb⟩
  have hh := cnt_sort (hp.trans (cnt_keys hown hc hS).symm) hS hm
  have hl2 : ss.length = (clo ps rs).length := by rw [← hh, List.length_mergeSort]
  rw [hh, hl2] at hrow
  exact ⟨v, rfl, Kd.R_of_own hrow (fun _ _ => trivial), hb⟩

end Go.Proofs.YtbahanlnkikpeaaGreat
