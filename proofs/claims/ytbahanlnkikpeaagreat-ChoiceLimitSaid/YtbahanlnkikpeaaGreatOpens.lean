import Derived.ChangeArms
import Derived.Deep.Slices
import Derived.Test.YtbahanlnkikpeaaGreatKinds
namespace Go.Proofs.YtbahanlnkikpeaaGreat
open Go.RowKit Go.Proofs.YtbahanlnkikpeaaGreatW.PrintWords Go.Proofs.YtbahanlnkikpeaaGreatW.PrintLast
set_option linter.unusedVariables false
set_option linter.unusedSimpArgs false
open Go.ChangeShapes Go.Deep
set_option maxRecDepth 100000
/-! What an argument's reading says of its cells, kind by kind. -/
def Opens {α : Type} (t : TypeId) (d : Kd α) : Prop := ∀ {H : Type} (enc : TypeId × Value → H) (w : World) (fuel : Nat) (cs : List Value) (x : DataW H × List MemPlace), DataW.trod enc Tryz.prog w 0 (fun _ => true) true fuel t cs = some x → ∃ a, d.K w a cs
theorem opens_int {t : TypeId} {k : IntKind} (ht : (Tryz.prog).underlying t = some (.int k)) : Opens t (Kd.int k) := by
  intro H enc w fuel cs x h
  obtain ⟨n, rfl, -, -⟩ := DataW.trod_int ht h
  exact ⟨n, rfl⟩
theorem opens_bool {t : TypeId} (ht : (Tryz.prog).underlying t = some .bool) : Opens t Kd.bool := by
  intro H enc w fuel cs x h
  obtain ⟨n, rfl, -⟩ := DataW.trod_bool ht h
  exact ⟨n, rfl⟩
theorem opens_string {t : TypeId} (ht : (Tryz.prog).underlying t = some .string) : Opens t Kd.string := by
  intro H enc w fuel cs x h
  obtain ⟨n, rfl, -, -⟩ := DataW.trod_string ht h
  exact ⟨n, rfl⟩
theorem list_choose {α : Type} {n : Nat} {p : Nat → α → Prop} (h : ∀ i, i < n → ∃ a, p i a) : ∃ xs : List α, xs.length = n ∧ ∀ i a, xs[i]? = some a → p i a := by
  classical
  refine ⟨List.ofFn (fun i : Fin n => Classical.choose (h i.1 i.2)), by simp, fun i a ha => ?_⟩
  obtain ⟨hi, e⟩ := List.getElem?_eq_some_iff.1 ha
  simp at hi
  rw [List.getElem_ofFn] at e
  rw [← e]
  exact Classical.choose_spec (h i hi)
theorem opens_slice {α : Type} {t e : TypeId} {d : Kd α} (ht : (Tryz.prog).underlying t = some (.slice e)) (hc : (Tryz.prog).cellsOf e = d.sz) (h : Opens e d) : Opens t (Kd.slice e d) := by
  intro H enc w fuel cs x hx
  rcases open_slice ht hx with ⟨rfl, -⟩ | ⟨a, len, cap, m, n, D, Pl, rfl, -, hl, hm, hmm, -, hel⟩
  · exact ⟨[], none, 0, rfl, Nat.le_refl _, rfl, by simp, fun h => absurd h (by simp)⟩
  · simp only [if_true] at hmm
    subst hmm
    obtain ⟨xs, hxl, hxs⟩ := list_choose (n := len) (p := fun i (a0 : α) => ∃ cs', d.K w a0 cs' ∧ ∀ j u, cs'[j]? = some u → w.cell? (a.add (i * d.sz + j)) = some u) (fun i hi => by
      obtain ⟨cs', hcs, htr⟩ := hel i (by omega)
      obtain ⟨a0, ha0⟩ := h enc w n cs' _ htr
      obtain ⟨-, hlen, hcell⟩ := World.cells?_some hcs
      refine ⟨a0, cs', ha0, fun j u hu => ?_⟩
      have hj := (List.getElem?_eq_some_iff.1 hu).1
      rw [← hu, ← hcell j (by omega), Deep.add_add, hc])
    refine ⟨xs, some a, m, by rw [hxl], by omega, rfl, by simp only [maxLen] at hm; omega, fun _ => ⟨a, rfl, fun j p hj => ?_⟩⟩
    obtain ⟨cs', hk, hcell⟩ := hxs j p hj
    exact ⟨cs', d.K_len hk, hk, hcell⟩
theorem field_K {α : Type} {H : Type} {enc : TypeId × Value → H} {w : World} {d : Kd α} {n : Nat} {cs : List Value} {fs : Array Field} {xs : List (DataW H × List MemPlace)} (hx : xs.length = fs.size)
    (hf : ∀ (i : Nat) (f : Field), fs[i]? = some f → DataW.trod enc Tryz.prog w 0 (fun _ => true) true n f.type ((cs.drop f.offset).take ((Tryz.prog).cellsOf f.type)) = xs[i]?) (i : Nat) (f : Field) (hi : fs[i]? = some f) (ho : Opens f.type d) (hs : (Tryz.prog).cellsOf f.type = d.sz) :
    ∃ a, d.K w a ((cs.drop f.offset).take d.sz) := by
  have h := hf i f hi
  have hl : i < xs.length := by rw [hx]; exact (Array.getElem?_eq_some_iff.1 hi).1
  rw [List.getElem?_eq_getElem hl, hs] at h
  exact ho enc w n _ _ h
theorem chain_pair {α β : Type} {w : World} {a : Kd α} {b : Kd β} {cs : List Value} {o : Nat} (h0 : ∃ x, a.K w x ((cs.drop o).take a.sz)) (h1 : ∃ y, b.K w y (cs.drop (o + a.sz))) : ∃ z, (Kd.pair a b).K w z (cs.drop o) := by
  obtain ⟨x, hx⟩ := h0
  obtain ⟨y, hy⟩ := h1
  exact ⟨(x, y), _, _, by rw [← List.drop_drop, List.take_append_drop], hx, hy⟩
theorem chain_last {α : Type} {w : World} {a : Kd α} {cs : List Value} {o : Nat} (h0 : ∃ x, a.K w x ((cs.drop o).take a.sz)) (hl : cs.length = o + a.sz) : ∃ x, a.K w x (cs.drop o) := by
  obtain ⟨x, hx⟩ := h0
  rw [List.take_of_length_le (by rw [List.length_drop]; omega)] at hx
  exact ⟨x, hx⟩
theorem opens_Span : Opens 86 kSpan := by
  intro H enc w fuel cs x h
  obtain ⟨xs, n, rfl, -, hl, hx, hf⟩ := DataW.trod_struct Tryz.underlying86 h
  replace hl : cs.length = kSpan.sz := hl.trans (by kernel_rfl)
  obtain ⟨z, hz⟩ := (chain_pair (o := 0) (field_K (d := Kd.string) hx hf 0 _ rfl (opens_string Tryz.underlying9) (by kernel_rfl)) (chain_last (field_K (d := Kd.string) hx hf 1 _ rfl (opens_string Tryz.underlying9) (by kernel_rfl)) (hl.trans (by rfl))))
  exact ⟨⟨z.1, z.2⟩, hz⟩
theorem opens_Setting : Opens 153 kSetting := by
  intro H enc w fuel cs x h
  obtain ⟨xs, n, rfl, -, hl, hx, hf⟩ := DataW.trod_struct Tryz.underlying153 h
  replace hl : cs.length = kSetting.sz := hl.trans (by kernel_rfl)
  obtain ⟨z, hz⟩ := (chain_pair (o := 0) (field_K (d := Kd.string) hx hf 0 _ rfl (opens_string Tryz.underlying9) (by kernel_rfl)) (chain_last (field_K (d := Kd.string) hx hf 1 _ rfl (opens_string Tryz.underlying9) (by kernel_rfl)) (hl.trans (by rfl))))
  exact ⟨⟨z.1, z.2⟩, hz⟩
theorem opens_Release : Opens 84 kRelease := by
  intro H enc w fuel cs x h
  obtain ⟨xs, n, rfl, -, hl, hx, hf⟩ := DataW.trod_struct Tryz.underlying84 h
  replace hl : cs.length = kRelease.sz := hl.trans (by kernel_rfl)
  obtain ⟨z, hz⟩ := (chain_pair (o := 0) (field_K (d := Kd.string) hx hf 0 _ rfl (opens_string Tryz.underlying9) (by kernel_rfl)) (chain_last (field_K (d := Kd.bool) hx hf 1 _ rfl (opens_bool Tryz.underlying4) (by kernel_rfl)) (hl.trans (by rfl))))
  exact ⟨⟨z.1, z.2⟩, hz⟩
theorem opens_Variant : Opens 99 kVariant := by
  intro H enc w fuel cs x h
  obtain ⟨xs, n, rfl, -, hl, hx, hf⟩ := DataW.trod_struct Tryz.underlying99 h
  replace hl : cs.length = kVariant.sz := hl.trans (by kernel_rfl)
  obtain ⟨z, hz⟩ := (chain_pair (o := 0) (field_K (d := Kd.string) hx hf 0 _ rfl (opens_string Tryz.underlying9) (by kernel_rfl)) (chain_last (field_K (d := (Kd.slice 9 Kd.string)) hx hf 1 _ rfl (opens_slice Tryz.underlying39 (by kernel_rfl) (opens_string Tryz.underlying9)) (by kernel_rfl)) (hl.trans (by rfl))))
  exact ⟨⟨z.1, z.2⟩, hz⟩
theorem opens_Spec : Opens 49 kSpec := by
  intro H enc w fuel cs x h
  obtain ⟨xs, n, rfl, -, hl, hx, hf⟩ := DataW.trod_struct Tryz.underlying49 h
  replace hl : cs.length = kSpec.sz := hl.trans (by kernel_rfl)
  obtain ⟨z, hz⟩ := (chain_pair (o := 0) (field_K (d := Kd.string) hx hf 0 _ rfl (opens_string Tryz.underlying9) (by kernel_rfl)) (chain_pair (field_K (d := (Kd.slice 86 kSpan)) hx hf 1 _ rfl (opens_slice Tryz.underlying46 (by kernel_rfl) opens_Span) (by kernel_rfl)) (chain_last (field_K (d := (Kd.slice 153 kSetting)) hx hf 2 _ rfl (opens_slice Tryz.underlying47 (by kernel_rfl) opens_Setting) (by kernel_rfl)) (hl.trans (by rfl)))))
  exact ⟨⟨z.1, z.2.1, z.2.2⟩, hz⟩
theorem opens_Depend : Opens 53 kDepend := by
  intro H enc w fuel cs x h
  obtain ⟨xs, n, rfl, -, hl, hx, hf⟩ := DataW.trod_struct Tryz.underlying53 h
  replace hl : cs.length = kDepend.sz := hl.trans (by kernel_rfl)
  obtain ⟨z, hz⟩ := (chain_pair (o := 0) (field_K (d := kSpec) hx hf 0 _ rfl opens_Spec (by kernel_rfl)) (chain_pair (field_K (d := kSpec) hx hf 1 _ rfl opens_Spec (by kernel_rfl)) (chain_last (field_K (d := (Kd.int .i64)) hx hf 2 _ rfl (opens_int Tryz.underlying3) (by kernel_rfl)) (hl.trans (by rfl)))))
  exact ⟨⟨z.1, z.2.1, z.2.2⟩, hz⟩
theorem opens_Conflict : Opens 55 kConflict := by
  intro H enc w fuel cs x h
  obtain ⟨xs, n, rfl, -, hl, hx, hf⟩ := DataW.trod_struct Tryz.underlying55 h
  replace hl : cs.length = kConflict.sz := hl.trans (by kernel_rfl)
  obtain ⟨z, hz⟩ := (chain_pair (o := 0) (field_K (d := kSpec) hx hf 0 _ rfl opens_Spec (by kernel_rfl)) (chain_pair (field_K (d := kSpec) hx hf 1 _ rfl opens_Spec (by kernel_rfl)) (chain_last (field_K (d := (Kd.int .i64)) hx hf 2 _ rfl (opens_int Tryz.underlying3) (by kernel_rfl)) (hl.trans (by rfl)))))
  exact ⟨⟨z.1, z.2.1, z.2.2⟩, hz⟩
theorem opens_Package : Opens 43 kPackage := by
  intro H enc w fuel cs x h
  obtain ⟨xs, n, rfl, -, hl, hx, hf⟩ := DataW.trod_struct Tryz.underlying43 h
  replace hl : cs.length = kPackage.sz := hl.trans (by kernel_rfl)
  obtain ⟨z, hz⟩ := (chain_pair (o := 0) (field_K (d := Kd.string) hx hf 0 _ rfl (opens_string Tryz.underlying9) (by kernel_rfl)) (chain_pair (field_K (d := (Kd.int .i64)) hx hf 1 _ rfl (opens_int Tryz.underlying3) (by kernel_rfl)) (chain_pair (field_K (d := (Kd.slice 84 kRelease)) hx hf 2 _ rfl (opens_slice Tryz.underlying37 (by kernel_rfl) opens_Release) (by kernel_rfl)) (chain_pair (field_K (d := (Kd.slice 99 kVariant)) hx hf 3 _ rfl (opens_slice Tryz.underlying38 (by kernel_rfl) opens_Variant) (by kernel_rfl)) (chain_pair (field_K (d := (Kd.slice 9 Kd.string)) hx hf 4 _ rfl (opens_slice Tryz.underlying39 (by kernel_rfl) (opens_string Tryz.underlying9)) (by kernel_rfl)) (chain_pair (field_K (d := (Kd.slice 53 kDepend)) hx hf 5 _ rfl (opens_slice Tryz.underlying40 (by kernel_rfl) opens_Depend) (by kernel_rfl)) (chain_pair (field_K (d := (Kd.slice 55 kConflict)) hx hf 6 _ rfl (opens_slice Tryz.underlying41 (by kernel_rfl) opens_Conflict) (by kernel_rfl)) (chain_last (field_K (d := (Kd.slice 9 Kd.string)) hx hf 7 _ rfl (opens_slice Tryz.underlying39 (by kernel_rfl) (opens_string Tryz.underlying9)) (by kernel_rfl)) (hl.trans (by rfl))))))))))
  exact ⟨⟨z.1, z.2.1, z.2.2.1, z.2.2.2.1, z.2.2.2.2.1, z.2.2.2.2.2.1, z.2.2.2.2.2.2.1, z.2.2.2.2.2.2.2⟩, hz⟩
theorem opens_Prefer : Opens 118 kPrefer := by
  intro H enc w fuel cs x h
  obtain ⟨xs, n, rfl, -, hl, hx, hf⟩ := DataW.trod_struct Tryz.underlying118 h
  replace hl : cs.length = kPrefer.sz := hl.trans (by kernel_rfl)
  obtain ⟨z, hz⟩ := (chain_pair (o := 0) (field_K (d := Kd.string) hx hf 0 _ rfl (opens_string Tryz.underlying9) (by kernel_rfl)) (chain_pair (field_K (d := (Kd.slice 9 Kd.string)) hx hf 1 _ rfl (opens_slice Tryz.underlying39 (by kernel_rfl) (opens_string Tryz.underlying9)) (by kernel_rfl)) (chain_last (field_K (d := (Kd.int .i64)) hx hf 2 _ rfl (opens_int Tryz.underlying3) (by kernel_rfl)) (hl.trans (by rfl)))))
  exact ⟨⟨z.1, z.2.1, z.2.2⟩, hz⟩
theorem opens_Root : Opens 51 kRoot := by
  intro H enc w fuel cs x h
  obtain ⟨xs, n, rfl, -, hl, hx, hf⟩ := DataW.trod_struct Tryz.underlying51 h
  replace hl : cs.length = kRoot.sz := hl.trans (by kernel_rfl)
  obtain ⟨z, hz⟩ := (chain_pair (o := 0) (field_K (d := kSpec) hx hf 0 _ rfl opens_Spec (by kernel_rfl)) (chain_last (field_K (d := (Kd.int .i64)) hx hf 1 _ rfl (opens_int Tryz.underlying3) (by kernel_rfl)) (hl.trans (by rfl))))
  exact ⟨⟨z.1, z.2⟩, hz⟩
theorem opens_Recipe : Opens 25 kRecipe := by
  intro H enc w fuel cs x h
  obtain ⟨xs, n, rfl, -, hl, hx, hf⟩ := DataW.trod_struct Tryz.underlying25 h
  replace hl : cs.length = kRecipe.sz := hl.trans (by kernel_rfl)
  obtain ⟨z, hz⟩ := (chain_pair (o := 0) (field_K (d := (Kd.slice 43 kPackage)) hx hf 0 _ rfl (opens_slice Tryz.underlying22 (by kernel_rfl) opens_Package) (by kernel_rfl)) (chain_last (field_K (d := (Kd.slice 118 kPrefer)) hx hf 1 _ rfl (opens_slice Tryz.underlying23 (by kernel_rfl) opens_Prefer) (by kernel_rfl)) (hl.trans (by rfl))))
  exact ⟨⟨z.1, z.2⟩, hz⟩
theorem opens_Request : Opens 28 kRequest := by
  intro H enc w fuel cs x h
  obtain ⟨xs, n, rfl, -, hl, hx, hf⟩ := DataW.trod_struct Tryz.underlying28 h
  replace hl : cs.length = kRequest.sz := hl.trans (by kernel_rfl)
  obtain ⟨z, hz⟩ := (chain_last (o := 0) (field_K (d := (Kd.slice 51 kRoot)) hx hf 0 _ rfl (opens_slice Tryz.underlying26 (by kernel_rfl) opens_Root) (by kernel_rfl)) (hl.trans (by rfl)))
  exact ⟨⟨z⟩, hz⟩

end Go.Proofs.YtbahanlnkikpeaaGreat
