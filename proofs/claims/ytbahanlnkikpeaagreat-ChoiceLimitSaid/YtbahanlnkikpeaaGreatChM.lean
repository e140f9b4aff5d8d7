import Derived.Test.YtbahanlnkikpeaaGreatChoS
import Derived.Test.YtbahanlnkikpeaaGreatRef12b
import Derived.Test.YtbahanlnkikpeaaGreatModelW
namespace Go.Proofs.YtbahanlnkikpeaaGreat
open Go.RowKit Go.Proofs.YtbahanlnkikpeaaGreatW.PrintWords Go.Proofs.YtbahanlnkikpeaaGreatW.PrintLast
set_option linter.unusedVariables false
set_option linter.unusedSimpArgs false
section
set_option maxRecDepth 100000
/-! The plain law of the first part: which clauses hold. -/
theorem any_perm {α : Type} {p : α → Bool} {l l' : List α} (h : l.Perm l') : l.any p = l'.any p := by
  rw [Bool.eq_iff_iff, List.any_eq_true, List.any_eq_true]
  exact ⟨fun ⟨x, hx, hp⟩ => ⟨x, h.mem_iff.1 hx, hp⟩, fun ⟨x, hx, hp⟩ => ⟨x, h.mem_iff.2 hx, hp⟩⟩
theorem holds_add {m : List Bool} {b : BS} {l : List Int} (h : b.l.length < 262144) : holds12 m (b.add l).l = (holds12 m b.l && l.any (so12 m)) ∧ (b.add l).l.length = b.l.length + 1 := by
  unfold BS.add
  rw [if_neg (by omega)]
  refine ⟨?_, by simp⟩
  unfold holds12
  rw [List.all_append]
  simp only [List.all_cons, List.all_nil, Bool.and_true]
  rw [any_perm (isortI_perm l)]
theorem holds_fold {α : Type} {m : List Bool} (f : α → List Int) : ∀ (l : List α) (b : BS), b.l.length + l.length ≤ 262144 →
    holds12 m (l.foldl (fun b y => b.add (f y)) b).l = (holds12 m b.l && l.all (fun y => (f y).any (so12 m))) ∧ (l.foldl (fun b y => b.add (f y)) b).l.length = b.l.length + l.length
  | [], b, _ => by simp
  | x :: l, b, h => by
    rw [List.length_cons] at h
    obtain ⟨h1, h2⟩ := holds_add (m := m) (b := b) (l := f x) (by omega)
    obtain ⟨h3, h4⟩ := holds_fold f l (b.add (f x)) (by omega)
    rw [List.foldl_cons, h3, h1, h4, h2]
    refine ⟨by rw [List.all_cons, Bool.and_assoc], by rw [List.length_cons]; omega⟩
def mostB (m : List Bool) : List Int → Bool
  | [] => true
  | x :: l => l.all (fun y => [-x, -y].any (so12 m)) && mostB m l
theorem holds_most {m : List Bool} (K : Nat) : ∀ (l : List Int) (b : BS), l.length ≤ K → b.l.length + K * l.length ≤ 262144 →
    holds12 m (b.most l).l = (holds12 m b.l && mostB m l) ∧ (b.most l).l.length ≤ b.l.length + K * l.length
  | [], b, _, _ => by simp [BS.most, mostB]
  | x :: l, b, hK, h => by
    rw [List.length_cons] at hK h ⊢
    rw [Nat.mul_succ] at h ⊢
    obtain ⟨h1, h2⟩ := holds_fold (m := m) (fun y => [-x, -y]) l b (by omega)
    obtain ⟨h3, h4⟩ := holds_most K l (l.foldl (fun b y => b.add [-x, -y]) b) (by omega) (by omega)
    unfold BS.most mostB
    rw [h3, h1]
    refine ⟨by rw [Bool.and_assoc], by omega⟩
def oneB (m : List Bool) (node : Int) (row : List Int) : Bool := (decide (node = 0) || decide ((0 : Int) ∈ row)) || ((-node :: row).any (so12 m) && (mostB m row && row.all (fun n => [-n, node].any (so12 m))))
theorem holds_one {m : List Bool} {b : BS} {node : Int} {row : List Int} (hr : row.length ≤ 11) (h : b.l.length + 200 ≤ 262144) :
    holds12 m (b.one node row).l = (holds12 m b.l && oneB m node row) ∧ (b.one node row).l.length ≤ b.l.length + 200 := by
  unfold BS.one oneB
  by_cases hz : node = 0 ∨ (0 : Int) ∈ row
  · rw [if_pos hz]
    refine ⟨?_, by omega⟩
    rcases hz with hz | hz <;> simp [hz]
  · rw [if_neg hz]
    rw [not_or] at hz
    obtain ⟨h1, h2⟩ := holds_add (m := m) (b := b) (l := -node :: row) (by omega)
    obtain ⟨h3, h4⟩ := holds_most (m := m) 11 row (b.add (-node :: row)) hr (by omega)
    obtain ⟨h5, h6⟩ := holds_fold (m := m) (fun n => [-n, node]) row ((b.add (-node :: row)).most row) (by omega)
    rw [h5, h3, h1, h6]
    refine ⟨?_, by omega⟩
    rw [decide_eq_false hz.1, decide_eq_false hz.2, Bool.or_self, Bool.false_or, Bool.and_assoc, Bool.and_assoc]
/-! The table: a number that is told stays. -/
def Told (lim : Nat) (t : TS) (a : DAtom) : Prop := numOf t.l a ≠ 0 ∨ lim ≤ t.l.length
theorem put_num {lim : Nat} (t : TS) (a : DAtom) : numOf (t.put lim a).l a = t.num lim a := by
  by_cases h : t.num lim a = 0
  · rw [h]
    unfold TS.num at h
    by_cases h1 : numOf t.l a ≠ 0
    · rw [if_pos h1] at h; exact absurd h h1
    · rw [if_neg h1] at h
      by_cases h2 : lim ≤ t.l.length
      · unfold TS.put
        rw [if_neg h1, if_pos h2]
        simpa using h1
      · rw [if_neg h2] at h; omega
  · exact num_put h
theorem told_put {lim : Nat} (t : TS) (a : DAtom) : Told lim (t.put lim a) a := by
  by_cases h : t.num lim a = 0
  · right
    unfold TS.num at h
    by_cases h1 : numOf t.l a ≠ 0
    · rw [if_pos h1] at h; exact absurd h h1
    · rw [if_neg h1] at h
      by_cases h2 : lim ≤ t.l.length
      · unfold TS.put
        rw [if_neg h1, if_pos h2]
        exact h2
      · rw [if_neg h2] at h; omega
  · left
    rw [put_num]
    exact h
theorem told_step {lim : Nat} {t : TS} {a b : DAtom} (h : Told lim t a) : numOf (t.put lim b).l a = numOf t.l a ∧ Told lim (t.put lim b) a := by
  rcases h with h | h
  · exact ⟨numOf_put h, .inl (by rw [numOf_put h]; exact h)⟩
  · have : (t.put lim b).l = t.l := by
      unfold TS.put
      rw [if_pos h]
      split <;> rfl
    exact ⟨by rw [this], .inr (by rw [this]; exact h)⟩
theorem told_puts {lim : Nat} {a : DAtom} : ∀ (l : List DAtom) {t : TS}, Told lim t a → numOf (t.puts lim l).l a = numOf t.l a ∧ Told lim (t.puts lim l) a
  | [], _, h => ⟨rfl, h⟩
  | b :: l, t, h => by
    obtain ⟨h1, h2⟩ := told_step (b := b) h
    obtain ⟨h3, h4⟩ := told_puts l h2
    rw [puts_cons, h3, h1]
    exact ⟨rfl, h4⟩
theorem puts_append {lim : Nat} (t : TS) (l l' : List DAtom) : t.puts lim (l ++ l') = (t.puts lim l).puts lim l' := by unfold TS.puts; rw [List.foldl_append]
theorem nums_final {lim : Nat} : ∀ (l : List DAtom) (t : TS) (rest : List DAtom), t.nums lim l = l.map (fun a => (numOf (t.puts lim (l ++ rest)).l a : Int))
  | [], _, _ => rfl
  | b :: l, t, rest => by
    unfold TS.nums
    rw [nums_final l (t.put lim b) rest, List.map_cons, List.cons_append, puts_cons, (told_puts (l ++ rest) (told_put t b)).1, put_num]
/-- A node and a row, by the numbers of the last table. -/
def grpB (F : List DAtom) (m : List Bool) (node : DAtom) (row : List DAtom) : Bool := oneB m (numOf F node) (row.map (fun a => (numOf F a : Int)))
theorem holds_row {lim : Nat} {m : List Bool} {g : GS} {nd : Nat} {node : DAtom} {row : List DAtom} (hn : Told lim g.t node) (hnd : nd = numOf g.t.l node) (hr : row.length ≤ 11) (h : g.b.l.length + 200 ≤ 262144) (rest : List DAtom) :
    holds12 m (g.rowOne lim nd row).b.l = (holds12 m g.b.l && grpB (g.t.puts lim (row ++ rest)).l m node row) ∧ (g.rowOne lim nd row).b.l.length ≤ g.b.l.length + 200 ∧ (g.rowOne lim nd row).t = g.t.puts lim row := by
  have hnum := nums_final (lim := lim) row g.t rest
  obtain ⟨h1, h2⟩ := holds_one (m := m) (b := g.b) (node := (nd : Int)) (row := g.t.nums lim row) (by rw [nums_len]; exact hr) h
  refine ⟨?_, h2, rfl⟩
  show holds12 m (g.b.one nd (g.t.nums lim row)).l = _
  rw [h1]
  unfold grpB
  rw [← hnum, (told_puts (row ++ rest) hn).1, hnd]
def varAtoms (p : Nat) (vs : List DVariant) (n : Nat) : List DAtom := (List.range n).flatMap (fun j => valAs p j (vs.getD j zVariant).values.length)
def varsB (F : List DAtom) (m : List Bool) (p : Nat) (vs : List DVariant) (n : Nat) : Bool := (List.range n).all (fun j => grpB F m (nodeA p) (valAs p j (vs.getD j zVariant).values.length))
theorem valAs_len (p j n : Nat) : (valAs p j n).length = n := by unfold valAs; simp
theorem relAs_len (p n : Nat) : (relAs p n).length = n := by unfold relAs; simp
theorem holds_vars {lim : Nat} {m : List Bool} {g : GS} {nd p : Nat} {vs : List DVariant} (hn : Told lim g.t (nodeA p)) (hnd : nd = numOf g.t.l (nodeA p)) (hv : ∀ j, (vs.getD j zVariant).values.length ≤ 11) : ∀ n, g.b.l.length + 200 * n ≤ 262144 → ∀ rest,
    holds12 m (GS.vars lim nd p g vs n).b.l = (holds12 m g.b.l && varsB (g.t.puts lim (varAtoms p vs n ++ rest)).l m p vs n) ∧ (GS.vars lim nd p g vs n).b.l.length ≤ g.b.l.length + 200 * n ∧ (GS.vars lim nd p g vs n).t = g.t.puts lim (varAtoms p vs n)
  | 0, _, _ => ⟨by simp [GS.vars, varsB], by simp [GS.vars], rfl⟩
  | n + 1, h, rest => by
    have hva : varAtoms p vs (n + 1) = varAtoms p vs n ++ valAs p n (vs.getD n zVariant).values.length := by unfold varAtoms; rw [List.range_succ, List.flatMap_append]; simp
    obtain ⟨h1, h2, h3⟩ := holds_vars hn hnd hv n (by omega) (valAs p n (vs.getD n zVariant).values.length ++ rest)
    obtain ⟨k1, k2⟩ := told_puts (varAtoms p vs n) hn
    obtain ⟨h4, h5, h6⟩ := holds_row (m := m) (g := GS.vars lim nd p g vs n) (nd := nd) (node := nodeA p) (row := valAs p n (vs.getD n zVariant).values.length) (lim := lim) (by rw [h3]; exact k2) (by rw [h3, k1]; exact hnd) (by rw [valAs_len]; exact hv n) (by omega) rest
    rw [vars_succ]
    refine ⟨?_, by omega, by rw [h6, h3, hva, puts_append]⟩
    rw [h4, h1, h3, hva, List.append_assoc, ← puts_append, Bool.and_assoc]
    congr 1
    unfold varsB
    rw [List.range_succ, List.all_append]
    simp
def pkgAtoms (ps : List DPackage) (p : Nat) : List DAtom := nodeA p :: (relAs p (ps.getD p zPackage).releases.length ++ varAtoms p (ps.getD p zPackage).variants (ps.getD p zPackage).variants.length)
def pkgB (F : List DAtom) (m : List Bool) (ps : List DPackage) (p : Nat) : Bool := grpB F m (nodeA p) (relAs p (ps.getD p zPackage).releases.length) && varsB F m p (ps.getD p zPackage).variants (ps.getD p zPackage).variants.length
structure PkL (k : DPackage) : Prop where
  rel : k.releases.length ≤ 10
  vars : k.variants.length ≤ 4
  vals : ∀ j, (k.variants.getD j zVariant).values.length ≤ 4
theorem holds_pkg {lim : Nat} {m : List Bool} {ps : List DPackage} {g : GS} {p : Nat} (hk : PkL (ps.getD p zPackage)) (h : g.b.l.length + 1000 ≤ 262144) (rest : List DAtom) :
    holds12 m (GS.pkg lim ps g p).b.l = (holds12 m g.b.l && pkgB (g.t.puts lim (pkgAtoms ps p ++ rest)).l m ps p) ∧ (GS.pkg lim ps g p).b.l.length ≤ g.b.l.length + 1000 ∧ (GS.pkg lim ps g p).t = g.t.puts lim (pkgAtoms ps p) := by
  have hvl := hk.vars
  have e : GS.pkg lim ps g p = GS.vars lim (g.t.num lim (nodeA p) : Nat) p ((⟨g.t.put lim (nodeA p), g.b⟩ : GS).rowOne lim (g.t.num lim (nodeA p) : Nat) (relAs p (ps.getD p zPackage).releases.length)) (ps.getD p zPackage).variants (ps.getD p zPackage).variants.length := rfl
  unfold pkgAtoms pkgB
  rw [e]
  generalize ps.getD p zPackage = k at *
  obtain ⟨h1, h2, h3⟩ := holds_row (m := m) (g := ⟨g.t.put lim (nodeA p), g.b⟩) (nd := g.t.num lim (nodeA p)) (node := nodeA p) (row := relAs p k.releases.length) (lim := lim) (told_put _ _) (put_num _ _).symm (by rw [relAs_len]; have := hk.rel; omega) (by show g.b.l.length + 200 ≤ _; omega) (varAtoms p k.variants k.variants.length ++ rest)
  generalize ((⟨g.t.put lim (nodeA p), g.b⟩ : GS).rowOne lim (g.t.num lim (nodeA p) : Nat) (relAs p k.releases.length)) = g1 at *
  replace h1 : holds12 m g1.b.l = (holds12 m g.b.l && grpB ((g.t.put lim (nodeA p)).puts lim (relAs p k.releases.length ++ (varAtoms p k.variants k.variants.length ++ rest))).l m (nodeA p) (relAs p k.releases.length)) := h1
  replace h2 : g1.b.l.length ≤ g.b.l.length + 200 := h2
  replace h3 : g1.t = (g.t.put lim (nodeA p)).puts lim (relAs p k.releases.length) := h3
  obtain ⟨k1, k2⟩ := told_puts (relAs p k.releases.length) (told_put (lim := lim) g.t (nodeA p))
  obtain ⟨h4, h5, h6⟩ := holds_vars (lim := lim) (m := m) (g := g1) (nd := g.t.num lim (nodeA p)) (p := p) (vs := k.variants) (by rw [h3]; exact k2) (by rw [h3, k1, put_num]) (fun j => by have := hk.vals j; omega) k.variants.length (by omega) rest
  refine ⟨?_, by omega, by rw [h6, h3, ← puts_append, puts_cons]⟩
  rw [h4, h1, h3, ← puts_append, Bool.and_assoc, List.cons_append, puts_cons, List.append_assoc]
theorem holds_choices {lim : Nat} {m : List Bool} {ps : List DPackage} : ∀ (l : List Nat) (g : GS), (∀ p ∈ l, PkL (ps.getD p zPackage)) → g.b.l.length + 1000 * l.length ≤ 262144 → ∀ rest,
    holds12 m (GS.choices lim ps g l).b.l = (holds12 m g.b.l && l.all (pkgB (g.t.puts lim (l.flatMap (pkgAtoms ps) ++ rest)).l m ps)) ∧ (GS.choices lim ps g l).b.l.length ≤ g.b.l.length + 1000 * l.length ∧ (GS.choices lim ps g l).t = g.t.puts lim (l.flatMap (pkgAtoms ps))
  | [], g, _, _, _ => ⟨by simp [GS.choices], by simp [GS.choices], rfl⟩
  | p :: l, g, hk, h, rest => by
    rw [List.length_cons, Nat.mul_succ] at h
    obtain ⟨h1, h2, h3⟩ := holds_pkg (lim := lim) (m := m) (ps := ps) (g := g) (p := p) (hk p (by simp)) (by omega) (l.flatMap (pkgAtoms ps) ++ rest)
    obtain ⟨h4, h5, h6⟩ := holds_choices (lim := lim) (m := m) l (GS.pkg lim ps g p) (fun q hq => hk q (by simp [hq])) (by omega) rest
    have e : GS.choices lim ps g (p :: l) = GS.choices lim ps (GS.pkg lim ps g p) l := rfl
    rw [e, List.length_cons, Nat.mul_succ, List.flatMap_cons]
    refine ⟨?_, by omega, by rw [h6, h3, puts_append]⟩
    rw [h4, h1, h3, ← puts_append, List.all_cons, List.append_assoc, Bool.and_assoc]
/-! The table of a row of different atoms. -/
theorem numTo_zero {a : DAtom} : ∀ {l : List DAtom} {k : Nat}, a ∉ l → numTo a l k = 0
  | [], _, _ => rfl
  | x :: l, k, h => by
    rw [List.mem_cons, not_or] at h
    unfold numTo
    rw [if_neg (fun e => h.1 e.symm)]
    exact numTo_zero h.2
theorem numTo_at {a : DAtom} : ∀ {l : List DAtom} {k : Nat}, a ∈ l → ∃ i, ∃ hi : i < l.length, l[i] = a ∧ numTo a l k = k + i + 1
  | x :: l, k, h => by
    unfold numTo
    by_cases e : x = a
    · rw [if_pos e]
      exact ⟨0, by simp, e, by omega⟩
    · rw [if_neg e]
      rcases List.mem_cons.1 h with h | h
      · exact absurd h.symm e
      · obtain ⟨i, hi, h1, h2⟩ := numTo_at (k := k + 1) h
        exact ⟨i + 1, by simpa using hi, by simpa using h1, by omega⟩
theorem numOf_at {a : DAtom} {l : List DAtom} (h : a ∈ l) : ∃ i, ∃ hi : i < l.length, l[i] = a ∧ numOf l a = i + 1 := by
  obtain ⟨i, hi, h1, h2⟩ := numTo_at (k := 0) h
  exact ⟨i, hi, h1, by unfold numOf; omega⟩
theorem numOf_mem {a : DAtom} {l : List DAtom} : numOf l a ≠ 0 ↔ a ∈ l := by
  refine ⟨fun h => ?_, fun h => ?_⟩
  · by_cases hm : a ∈ l
    · exact hm
    · exact absurd (numTo_zero hm) h
  · obtain ⟨i, _, _, h2⟩ := numOf_at h
    omega
theorem puts_take {lim : Nat} : ∀ (L l0 : List DAtom) (f : Bool), (l0 ++ L).Nodup → l0.length ≤ lim → (⟨l0, f⟩ : TS).puts lim L = ⟨(l0 ++ L).take lim, f || decide (lim < (l0 ++ L).length)⟩
  | [], l0, f, _, h => by
    rw [List.append_nil, List.take_of_length_le h, decide_eq_false (by omega)]
    simp [TS.puts]
  | a :: L, l0, f, hn, h => by
    have ha : numOf l0 a = 0 := by
      refine numTo_zero (fun hm => ?_)
      have := (List.nodup_append.1 hn).2.2
      exact this a hm a (by simp) rfl
    rw [puts_cons]
    have hn2 : (l0 ++ [a] ++ L).Nodup := by rw [List.append_assoc]; exact hn
    by_cases hl : lim ≤ l0.length
    · have e : (⟨l0, f⟩ : TS).put lim a = ⟨l0, true⟩ := by unfold TS.put; rw [if_neg (by rw [ha]; simp), if_pos hl]
      have hs : (l0 ++ L).Nodup := by
        refine List.Nodup.sublist ?_ hn
        exact List.Sublist.append_left (List.sublist_cons_self a L) l0
      rw [e, puts_take L l0 true hs h, List.take_append_of_le_length (by omega), List.take_append_of_le_length (by omega)]
      rw [Bool.true_or, decide_eq_true (by rw [List.length_append, List.length_cons]; omega), Bool.or_true]
    · have e : (⟨l0, f⟩ : TS).put lim a = ⟨l0 ++ [a], f⟩ := by unfold TS.put; rw [if_neg (by rw [ha]; simp), if_neg hl]
      rw [e, puts_take L (l0 ++ [a]) f hn2 (by simp; omega), List.append_assoc]
      rfl
theorem relAs_a {p n : Nat} {x : DAtom} (h : x ∈ relAs p n) : x.kind = 2 ∧ x.a = p ∧ ∃ i, i < n ∧ x = relA p i := by
  unfold relAs at h
  obtain ⟨i, hi, rfl⟩ := List.mem_map.1 h
  exact ⟨rfl, rfl, i, List.mem_range.1 hi, rfl⟩
theorem valAs_a {p j n : Nat} {x : DAtom} (h : x ∈ valAs p j n) : x.kind = 3 ∧ x.a = p ∧ x.b = j ∧ ∃ i, i < n ∧ x = valA p j i := by
  unfold valAs at h
  obtain ⟨i, hi, rfl⟩ := List.mem_map.1 h
  exact ⟨rfl, rfl, rfl, i, List.mem_range.1 hi, rfl⟩
theorem varAtoms_a {p n : Nat} {vs : List DVariant} {x : DAtom} (h : x ∈ varAtoms p vs n) : ∃ j, j < n ∧ x ∈ valAs p j (vs.getD j zVariant).values.length := by
  unfold varAtoms at h
  obtain ⟨j, hj, hx⟩ := List.mem_flatMap.1 h
  exact ⟨j, List.mem_range.1 hj, hx⟩
theorem pkgAtoms_a {ps : List DPackage} {p : Nat} {x : DAtom} (h : x ∈ pkgAtoms ps p) : x.a = p := by
  unfold pkgAtoms at h
  rcases List.mem_cons.1 h with rfl | h
  · rfl
  · rcases List.mem_append.1 h with h | h
    · exact (relAs_a h).2.1
    · obtain ⟨j, _, hx⟩ := varAtoms_a h
      exact (valAs_a hx).2.1
theorem pkgAtoms_nodup (ps : List DPackage) (p : Nat) : (pkgAtoms ps p).Nodup := by
  unfold pkgAtoms
  generalize (ps.getD p zPackage) = k
  rw [List.nodup_cons]
  refine ⟨fun h => ?_, List.nodup_append.2 ⟨(List.nodup_cons.1 (relAs_nodup p _)).2, ?_, ?_⟩⟩
  · rcases List.mem_append.1 h with h | h
    · have := (relAs_a h).1
      simp [nodeA] at this
    · obtain ⟨j, _, hx⟩ := varAtoms_a h
      have := (valAs_a hx).1
      simp [nodeA] at this
  · unfold varAtoms List.Nodup
    rw [List.pairwise_flatMap]
    refine ⟨fun j _ => (List.nodup_cons.1 (valAs_nodup p j _)).2, ?_⟩
    refine List.nodup_range.imp ?_
    intro i j hij x hx y hy e
    subst e
    have h1 := (valAs_a hx).2.2.1
    have h2 := (valAs_a hy).2.2.1
    omega
  · intro x hx y hy e
    subst e
    have h1 := (relAs_a hx).1
    obtain ⟨j, _, hy⟩ := varAtoms_a hy
    have h2 := (valAs_a hy).1
    omega
theorem allAtoms_nodup (ps : List DPackage) {l : List Nat} (hl : l.Pairwise (· < ·)) : (l.flatMap (pkgAtoms ps)).Nodup := by
  unfold List.Nodup
  rw [List.pairwise_flatMap]
  refine ⟨fun p _ => pkgAtoms_nodup ps p, hl.imp ?_⟩
  intro p q hpq x hx y hy e
  subst e
  have h1 := pkgAtoms_a hx
  have h2 := pkgAtoms_a hy
  omega
theorem pkgAtoms_len {ps : List DPackage} {p : Nat} (h : PkL (ps.getD p zPackage)) : (pkgAtoms ps p).length ≤ 27 := by
  unfold pkgAtoms
  generalize (ps.getD p zPackage) = k at *
  have : ∀ n, (varAtoms p k.variants n).length ≤ 4 * n := by
    intro n
    induction n with
    | zero => simp [varAtoms]
    | succ n ih =>
      have hva : varAtoms p k.variants (n + 1) = varAtoms p k.variants n ++ valAs p n (k.variants.getD n zVariant).values.length := by unfold varAtoms; rw [List.range_succ, List.flatMap_append]; simp
      rw [hva, List.length_append, valAs_len]
      have := h.vals n
      omega
  have h1 := this k.variants.length
  have h2 := h.vars
  have h3 := h.rel
  rw [List.length_cons, List.length_append, relAs_len]
  omega
theorem allAtoms_len {ps : List DPackage} : ∀ (l : List Nat), (∀ p ∈ l, PkL (ps.getD p zPackage)) → (l.flatMap (pkgAtoms ps)).length ≤ 27 * l.length
  | [], _ => by simp
  | p :: l, h => by
    rw [List.flatMap_cons, List.length_append, List.length_cons, Nat.mul_succ]
    have h1 := pkgAtoms_len (h p (by simp))
    have h2 := allAtoms_len l (fun q hq => h q (by simp [hq]))
    omega
/-! A model, by a law for each atom. -/
/-- Of a row just one is so if the node is; none if not. -/
structure Ex (val : DAtom → Bool) (node : DAtom) (row : List DAtom) : Prop where
  none : val node = false → ∀ r ∈ row, val r = false
  some : val node = true → ∃ r ∈ row, val r = true
  uniq : ∀ r ∈ row, ∀ r' ∈ row, val r = true → val r' = true → r = r'
theorem so12_nat {m : List Bool} {k : Nat} (h : k ≠ 0) : so12 m (k : Int) = m.getD (k - 1) false := by
  unfold so12
  rw [if_neg (by omega), if_neg (by omega)]
  rfl
theorem so12_neg {m : List Bool} {k : Nat} (h : k ≠ 0) : so12 m (-(k : Int)) = !(m.getD (k - 1) false) := by
  unfold so12
  rw [if_neg (by omega), if_pos (by omega)]
  rw [Int.natAbs_neg]
  rfl
theorem getD_num {T : List DAtom} {val : DAtom → Bool} {a : DAtom} (h : a ∈ T) : (T.map val).getD (numOf T a - 1) false = val a := by
  obtain ⟨i, hi, h1, h2⟩ := numOf_at h
  rw [h2, Nat.add_sub_cancel, List.getD_eq_getElem?_getD, List.getElem?_map, List.getElem?_eq_getElem hi, h1]
  rfl
theorem so_pos {T : List DAtom} {val : DAtom → Bool} {a : DAtom} (h : a ∈ T) : so12 (T.map val) (numOf T a : Int) = val a := by
  rw [so12_nat (numOf_mem.2 h), getD_num h]
theorem so_neg {T : List DAtom} {val : DAtom → Bool} {a : DAtom} (h : a ∈ T) : so12 (T.map val) (-(numOf T a : Int)) = !val a := by
  rw [so12_neg (numOf_mem.2 h), getD_num h]
theorem mostB_iff {T : List DAtom} {val : DAtom → Bool} : ∀ {row : List DAtom}, (∀ r ∈ row, r ∈ T) → (mostB (T.map val) (row.map (fun a => (numOf T a : Int))) = true ↔ row.Pairwise (fun x y => ¬ (val x = true ∧ val y = true)))
  | [], _ => by simp [mostB]
  | x :: row, h => by
    rw [List.map_cons]
    unfold mostB
    rw [Bool.and_eq_true, mostB_iff (fun r hr => h r (by simp [hr])), List.pairwise_cons, List.all_eq_true]
    refine and_congr ?_ Iff.rfl
    refine ⟨fun hh y hy => ?_, fun hh z hz => ?_⟩
    · have h1 := hh _ (List.mem_map.2 ⟨y, hy, rfl⟩)
      simp only [List.any_cons, List.any_nil, Bool.or_false] at h1
      rw [so_neg (h x (by simp)), so_neg (h y (by simp [hy]))] at h1
      intro ⟨e1, e2⟩
      rw [e1, e2] at h1
      exact absurd h1 (by decide)
    · obtain ⟨y, hy, rfl⟩ := List.mem_map.1 hz
      have h1 := hh y hy
      simp only [List.any_cons, List.any_nil, Bool.or_false]
      rw [so_neg (h x (by simp)), so_neg (h y (by simp [hy]))]
      cases e1 : val x
      · rfl
      · cases e2 : val y
        · rfl
        · exact absurd ⟨e1, e2⟩ h1
theorem grpB_iff {T : List DAtom} {val : DAtom → Bool} {node : DAtom} {row : List DAtom} (hn : node ∈ T) (hr : ∀ r ∈ row, r ∈ T) :
    grpB T (T.map val) node row = true ↔ ((val node = true → ∃ r ∈ row, val r = true) ∧ row.Pairwise (fun x y => ¬ (val x = true ∧ val y = true)) ∧ ∀ r ∈ row, val r = true → val node = true) := by
  have h0 : (decide ((numOf T node : Int) = 0) || decide ((0 : Int) ∈ row.map (fun a => (numOf T a : Int)))) = false := by
    have h1 := numOf_mem.2 hn
    rw [decide_eq_false (by omega), decide_eq_false, Bool.or_self]
    intro h
    obtain ⟨r, hr', e⟩ := List.mem_map.1 h
    have := numOf_mem.2 (hr r hr')
    omega
  unfold grpB oneB
  rw [h0, Bool.false_or, Bool.and_eq_true, Bool.and_eq_true, mostB_iff hr]
  refine and_congr ?_ (and_congr Iff.rfl ?_)
  · rw [List.any_cons, so_neg hn, Bool.or_eq_true, List.any_eq_true]
    constructor
    · rintro (h | ⟨x, hx, h⟩) hv
      · rw [hv] at h; exact absurd h (by decide)
      · obtain ⟨r, hr', rfl⟩ := List.mem_map.1 hx
        rw [so_pos (hr r hr')] at h
        exact ⟨r, hr', h⟩
    · intro h
      cases e : val node with
      | false => exact .inl rfl
      | true =>
        obtain ⟨r, hr', hv⟩ := h e
        exact .inr ⟨_, List.mem_map.2 ⟨r, hr', rfl⟩, by rw [so_pos (hr r hr')]; exact hv⟩
  · rw [List.all_eq_true]
    constructor
    · intro h r hr' hv
      have h1 := h _ (List.mem_map.2 ⟨r, hr', rfl⟩)
      simp only [List.any_cons, List.any_nil, Bool.or_false] at h1
      rw [so_neg (hr r hr'), so_pos hn, hv] at h1
      simpa using h1
    · intro h x hx
      obtain ⟨r, hr', rfl⟩ := List.mem_map.1 hx
      simp only [List.any_cons, List.any_nil, Bool.or_false]
      rw [so_neg (hr r hr'), so_pos hn]
      cases e : val r with
      | false => rfl
      | true => rw [h r hr' e]; rfl
theorem grpB_ex {T : List DAtom} {val : DAtom → Bool} {node : DAtom} {row : List DAtom} (hd : row.Nodup) (h : Ex val node row) : grpB T (T.map val) node row = true := by
  by_cases hn : node ∈ T
  · by_cases hr : ∀ r ∈ row, r ∈ T
    · rw [grpB_iff hn hr]
      refine ⟨h.some, ?_, fun r hr' hv => ?_⟩
      · refine List.Pairwise.imp_of_mem ?_ hd
        intro x y hx hy hne ⟨h1, h2⟩
        exact hne (h.uniq x hx y hy h1 h2)
      · cases e : val node with
        | true => rfl
        | false => rw [h.none e r hr'] at hv; cases hv
    · have : ∃ r ∈ row, r ∉ T := by
        by_cases hh : ∃ r ∈ row, r ∉ T
        · exact hh
        · refine absurd (fun r hr' => ?_) hr
          by_cases hm : r ∈ T
          · exact hm
          · exact absurd ⟨r, hr', hm⟩ hh
      obtain ⟨r, hr', hm⟩ := this
      unfold grpB oneB
      rw [decide_eq_true (p := (0 : Int) ∈ _)]
      · simp
      · refine List.mem_map.2 ⟨r, hr', ?_⟩
        have := mt numOf_mem.1 hm
        omega
  · unfold grpB oneB
    have := mt numOf_mem.1 hn
    rw [decide_eq_true (p := (numOf T node : Int) = 0) (by omega)]
    simp
/-- With one of its atoms turned it does not hold. -/
theorem grpB_turned {T : List DAtom} {val : DAtom → Bool} {node x : DAtom} {row : List DAtom} (hn : node ∈ T) (hr : ∀ r ∈ row, r ∈ T) (hd : (node :: row).Nodup) (h : Ex val node row) (hx : x ∈ node :: row) :
    grpB T (T.map (fun b => if b = x then !(val b) else val b)) node row = false := by
  rw [List.nodup_cons] at hd
  cases e : grpB T (T.map (fun b => if b = x then !(val b) else val b)) node row with
  | false => rfl
  | true =>
    exfalso
    rw [grpB_iff hn hr] at e
    obtain ⟨f1, f2, f3⟩ := e
    rcases List.mem_cons.1 hx with rfl | hx
    · have hne : ∀ r ∈ row, r ≠ x := fun r hr' e => hd.1 (e ▸ hr')
      simp only [if_true] at f1 f3
      cases ev : val x with
      | true =>
        obtain ⟨r, hr', hv⟩ := h.some ev
        have := f3 r hr' (by rw [if_neg (hne r hr')]; exact hv)
        rw [ev] at this
        cases this
      | false =>
        obtain ⟨r, hr', hv⟩ := f1 (by rw [ev]; rfl)
        rw [if_neg (hne r hr')] at hv
        rw [h.none ev r hr'] at hv
        cases hv
    · have hne : node ≠ x := fun e => hd.1 (e ▸ hx)
      rw [if_neg hne] at f1 f3
      cases ev : val x with
      | true =>
        have hnode : val node = true := by
          cases en : val node with
          | true => rfl
          | false => rw [h.none en x hx] at ev; cases ev
        obtain ⟨r, hr', hv⟩ := f1 hnode
        by_cases er : r = x
        · rw [if_pos er, er, ev] at hv; cases hv
        · rw [if_neg er] at hv
          exact er (h.uniq r hr' x hx hv ev)
      | false =>
        have hnode := f3 x hx (by rw [if_pos rfl, ev]; rfl)
        obtain ⟨r, hr', hv⟩ := h.some hnode
        have er : r ≠ x := fun er => by rw [er, ev] at hv; cases hv
        obtain ⟨i, hi, ei⟩ := List.getElem_of_mem hr'
        obtain ⟨j, hj, ej⟩ := List.getElem_of_mem hx
        rw [List.pairwise_iff_getElem] at f2
        have hij : i ≠ j := fun e => er (by subst e; rw [← ei, ej])
        rcases Nat.lt_or_gt_of_ne hij with hlt | hlt
        · refine f2 i j hi hj hlt ⟨?_, ?_⟩
          · rw [ei, if_neg er]; exact hv
          · rw [ej, if_pos rfl, ev]; rfl
        · refine f2 j i hj hi hlt ⟨?_, ?_⟩
          · rw [ej, if_pos rfl, ev]; rfl
          · rw [ei, if_neg er]; exact hv
/-- The law is right of a package. -/
structure ExP (val : DAtom → Bool) (ps : List DPackage) (p : Nat) : Prop where
  rel : Ex val (nodeA p) (relAs p (ps.getD p zPackage).releases.length)
  var : ∀ j, j < (ps.getD p zPackage).variants.length → Ex val (nodeA p) (valAs p j ((ps.getD p zPackage).variants.getD j zVariant).values.length)
theorem pkgB_ex {T : List DAtom} {val : DAtom → Bool} {ps : List DPackage} {p : Nat} (h : ExP val ps p) : pkgB T (T.map val) ps p = true := by
  unfold pkgB varsB
  rw [Bool.and_eq_true, List.all_eq_true]
  exact ⟨grpB_ex (List.nodup_cons.1 (relAs_nodup p _)).2 h.rel, fun j hj => grpB_ex (List.nodup_cons.1 (valAs_nodup p j _)).2 (h.var j (List.mem_range.1 hj))⟩
theorem pkgB_turned {T : List DAtom} {val : DAtom → Bool} {ps : List DPackage} {p : Nat} (h : ExP val ps p) (hT : ∀ y ∈ pkgAtoms ps p, y ∈ T) {x : DAtom} (hx : x ∈ pkgAtoms ps p) :
    pkgB T (T.map (fun b => if b = x then !(val b) else val b)) ps p = false := by
  have hn : nodeA p ∈ T := hT _ (by unfold pkgAtoms; simp)
  have hrel : ∀ r ∈ relAs p (ps.getD p zPackage).releases.length, r ∈ T := fun r hr => hT r (by unfold pkgAtoms; exact List.mem_cons_of_mem _ (List.mem_append_left _ hr))
  have hvar : ∀ j, j < (ps.getD p zPackage).variants.length → ∀ r ∈ valAs p j ((ps.getD p zPackage).variants.getD j zVariant).values.length, r ∈ T := fun j hj r hr => hT r (by
    unfold pkgAtoms varAtoms
    rw [List.mem_cons, List.mem_append, List.mem_flatMap]
    exact .inr (.inr ⟨j, List.mem_range.2 hj, hr⟩))
  have go : x ∈ nodeA p :: relAs p (ps.getD p zPackage).releases.length → pkgB T (T.map (fun b => if b = x then !(val b) else val b)) ps p = false := fun hm => by
    unfold pkgB
    rw [grpB_turned hn hrel (relAs_nodup p _) h.rel hm, Bool.false_and]
  unfold pkgAtoms at hx
  rcases List.mem_cons.1 hx with hx | hx
  · exact go (by rw [hx]; exact List.mem_cons_self)
  · rcases List.mem_append.1 hx with hx | hx
    · exact go (List.mem_cons_of_mem _ hx)
    · obtain ⟨j, hj, hx⟩ := varAtoms_a hx
      unfold pkgB
      have : varsB T (T.map (fun b => if b = x then !(val b) else val b)) p (ps.getD p zPackage).variants (ps.getD p zPackage).variants.length = false := by
        unfold varsB
        rw [List.all_eq_false]
        exact ⟨j, List.mem_range.2 hj, by rw [grpB_turned hn (hvar j hj) (valAs_nodup p j _) (h.var j hj) (List.mem_cons_of_mem _ hx)]; simp⟩
      rw [this, Bool.and_false]
/-! The laws ChoiceHolds and ChoiceLimit, in plain Lean. -/
theorem start_nil : (GS.start).t = ⟨[], false⟩ ∧ (GS.start).b.l = [] := ⟨rfl, rfl⟩
theorem choices_t {lim : Nat} {ps : List DPackage} {l : List Nat} (hs : l.Pairwise (· < ·)) (hk : ∀ p ∈ l, PkL (ps.getD p zPackage)) (hl : l.length ≤ 8) :
    (GS.choices lim ps GS.start l).t = ⟨(l.flatMap (pkgAtoms ps)).take lim, decide (lim < (l.flatMap (pkgAtoms ps)).length)⟩ := by
  obtain ⟨-, -, h⟩ := holds_choices (lim := lim) (m := []) (ps := ps) l GS.start hk (by show 0 + 1000 * l.length ≤ 262144; omega) []
  rw [h]
  exact (puts_take (lim := lim) (l.flatMap (pkgAtoms ps)) [] false (allAtoms_nodup ps hs) (Nat.zero_le _)).trans (by rw [List.nil_append, Bool.false_or])
theorem choices_holds {lim : Nat} {ps : List DPackage} {l : List Nat} (hk : ∀ p ∈ l, PkL (ps.getD p zPackage)) (hl : l.length ≤ 8) (m : List Bool) :
    holds12 m (GS.choices lim ps GS.start l).b.l = l.all (pkgB (GS.choices lim ps GS.start l).t.l m ps) := by
  obtain ⟨h, -, h2⟩ := holds_choices (lim := lim) (m := m) (ps := ps) l GS.start hk (by show 0 + 1000 * l.length ≤ 262144; omega) []
  rw [h, h2, List.append_nil]
  simp [GS.start, holds12]
theorem plain_limit {lim : Nat} {ps : List DPackage} {l : List Nat} (hk : ∀ p ∈ l, PkL (ps.getD p zPackage)) (hl : l.length ≤ 8) {val : DAtom → Bool} (hv : ∀ p ∈ l, ExP val ps p) :
    holds12 ((GS.choices lim ps GS.start l).t.l.map val) (GS.choices lim ps GS.start l).b.l = true := by
  rw [choices_holds hk hl, List.all_eq_true]
  exact fun p hp => pkgB_ex (hv p hp)
theorem map_turned {T : List DAtom} (hT : T.Nodup) (val : DAtom → Bool) (n : Nat) (hn : n < T.length) : (T.map val).set n (!(val T[n])) = T.map (fun b => if b = T[n] then !(val b) else val b) := by
  refine List.ext_getElem (by simp) (fun i h1 h2 => ?_)
  have hi : i < T.length := by simpa using h2
  rw [List.getElem_map, List.getElem_set]
  by_cases e : n = i
  · subst e
    simp
  · rw [if_neg e, List.getElem_map, if_neg]
    intro e'
    exact e ((List.getElem_inj hT).1 e').symm
theorem plain_turned {lim : Nat} {ps : List DPackage} {l : List Nat} (hs : l.Pairwise (· < ·)) (hk : ∀ p ∈ l, PkL (ps.getD p zPackage)) (hl : l.length ≤ 8) (hlim : 1000 ≤ lim) {val : DAtom → Bool} (hv : ∀ p ∈ l, ExP val ps p) (n : Nat) (hn : n < ((GS.choices lim ps GS.start l).t.l.map val).length) :
    holds12 (((GS.choices lim ps GS.start l).t.l.map val).set n (!(((GS.choices lim ps GS.start l).t.l.map val)[n]))) (GS.choices lim ps GS.start l).b.l = false := by
  have hlen := allAtoms_len l hk
  have ht : (GS.choices lim ps GS.start l).t.l = l.flatMap (pkgAtoms ps) := by
    rw [choices_t hs hk hl]
    exact List.take_of_length_le (by omega)
  have hnd := allAtoms_nodup ps hs
  rw [choices_holds hk hl]
  generalize hT : (GS.choices lim ps GS.start l).t.l = T at *
  have hnl : n < T.length := by simpa using hn
  rw [List.getElem_map, map_turned (by rw [ht]; exact hnd) val n hnl, List.all_eq_false]
  have hmem : T[n] ∈ l.flatMap (pkgAtoms ps) := by rw [← ht]; exact List.getElem_mem hnl
  obtain ⟨p, hp, hx⟩ := List.mem_flatMap.1 hmem
  refine ⟨p, hp, ?_⟩
  rw [pkgB_turned (hv p hp) (fun y hy => by rw [ht]; exact List.mem_flatMap.2 ⟨p, hp, hy⟩) hx]
  simp

end
section
set_option maxRecDepth 100000
/-! Of the first part: its clauses are short, of small literals; its atoms; a graph of choices is right of it. -/
def CL (K : Nat) (b : BS) : Prop := ∀ c ∈ b.l, c.length ≤ 12 ∧ ∀ n ∈ c, n.natAbs ≤ K
theorem CL.add {K : Nat} {b : BS} (h : CL K b) {l : List Int} (hl : l.length ≤ 12) (hn : ∀ n ∈ l, n.natAbs ≤ K) : CL K (b.add l) := by
  unfold BS.add
  split
  · exact h
  · intro c hc
    rcases List.mem_append.1 hc with hc | hc
    · exact h c hc
    · rw [List.mem_singleton.1 hc]
      exact ⟨by rw [isortI_len]; exact hl, fun n hm => hn n ((isortI_perm l).mem_iff.1 hm)⟩
theorem CL.fold {α : Type} {K : Nat} (f : α → List Int) : ∀ (l : List α) {b : BS}, CL K b → (∀ y ∈ l, (f y).length ≤ 12 ∧ ∀ n ∈ f y, n.natAbs ≤ K) → CL K (l.foldl (fun b y => b.add (f y)) b)
  | [], _, h, _ => h
  | y :: l, b, h, hf => CL.fold f l (h.add (hf y (by simp)).1 (hf y (by simp)).2) (fun z hz => hf z (by simp [hz]))
theorem CL.most {K : Nat} : ∀ (l : List Int) {b : BS}, CL K b → (∀ n ∈ l, n.natAbs ≤ K) → CL K (b.most l)
  | [], _, h, _ => h
  | x :: l, b, h, hl => by
    unfold BS.most
    refine CL.most l (CL.fold (fun y => [-x, -y]) l h (fun y hy => ⟨by simp, fun n hn => ?_⟩)) (fun n hn => hl n (by simp [hn]))
    have h1 := hl x (by simp)
    have h2 := hl y (by simp [hy])
    simp at hn
    rcases hn with rfl | rfl <;> omega
theorem CL.one {K : Nat} {b : BS} (h : CL K b) {node : Int} {row : List Int} (hr : row.length ≤ 11) (hn : node.natAbs ≤ K) (hl : ∀ n ∈ row, n.natAbs ≤ K) : CL K (b.one node row) := by
  unfold BS.one
  split
  · exact h
  · refine CL.fold (fun n => [-n, node]) row (CL.most row (h.add (by rw [List.length_cons]; omega) ?_) hl) (fun y hy => ⟨by simp, fun n hm => ?_⟩)
    · intro n hm
      rcases List.mem_cons.1 hm with rfl | hm
      · omega
      · exact hl n hm
    · have h2 := hl y hy
      simp at hm
      rcases hm with rfl | rfl <;> omega
theorem num_le {lim : Nat} {t : TS} (h : t.l.length ≤ lim) (a : DAtom) : t.num lim a ≤ lim := by
  unfold TS.num
  have := numOf_le a t.l
  split
  · omega
  · split <;> omega
theorem nums_le {lim : Nat} : ∀ (l : List DAtom) {t : TS}, t.l.length ≤ lim → ∀ n ∈ t.nums lim l, n.natAbs ≤ lim
  | [], _, _, n, hn => by simp [TS.nums] at hn
  | a :: l, t, h, n, hn => by
    unfold TS.nums at hn
    rcases List.mem_cons.1 hn with rfl | hn
    · have := num_le h a; omega
    · exact nums_le l (put_len h) n hn
structure CG (lim : Nat) (g : GS) : Prop where
  t : g.t.l.length ≤ lim
  b : CL lim g.b
theorem CG.row {lim : Nat} {g : GS} (h : CG lim g) {nd : Nat} (hn : nd ≤ lim) {row : List DAtom} (hr : row.length ≤ 11) : CG lim (g.rowOne lim nd row) :=
  ⟨puts_len row _ h.t, h.b.one (by rw [nums_len]; exact hr) (by omega) (nums_le row h.t)⟩
theorem CG.vars {lim : Nat} {g : GS} {nd p : Nat} {vs : List DVariant} (h : CG lim g) (hn : nd ≤ lim) (hv : ∀ j, (vs.getD j zVariant).values.length ≤ 11) : ∀ n, CG lim (GS.vars lim nd p g vs n)
  | 0 => h
  | n + 1 => by
    rw [vars_succ]
    exact (CG.vars h hn hv n).row hn (by rw [valAs_len]; exact hv n)
theorem CG.pkg {lim : Nat} {ps : List DPackage} {g : GS} {p : Nat} (h : CG lim g) (hk : PkL (ps.getD p zPackage)) : CG lim (GS.pkg lim ps g p) := by
  have hn := num_le h.t (nodeA p)
  refine CG.vars (CG.row (g := ⟨g.t.put lim (nodeA p), g.b⟩) ⟨put_len h.t, h.b⟩ hn (by rw [relAs_len]; have := hk.rel; omega)) hn (fun j => by have := hk.vals j; omega) _
theorem CG.choices {lim : Nat} {ps : List DPackage} : ∀ (l : List Nat) {g : GS}, CG lim g → (∀ p ∈ l, PkL (ps.getD p zPackage)) → CG lim (GS.choices lim ps g l)
  | [], _, h, _ => h
  | p :: l, _, h, hk => CG.choices l (h.pkg (hk p (by simp))) (fun q hq => hk q (by simp [hq]))
theorem CG.start (lim : Nat) : CG lim GS.start := ⟨by simp [GS.start], fun c hc => by simp [GS.start] at hc⟩
theorem pkL_of {ps : List DPackage} (h : RcOK ps) {p : Nat} (hp : p < ps.length) : PkL (ps.getD p zPackage) := by
  have hk := h _ (List.getElem_mem hp)
  rw [getD_at _ _ hp]
  generalize ps[p] = k at *
  obtain ⟨h1, h2, h3, h4, h5⟩ := hk
  refine ⟨h1, h4, fun j => ?_⟩
  by_cases hj : j < k.variants.length
  · rw [getD_at _ _ hj]
    exact (h5 _ (List.getElem_mem hj)).2
  · rw [List.getD_eq_getElem?_getD, List.getElem?_eq_none (by omega)]
    simp [zVariant]
theorem places_ok {ps : List DPackage} {rs : List DRoot} (h : Small ps rs) : (∀ p ∈ cloN ps rs, PkL (ps.getD p zPackage)) ∧ (cloN ps rs).length ≤ 8 :=
  ⟨fun p hp => pkL_of h.pk (rch_lt (mem_cloN.1 hp)), by have := cloN_len ps rs; have := h.n; omega⟩
theorem pkgAtoms_first {ps : List DPackage} {p : Nat} (hp : p < ps.length) {x : DAtom} (h : x ∈ pkgAtoms ps p) : FirstA ps.length x := by
  unfold pkgAtoms at h
  rcases List.mem_cons.1 h with rfl | h
  · exact ⟨.inl rfl, ⟨by simp [nodeA], by simp [nodeA]; omega⟩, by simp [nodeA], by simp [nodeA]⟩
  · rcases List.mem_append.1 h with h | h
    · obtain ⟨-, -, i, -, rfl⟩ := relAs_a h
      exact ⟨.inr (.inl rfl), ⟨by simp [relA], by simp [relA]; omega⟩, by simp [relA], by simp [relA]⟩
    · obtain ⟨j, -, h⟩ := varAtoms_a h
      obtain ⟨-, -, -, i, -, rfl⟩ := valAs_a h
      exact ⟨.inr (.inr rfl), ⟨by simp [valA], by simp [valA]; omega⟩, by simp [valA], by simp [valA]⟩
theorem choices_first {lim : Nat} {ps : List DPackage} {rs : List DRoot} (h : Small ps rs) : ∀ x ∈ (GS.choices lim ps GS.start (cloN ps rs)).t.l, FirstA ps.length x := by
  intro x hx
  rw [choices_t (cloN_sorted ps rs) (places_ok h).1 (places_ok h).2] at hx
  obtain ⟨p, hp, hx⟩ := List.mem_flatMap.1 (List.mem_of_mem_take hx)
  exact pkgAtoms_first (rch_lt (mem_cloN.1 hp)) hx
theorem thereN_at {cs : List DCh} {p : Nat} (hp : p < cs.length) : thereN cs p = decide (0 ≤ (cs.getD p zCh).release) := by
  unfold thereN
  rw [List.getElem?_eq_getElem hp, getD_at _ _ hp]
theorem soC_node (cs : List DCh) (p : Nat) : soC cs (nodeA p) = thereN cs p := by
  unfold soC nodeA
  simp
theorem soC_rel (cs : List DCh) (p i : Nat) : soC cs (relA p i) = (thereN cs p && decide ((cs.getD p zCh).release = (i : Int))) := by
  unfold soC relA
  simp
theorem soC_val (cs : List DCh) (p j k : Nat) : soC cs (valA p j k) = (thereN cs p && (decide (j < (cs.getD p zCh).values.length) && decide ((cs.getD p zCh).values.getD j 0 = (k : Int)))) := by
  unfold soC valA
  simp
theorem exP_of {ps : List DPackage} {cs : List DCh} (h : ChOK ps cs) {p : Nat} (hp : p < ps.length) : ExP (soC cs) ps p := by
  have hpc : p < cs.length := by rw [h.len]; exact hp
  have hrel := h.rel p hpc
  have hval := h.vals p hpc
  have hgd : cs.getD p zCh = cs[p] := getD_at _ _ hpc
  have hth := thereN_at hpc
  rw [hgd] at hth
  refine ⟨⟨?_, ?_, ?_⟩, fun j hj => ⟨?_, ?_, ?_⟩⟩
  · intro hn r hr
    rw [soC_node] at hn
    obtain ⟨-, -, i, -, rfl⟩ := relAs_a hr
    rw [soC_rel, hn, Bool.false_and]
  · intro hn
    rw [soC_node, hth, decide_eq_true_iff] at hn
    obtain ⟨i, hi⟩ := Int.eq_ofNat_of_zero_le hn
    refine ⟨relA p i, List.mem_map.2 ⟨i, List.mem_range.2 (by omega), rfl⟩, ?_⟩
    rw [soC_rel, hgd, hth, decide_eq_true hn, decide_eq_true hi]
    rfl
  · intro r hr r' hr' h1 h2
    obtain ⟨-, -, i, -, rfl⟩ := relAs_a hr
    obtain ⟨-, -, i', -, rfl⟩ := relAs_a hr'
    rw [soC_rel, Bool.and_eq_true, decide_eq_true_iff] at h1 h2
    have : i = i' := by have := h1.2; have := h2.2; omega
    rw [this]
  · intro hn r hr
    rw [soC_node] at hn
    obtain ⟨-, -, -, i, -, rfl⟩ := valAs_a hr
    rw [soC_val, hn, Bool.false_and]
  · intro hn
    rw [soC_node, hth, decide_eq_true_iff] at hn
    obtain ⟨hl, hv⟩ := hval hn
    have hjc : j < cs[p].values.length := by rw [hl]; exact hj
    have hvj := hv j hjc
    obtain ⟨i, hi⟩ := Int.eq_ofNat_of_zero_le hvj.1
    refine ⟨valA p j i, List.mem_map.2 ⟨i, List.mem_range.2 (by omega), rfl⟩, ?_⟩
    rw [soC_val, hgd, hth, decide_eq_true hn, getD_at _ _ hjc, decide_eq_true hjc, decide_eq_true hi]
    rfl
  · intro r hr r' hr' h1 h2
    obtain ⟨-, -, -, i, -, rfl⟩ := valAs_a hr
    obtain ⟨-, -, -, i', -, rfl⟩ := valAs_a hr'
    rw [soC_val, Bool.and_eq_true, Bool.and_eq_true, decide_eq_true_iff, decide_eq_true_iff] at h1 h2
    have : i = i' := by have := h1.2.2; have := h2.2.2; omega
    rw [this]
/-- What the laws ask of the first part. -/
theorem part_short {lim : Nat} {ps : List DPackage} {rs : List DRoot} (h : Small ps rs) (hlim : lim ≤ 65536) :
    (∀ x ∈ (GS.choices lim ps GS.start (cloN ps rs)).b.l, x.length ≤ 12) ∧ ∀ x ∈ (GS.choices lim ps GS.start (cloN ps rs)).b.l, ∀ n ∈ x, LitOK n := by
  have hc := (CG.choices (ps := ps) (cloN ps rs) (CG.start lim) (places_ok h).1).b
  refine ⟨fun x hx => (hc x hx).1, fun x hx n hn => ?_⟩
  have := (hc x hx).2 n hn
  exact ⟨by omega, by omega⟩
theorem part_holds {lim : Nat} {ps : List DPackage} {rs : List DRoot} (h : Small ps rs) {cs : List DCh} (hc : ChOK ps cs) :
    holds12 ((GS.choices lim ps GS.start (cloN ps rs)).t.l.map (soC cs)) (GS.choices lim ps GS.start (cloN ps rs)).b.l = true :=
  plain_limit (places_ok h).1 (places_ok h).2 (fun p hp => exP_of hc (rch_lt (mem_cloN.1 hp)))
theorem part_turned {lim : Nat} {ps : List DPackage} {rs : List DRoot} (h : Small ps rs) (hlim : 1000 ≤ lim) {cs : List DCh} (hc : ChOK ps cs) (n : Nat) (hn : n < ((GS.choices lim ps GS.start (cloN ps rs)).t.l.map (soC cs)).length) :
    holds12 (((GS.choices lim ps GS.start (cloN ps rs)).t.l.map (soC cs)).set n (!(((GS.choices lim ps GS.start (cloN ps rs)).t.l.map (soC cs))[n]))) (GS.choices lim ps GS.start (cloN ps rs)).b.l = false :=
  plain_turned (cloN_sorted ps rs) (places_ok h).1 (places_ok h).2 hlim (fun p hp => exP_of hc (rch_lt (mem_cloN.1 hp))) n hn
theorem part_full {lim : Nat} {ps : List DPackage} {rs : List DRoot} (h : Small ps rs) :
    (GS.choices lim ps GS.start (cloN ps rs)).t.full = decide (lim < ((cloN ps rs).flatMap (pkgAtoms ps)).length) ∧ (GS.choices lim ps GS.start (cloN ps rs)).t.l = ((cloN ps rs).flatMap (pkgAtoms ps)).take lim ∧ ((cloN ps rs).flatMap (pkgAtoms ps)).length ≤ 216 := by
  have h1 := choices_t (lim := lim) (cloN_sorted ps rs) (places_ok h).1 (places_ok h).2
  have h2 := allAtoms_len (cloN ps rs) (places_ok h).1
  have h3 := (places_ok h).2
  rw [h1]
  exact ⟨rfl, rfl, by omega⟩

end
end Go.Proofs.YtbahanlnkikpeaaGreat
