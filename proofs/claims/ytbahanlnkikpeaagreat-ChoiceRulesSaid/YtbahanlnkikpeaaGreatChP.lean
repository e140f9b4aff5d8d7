import Derived.Test.YtbahanlnkikpeaaGreatBldW
namespace Go.Proofs.YtbahanlnkikpeaaGreat
open Go.RowKit Go.Proofs.YtbahanlnkikpeaaGreatW.PrintWords Go.Proofs.YtbahanlnkikpeaaGreatW.PrintLast
set_option linter.unusedVariables false
set_option linter.unusedSimpArgs false
/-! The numbers of a row of atoms, in plain Lean. -/
theorem numTo_gt (a : DAtom) : ∀ (l : List DAtom) (k : Nat), numTo a l k = 0 ∨ k < numTo a l k
  | [], _ => .inl rfl
  | x :: l, k => by
    unfold numTo
    split
    · exact .inr (by omega)
    · rcases numTo_gt a l (k + 1) with h | h
      · exact .inl h
      · exact .inr (by omega)
theorem numTo_inj {a b : DAtom} : ∀ (l : List DAtom) (k : Nat), numTo a l k = numTo b l k → numTo a l k ≠ 0 → a = b
  | [], _, _, h => absurd rfl h
  | x :: l, k, h, h0 => by
    unfold numTo at h h0
    by_cases ha : x = a
    · by_cases hb : x = b
      · exact ha.symm.trans hb
      · rw [if_pos ha, if_neg hb] at h
        rcases numTo_gt b l (k + 1) with g | g <;> omega
    · by_cases hb : x = b
      · rw [if_neg ha, if_pos hb] at h
        rcases numTo_gt a l (k + 1) with g | g <;> omega
      · rw [if_neg ha, if_neg hb] at h
        rw [if_neg ha] at h0
        exact numTo_inj l (k + 1) h h0
theorem numOf_inj {a b : DAtom} {l : List DAtom} (h : numOf l a = numOf l b) (h0 : numOf l a ≠ 0) : a = b := numTo_inj l 0 h h0
theorem num_put {lim : Nat} {t : TS} {a : DAtom} (h : t.num lim a ≠ 0) : numOf (t.put lim a).l a = t.num lim a := by
  unfold TS.num at h ⊢
  unfold TS.put
  by_cases h1 : numOf t.l a ≠ 0
  · simp only [if_pos h1]
  · rw [if_neg h1] at h
    by_cases h2 : lim ≤ t.l.length
    · rw [if_pos h2] at h; exact absurd rfl h
    · simp only [if_neg h1, if_neg h2]
      rw [numOf_snoc, if_neg h1, if_pos rfl]
theorem numOf_put {lim : Nat} {t : TS} {a b : DAtom} (h : numOf t.l b ≠ 0) : numOf (t.put lim a).l b = numOf t.l b := by
  unfold TS.put
  split
  · rfl
  · split
    · rfl
    · rw [numOf_snoc, if_pos h]
theorem numOf_puts {lim : Nat} {b : DAtom} : ∀ (l : List DAtom) (t : TS), numOf t.l b ≠ 0 → numOf (t.puts lim l).l b = numOf t.l b
  | [], _, _ => rfl
  | a :: l, t, h => by
    have h1 := numOf_put (lim := lim) (a := a) h
    have h2 := numOf_puts (lim := lim) l (t.put lim a) (by rw [h1]; exact h)
    rw [h1] at h2
    exact h2
theorem puts_cons {lim : Nat} (t : TS) (a : DAtom) (l : List DAtom) : t.puts lim (a :: l) = (t.put lim a).puts lim l := rfl
theorem puts_snoc {lim : Nat} (t : TS) (l : List DAtom) (a : DAtom) : t.puts lim (l ++ [a]) = (t.puts lim l).put lim a := by unfold TS.puts; rw [List.foldl_append]; rfl
theorem nums_snoc {lim : Nat} : ∀ (l : List DAtom) (t : TS) (a : DAtom), t.nums lim (l ++ [a]) = t.nums lim l ++ [(((t.puts lim l).num lim a : Nat) : Int)]
  | [], _, _ => rfl
  | b :: l, t, a => by
    rw [List.cons_append]
    unfold TS.nums
    rw [nums_snoc l (t.put lim b) a]
    rfl
theorem nums_len {lim : Nat} : ∀ (l : List DAtom) (t : TS), (t.nums lim l).length = l.length
  | [], _ => rfl
  | b :: l, t => by
    unfold TS.nums
    rw [List.length_cons, nums_len l, List.length_cons]
theorem nums_map {lim : Nat} : ∀ (l : List DAtom) (t : TS), (0 : Int) ∉ t.nums lim l → t.nums lim l = l.map (fun a => (numOf (t.puts lim l).l a : Int))
  | [], _, _ => rfl
  | b :: l, t, h => by
    unfold TS.nums at h ⊢
    rw [List.mem_cons, not_or] at h
    have h1 : t.num lim b ≠ 0 := fun e => h.1 (by rw [e]; rfl)
    have h2 := num_put h1
    have h3 := numOf_puts (lim := lim) l (t.put lim b) (by rw [h2]; exact h1)
    rw [nums_map l (t.put lim b) h.2, List.map_cons, puts_cons, h3, h2]
theorem put_len {lim : Nat} {t : TS} {a : DAtom} (h : t.l.length ≤ lim) : (t.put lim a).l.length ≤ lim := by
  unfold TS.put
  split
  · exact h
  · split
    · exact h
    · simp; omega
theorem puts_len {lim : Nat} : ∀ (l : List DAtom) (t : TS), t.l.length ≤ lim → (t.puts lim l).l.length ≤ lim
  | [], _, h => h
  | a :: l, t, h => puts_len l (t.put lim a) (put_len h)
/-- A node's number and a row's: all of different atoms, if all are there. -/
theorem nums_good {lim : Nat} (hlim : lim ≤ 65536) (t : TS) (ht : t.l.length ≤ lim) (a : DAtom) (l : List DAtom) (hl : l.length ≤ 10) (hn : (a :: l).Nodup) (h0 : numOf t.l a ≠ 0) (hr : (0 : Int) ∉ t.nums lim l) :
    GoodR (t.nums lim l) ∧ (((numOf t.l a : Nat) : Int) ∉ t.nums lim l) ∧ numOf t.l a < 1000000 := by
  have hm := nums_map l t hr
  have ha : numOf (t.puts lim l).l a = numOf t.l a := numOf_puts l _ h0
  have hlen := puts_len l t ht
  have hpos : ∀ x ∈ l, numOf (t.puts lim l).l x ≠ 0 := by
    intro x hx e
    refine hr ?_
    rw [hm]
    exact List.mem_map.2 ⟨x, hx, by rw [e]; rfl⟩
  rw [List.nodup_cons] at hn
  refine ⟨⟨by rw [nums_len]; omega, ?_, ?_⟩, ?_, ?_⟩
  · intro x hx
    rw [hm] at hx
    obtain ⟨y, hy, rfl⟩ := List.mem_map.1 hx
    have h1 := hpos y hy
    have h2 := numOf_le y (t.puts lim l).l
    omega
  · rw [hm]
    unfold List.Nodup
    rw [List.pairwise_map]
    refine List.Pairwise.imp_of_mem ?_ hn.2
    intro x y hx hy hne he
    exact hne (numOf_inj (by omega) (hpos x hx))
  · rw [hm]
    intro hx
    obtain ⟨y, hy, e⟩ := List.mem_map.1 hx
    have : y = a := numOf_inj (l := (t.puts lim l).l) (by rw [ha]; omega) (hpos y hy)
    exact hn.1 (this ▸ hy)
  · have := numOf_le a t.l
    omega
theorem relAs_nodup (p n : Nat) : (nodeA p :: relAs p n).Nodup := by
  rw [List.nodup_cons]
  refine ⟨fun h => ?_, ?_⟩
  · obtain ⟨i, _, e⟩ := List.mem_map.1 h
    have := congrArg DAtom.kind e
    simp [relA, nodeA] at this
  · unfold relAs List.Nodup
    rw [List.pairwise_map]
    refine List.nodup_range.imp (fun hne e => hne ?_)
    have := congrArg DAtom.b e
    simp [relA] at this
    omega
theorem valAs_nodup (p j n : Nat) : (nodeA p :: valAs p j n).Nodup := by
  rw [List.nodup_cons]
  refine ⟨fun h => ?_, ?_⟩
  · obtain ⟨i, _, e⟩ := List.mem_map.1 h
    have := congrArg DAtom.kind e
    simp [valA, nodeA] at this
  · unfold valAs List.Nodup
    rw [List.pairwise_map]
    refine List.nodup_range.imp (fun hne e => hne ?_)
    have := congrArg DAtom.c e
    simp [valA] at this
    omega

end Go.Proofs.YtbahanlnkikpeaaGreat
