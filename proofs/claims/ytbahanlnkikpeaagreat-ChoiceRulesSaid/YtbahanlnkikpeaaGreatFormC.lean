import Derived.Test.YtbahanlnkikpeaaGreatSortP
namespace Go.Proofs.YtbahanlnkikpeaaGreat
open Go.RowKit Go.Proofs.YtbahanlnkikpeaaGreatW.PrintWords Go.Proofs.YtbahanlnkikpeaaGreatW.PrintLast
set_option linter.unusedVariables false
set_option linter.unusedSimpArgs false
open Go.RowKit Go.Maps
set_option maxRecDepth 100000
set_option maxHeartbeats 2000000
/-! cnf.Form at a row of literals of different atoms. -/
theorem swapAt_mid (l : List Int) (a b : Int) (r : List Int) : swapAt (l ++ a :: b :: r) (l.length + 1) = l ++ b :: a :: r := by
  unfold swapAt
  have h1 : (l ++ a :: b :: r).getD (l.length + 1 - 1) 0 = a := by simp [List.getD]
  have h2 : (l ++ a :: b :: r).getD (l.length + 1) 0 = b := by simp [List.getD]
  rw [h1, h2]
  simp [List.set_append]
theorem swapAt_perm {xs : List Int} {j : Nat} (hj : j + 1 < xs.length) : (swapAt xs (j + 1)).Perm xs := by
  have h1 : xs = xs.take j ++ xs[j] :: xs[j + 1] :: xs.drop (j + 2) := by
    rw [← List.drop_eq_getElem_cons hj, ← List.drop_eq_getElem_cons (by omega), List.take_append_drop]
  have hl : (xs.take j).length = j := by rw [List.length_take]; omega
  generalize xs[j] = a at h1
  generalize xs[j + 1] = b at h1
  generalize xs.drop (j + 2) = r at h1
  generalize xs.take j = l at h1 hl
  subst hl
  rw [h1, swapAt_mid]
  exact List.Perm.append_left l (List.Perm.swap a b r)
theorem sink_perm : ∀ (j : Nat) (xs : List Int), j < xs.length → (sink xs j).Perm xs
  | 0, _, _ => List.Perm.refl _
  | j + 1, xs, h => by
    unfold sink
    split
    · exact (sink_perm j _ (by rw [swapAt_len]; omega)).trans (swapAt_perm h)
    · exact List.Perm.refl _
theorem isortTo_perm (xs : List Int) : ∀ i, i ≤ xs.length - 1 → (isortTo xs i).Perm xs
  | 0, _ => List.Perm.refl _
  | i + 1, h => by
    unfold isortTo
    exact (sink_perm _ _ (by rw [isortTo_len]; omega)).trans (isortTo_perm xs i (by omega))
theorem isortI_perm (xs : List Int) : (isortI xs).Perm xs := isortTo_perm xs _ (Nat.le_refl _)
theorem isortI_len (xs : List Int) : (isortI xs).length = xs.length := isortTo_len xs _
/-- Neighbours are of different atoms. -/
theorem isortI_adj {l : List Int} (h : GoodC l) (k : Nat) (hk : k + 1 < (isortI l).length) : absI (isortI l)[k] ≠ absI (isortI l)[k + 1] := by
  have hn : ((isortI l).map absI).Nodup := ((isortI_perm l).map absI).nodup_iff.2 h.diff
  have := List.pairwise_iff_getElem.1 hn k (k + 1) (by rw [List.length_map]; omega) (by rw [List.length_map]; omega) (by omega)
  simpa using this
theorem absI_neg (x : Int) : absI (-x) = absI x := by unfold absI; omega
theorem add_succ (ad : Addr) (k : Nat) : ad.add (k + 1) = ⟨ad.block, ad.off + (k + 1), none⟩ := by unfold Addr.add; rw [if_neg (by omega)]
theorem Compact_calls (w : World) (A : Option Addr) (c n : Nat) (ys : List Int) (hn : n = ys.length) (h : Kd.C (Kd.int .i64) w A ys.length ys) (hl : ys.length ≤ 12) (ha : ∀ k, (hk : k + 1 < ys.length) → ys[k + 1] ≠ ys[k]) :
    Calls Tryz.prog 112 #[.slice A n c] w (RetB w (.slice A n c)) := by
  subst hn
  have H := Aside0.mk h
  have HA := Aside0.mk ha
  clear h ha
  go_enter Tryz.func112, Tryz.ntmps112
  by_cases h2 : (ys.length : Int) < 2
  · go_wp2_with fail
    go_ret
    exact ⟨rfl, Below.refl _ _⟩
  · have h2' : 2 ≤ (ys.length : Int) := by omega
    go_wp2_with fail
    go_loopw [3] (fun v W => ∃ k : Nat, v = .int .i64 ((k : Int) + 1) ∧ k + 1 ≤ ys.length ∧ Aside0 (Below w.heap.size w W)) (fun v _ => ys.length - (intOf v).toNat)
    case atStart => exact ⟨0, by go_num, by omega, ⟨Below.refl _ _⟩⟩
    case round =>
      obtain ⟨k, rfl, hk, HF⟩ := hrel
      by_cases hlt : k + 1 < ys.length
      · obtain ⟨ad, e, y1⟩ := at_i64 (Kd.C_below H.out HF.out) (k + 1) hlt
        obtain ⟨ad', e', y0⟩ := at_i64 (Kd.C_below H.out HF.out) k (by omega)
        subst e
        cases e'
        rw [add_succ] at y1
        have hne := HA.out k hlt
        have b1 : (k : Int) + 1 < (ys.length : Int) := by omega
        have b0 : (k : Int) < (ys.length : Int) := by omega
        have p1 : (0 : Int) ≤ (k : Int) + 1 := by omega
        have hw : IntKind.i64.wrap (k : Int) = (k : Int) := IntWalk.i64_in _ (by omega)
        have hd : decide (ys[k + 1] = ys[k]) = false := decide_eq_false hne
        go_wp2_with fail
        go_quiet (fail)
        go_wp2_with fail
        go_roundw
        case rel => exact ⟨k + 1, by go_num, by omega, ⟨pw_below_drewN HF.out _⟩⟩
        case measure => simp [intOf] <;> omega
      · go_wp2_with fail
        go_ret
        exact ⟨rfl, HF.out⟩
theorem Form_aux (w : World) (A : Option Addr) (c : Nat) (l ys : List Int) (hys : isortI l = ys) (h : Kd.C (Kd.int .i64) w A l.length l) (hg : GoodC l) :
    Calls Tryz.prog 87 #[.slice A l.length c] w (fun e w' => ∃ v, e = .returned (.tuple #[v, .bool true]) ∧ OwnI w' w.heap.size v ys ∧ Below w.heap.size w w') := by
  have H := Aside0.mk h
  have HG := Aside0.mk hg
  have hl := hg.len
  have hadj : ∀ k, (hk : k + 1 < ys.length) → absI ys[k] ≠ absI ys[k + 1] := by subst hys; exact isortI_adj hg
  have hil := isortI_len l
  rw [hys] at hil
  have HAdj := Aside0.mk hadj
  have HYS := Aside0.mk hys
  have HR0 : Aside0 (∀ y ∈ ys, -1000000 < y ∧ y < 1000000) := ⟨fun y hy => (hg.lit y (by rw [← hys] at hy; exact (isortI_perm l).mem_iff.1 hy)).2⟩
  clear h hg hadj hys
  go_enter Tryz.func87, Tryz.ntmps87
  go_wp2_with fail
  refine (ContainsW_same _ _ _ _ H.out HG.out.lit hl).mono ?_
  rintro e w1 ⟨rfl, rfl⟩
  go_wp2_with fail
  refine (CloneI_calls _ _ _ _ H.out (by omega)).mono ?_
  rintro e w2 ⟨v, rfl, hO, hb⟩
  have hpos : 0 < l.length := List.length_pos_iff.2 HG.out.ne
  obtain ⟨g, cap, rfl, hg1, hg2, -⟩ := Kd.R_form hO hpos
  have HR : Aside0 (ORow w2 w1.heap.size g cap l) := ⟨Kd.own_of_R hO⟩
  have HB := Aside0.mk hb
  clear hO hb hg1 hg2 hpos
  go_wp2_with fail
  refine (SortFunc_calls w2 w1.heap.size g cap l HR.out hl (fun x hx => (HG.out.lit x hx).2) HB.out.size).mono ?_
  rintro e w3 ⟨rfl, hO, hb⟩
  rw [HYS.out] at hO
  have HO3 : Aside0 (OwnI w3 w1.heap.size (.slice (some ⟨g, 0, none⟩) l.length cap) ys) := ⟨by rw [← hil]; exact Kd.R_of_own hO (fun _ _ => trivial)⟩
  have HB3 : Aside0 (Below w1.heap.size w1 w3) := ⟨HB.out.trans hb⟩
  clear hO hb HR HB
  go_wp2_with fail
  refine (Compact_calls w3 (some ⟨g, 0, none⟩) cap _ ys hil.symm (by exact (Kd.R_reads' HO3.out).2.2) (by omega) (fun k hk e => HAdj.out k hk (by rw [e]))).mono ?_
  rintro e w4 ⟨rfl, hb⟩
  have HO4 := Aside0.mk (HO3.out.below hb)
  have HB4 : Aside0 (Below w1.heap.size w1 w4) := ⟨below_step HB3.out hb⟩
  clear HO3 HB3 hb
  go_wp2_with fail
  go_loopw [5] (fun v W => ∃ k : Nat, v = .int .i64 ((k : Int) + 1) ∧ k + 1 ≤ l.length ∧ Aside0 (OwnI W w1.heap.size (.slice (some ⟨g, 0, none⟩) l.length cap) ys) ∧ Aside0 (Below w1.heap.size w1 W)) (fun v _ => l.length - (intOf v).toNat)
  case atStart => exact ⟨0, by go_num, by have := List.length_pos_iff.2 HG.out.ne; omega, HO4, HB4⟩
  case round =>
    clear HO4 HB4
    obtain ⟨k, rfl, hk, HO, HF⟩ := hrel
    by_cases hlt : k + 1 < l.length
    · have hC := (Kd.R_reads' HO.out).2.2
      obtain ⟨ad, e, y1⟩ := at_i64 hC (k + 1) (by omega)
      obtain ⟨ad', e', y0⟩ := at_i64 hC k (by omega)
      cases e
      cases e'
      clear hC
      rw [add_plain] at y1 y0
      have hne := HAdj.out k (by omega)
      have hr0 := HR0.out _ (List.getElem_mem (show k < ys.length by omega))
      have b1 : (k : Int) + 1 < (l.length : Int) := by omega
      have b0 : (k : Int) < (l.length : Int) := by omega
      have p1 : (0 : Int) ≤ (k : Int) + 1 := by omega
      have hw : IntKind.i64.wrap (k : Int) = (k : Int) := IntWalk.i64_in _ (by omega)
      have hwn : IntKind.i64.wrap (-ys[k]) = -ys[k] := IntWalk.i64_in _ (by omega)
      have hd : (ys[k + 1] == -ys[k]) = false := beq_eq_false_iff_ne.2 (fun e => hne (by rw [e, absI_neg]))
      go_wp2_with fail
      go_quiet (fail)
      go_wp2_with fail
      go_roundw
      case rel => exact ⟨k + 1, by go_num, by omega, ⟨HO.out.below (pw_below_drewN (Below.refl _ _) _)⟩, ⟨pw_below_drewN HF.out _⟩⟩
      case measure => simp [intOf] <;> omega
    · go_wp2_with fail
      refine bodyPost_ret (v := .tuple #[.slice (some ⟨g, 0, none⟩) l.length cap, .bool true]) (by simp [results, Tryz.results87, go_sem]) rfl ?_
      exact ⟨_, rfl, HO.out, HF.out⟩
theorem Form_calls (w : World) (A : Option Addr) (c : Nat) (l : List Int) (h : Kd.C (Kd.int .i64) w A l.length l) (hg : GoodC l) :
    Calls Tryz.prog 87 #[.slice A l.length c] w (fun e w' => ∃ v, e = .returned (.tuple #[v, .bool true]) ∧ OwnI w' w.heap.size v (isortI l) ∧ Below w.heap.size w w') := Form_aux w A c l _ rfl h hg

end Go.Proofs.YtbahanlnkikpeaaGreat
