import Derived.Test.YtbahanlnkikpeaaGreatRef10a
namespace Go.Proofs.YtbahanlnkikpeaaGreat
open Go.RowKit Go.Proofs.YtbahanlnkikpeaaGreatW.PrintWords Go.Proofs.YtbahanlnkikpeaaGreatW.PrintLast
set_option linter.unusedVariables false
set_option linter.unusedSimpArgs false
section
set_option maxRecDepth 100000
set_option maxHeartbeats 2000000
/-- A literal that the walks speak of: no wrap is near. -/
def LitOK (n : Int) : Prop := -1000000 ≤ n ∧ n ≤ 1000000
def so12 (m : List Bool) (n : Int) : Bool := if n = 0 then false else if n < 0 then !(m.getD (n.natAbs - 1) false) else m.getD (n.natAbs - 1) false
def holds12 (m : List Bool) (cs : List (List Int)) : Bool := cs.all (fun c => c.any (so12 m))
theorem None_same (w : World) (n : Int) (h : LitOK n) : Calls Tryz.prog 70 #[.int .i64 n] w (fun e w' => e = .returned (.bool (decide (n = 0))) ∧ w' = w) := by
  obtain ⟨h1, h2⟩ := h
  by_cases h0 : n = 0
  · subst h0
    go_enter Tryz.func70, Tryz.ntmps70
    go_wp2
    go_ret
    exact ⟨rfl, rfl⟩
  · have e1 : (n == 0) = false := by rw [beq_eq_false_iff_ne]; exact h0
    have e2 : (n == -n) = false := by rw [beq_eq_false_iff_ne]; omega
    have e3 : decide (n = 0) = false := decide_eq_false h0
    have HE := Aside0.mk e3
    clear h0 e3
    go_enter Tryz.func70, Tryz.ntmps70
    go_wp2
    go_ret
    exact ⟨by rw [HE.out]; rfl, rfl⟩
theorem Atom_same (w : World) (n : Int) (h : LitOK n) : Calls Tryz.prog 71 #[.int .i64 n] w (fun e w' => e = .returned (.int .i64 (n.natAbs : Int)) ∧ w' = w) := by
  obtain ⟨h1, h2⟩ := h
  by_cases h0 : n < 0
  · have HE := Aside0.mk (show -n = (n.natAbs : Int) by omega)
    go_enter Tryz.func71, Tryz.ntmps71
    go_wp2
    go_ret
    exact ⟨ret_int HE.out, rfl⟩
  · have HE := Aside0.mk (show n = (n.natAbs : Int) by omega)
    go_enter Tryz.func71, Tryz.ntmps71
    go_wp2
    go_ret
    exact ⟨ret_int HE.out, rfl⟩
theorem Atom_k (w : World) (n : Int) (k : Nat) (hk : n.natAbs = k + 1) (h : LitOK n) : Calls Tryz.prog 71 #[.int .i64 n] w (fun e w' => e = .returned (.int .i64 ((k : Int) + 1)) ∧ w' = w) := by
  refine (Atom_same w n h).mono ?_
  rintro e w' ⟨rfl, rfl⟩
  exact ⟨by rw [hk]; rfl, rfl⟩
theorem So12_same (w : World) (n : Int) (hn : LitOK n) (A : Option Addr) (c : Nat) (m : List Bool) (h : Kd.C Kd.bool w A m.length m) :
    Calls Tryz.prog 46 #[.int .i64 n, .slice A m.length c] w (fun e w' => e = .returned (.bool (so12 m n)) ∧ w' = w) := by
  have HN := Aside0.mk hn
  have H := Aside0.mk h
  clear h hn
  by_cases h0 : n = 0
  · subst h0
    go_enter Tryz.func46, Tryz.ntmps46
    go_wp2_with fail
    refine (None_same _ _ HN.out).mono ?_
    rintro e w1 ⟨rfl, rfl⟩
    go_wp2_with fail
    go_ret
    exact ⟨by simp [so12], rfl⟩
  · have e3 := Aside0.mk (decide_eq_false h0)
    obtain ⟨k, hk⟩ : ∃ k, n.natAbs = k + 1 := ⟨n.natAbs - 1, by omega⟩
    have hk2 : k + 1 ≤ 1000000 := by have := HN.out.1; have := HN.out.2; omega
    have HE : Aside0 (so12 m n = if n < 0 then !(m.getD k false) else m.getD k false) := ⟨by rw [so12, if_neg h0, hk]; rfl⟩
    have HK := Aside0.mk hk
    clear h0 hk
    go_enter Tryz.func46, Tryz.ntmps46
    go_wp2_with fail
    refine (None_same _ _ HN.out).mono ?_
    rintro e w1 ⟨rfl, rfl⟩
    rw [e3.out]
    go_wp2_with fail
    refine (Atom_k _ _ _ HK.out HN.out).mono ?_
    rintro e w1 ⟨rfl, rfl⟩
    by_cases hl : k + 1 ≤ m.length
    · obtain ⟨ad, e, y0⟩ := at_boo H.out k (by omega)
      subst e
      rw [getD_at _ _ (show k < m.length by omega)] at HE
      have bl : (k : Int) < (m.length : Int) := by omega
      go_wp2_with fail
      refine (Atom_k _ _ _ HK.out HN.out).mono ?_
      rintro e w1 ⟨rfl, rfl⟩
      by_cases hneg : n < 0
      · go_wp2_with fail
        go_ret
        exact ⟨by rw [HE.out, if_pos hneg]; rfl, rfl⟩
      · go_wp2_with fail
        go_ret
        exact ⟨by rw [HE.out, if_neg (by omega)]; rfl, rfl⟩
    · have hgd : m.getD k false = false := by rw [List.getD_eq_getElem?_getD, List.getElem?_eq_none (by omega)]; rfl
      rw [hgd] at HE
      clear hgd
      by_cases hneg : n < 0
      · go_wp2_with fail
        go_ret
        exact ⟨by rw [HE.out, if_pos hneg]; rfl, rfl⟩
      · go_wp2_with fail
        go_ret
        exact ⟨by rw [HE.out, if_neg (by omega)]; rfl, rfl⟩
/-- A row of a row of rows of ints. -/
abbrev kRows : Kd (List Int) := Kd.slice 3 (Kd.int .i64)
theorem at_row {w : World} {A : Option Addr} {xs : List (List Int)} (h : Kd.C kRows w A xs.length xs) (k : Nat) (hk : k < xs.length) : ∃ ad A' c', A = some ad ∧ w.cell? (ad.add k) = some (.slice A' xs[k].length c') ∧ xs[k].length ≤ c' ∧ Kd.C (Kd.int .i64) w A' xs[k].length xs[k] := by
  obtain ⟨ad, c, e, _, hK, hc0⟩ := Kd.C_get h [] k (by omega) (by omega)
  have hc : ∀ j u, c[j]? = some u → w.cell? (ad.add (k * 1 + j)) = some u := hc0
  replace hK : kRows.K w (xs.getD k []) c := hK
  rw [getD_at _ _ hk] at hK
  obtain ⟨A', c', rfl, hl, hC⟩ := hK
  exact ⟨ad, A', c', e, by have := hc 0 _ rfl; rwa [Nat.mul_one, Nat.add_zero] at this, hl, hC⟩
theorem any_take {α : Type} {p : α → Bool} {l : List α} {j : Nat} (hj : j < l.length) : (l.take (j + 1)).any p = ((l.take j).any p || p l[j]) := by
  rw [List.take_succ_eq_append_getElem hj, List.any_append]
  simp
theorem Holds12_same (w : World) (A : Option Addr) (c : Nat) (cs : List (List Int)) (h : Kd.C kRows w A cs.length cs) (hlit : ∀ x ∈ cs, ∀ n ∈ x, LitOK n) (B : Option Addr) (d : Nat) (m : List Bool) (hm : Kd.C Kd.bool w B m.length m) :
    Calls Tryz.prog 20 #[.slice A cs.length c, .slice B m.length d] w (fun e w' => e = .returned (.bool (holds12 m cs)) ∧ w' = w) := by
  have mx := Kd.C_max h
  have H := Aside0.mk h
  have HL := Aside0.mk hlit
  have HM := Aside0.mk hm
  clear h hm hlit
  go_enter Tryz.func20, Tryz.ntmps20
  go_wp2
  go_loop [10] (fun i => ∃ k : Nat, k ≤ cs.length ∧ i = .int .i64 k ∧ Aside0 (∀ j, (hj : j < cs.length) → j < k → cs[j].any (so12 m) = true)) (fun i => cs.length - (intOf i).toNat)
  case atStart => exact ⟨0, by omega, rfl, ⟨fun j _ hj => by omega⟩⟩
  case round =>
    obtain ⟨k, hk, rfl, hno⟩ := hrel
    by_cases hlt : k < cs.length
    · obtain ⟨ad, A1, c1, e, h0, l1, g1⟩ := at_row H.out k hlt
      have m1 := Kd.C_max g1
      have G1 := Aside0.mk g1
      have HL1 := Aside0.mk (HL.out _ (List.getElem_mem hlt))
      subst e
      clear g1
      go_wp2
      go_loop [6, 18] (fun f i => ∃ (b : Bool) (j : Nat), j ≤ cs[k].length ∧ i = .int .i64 j ∧ f = .bool b ∧ Aside0 (b = (cs[k].take j).any (so12 m))) (fun _ i => cs[k].length - (intOf i).toNat)
      case atStart => exact ⟨false, 0, by omega, rfl, rfl, ⟨by simp⟩⟩
      case round =>
        obtain ⟨b, j, hj, rfl, rfl, hb⟩ := hrel
        by_cases hjt : j < cs[k].length
        · have hs := Aside0.mk (any_take (p := so12 m) hjt)
          cases b
          · obtain ⟨ad2, e, y0⟩ := at_i64 G1.out j hjt
            subst e
            have bj : (j : Int) < (cs[k].length : Int) := by omega
            have bk : (k : Int) < (cs.length : Int) := by omega
            go_wp2_with fail
            refine (So12_same _ _ (HL1.out _ (List.getElem_mem hjt)) _ _ m HM.out).mono ?_
            rintro e w1 ⟨rfl, rfl⟩
            go_wp2_with fail
            go_round
            case rel => exact ⟨_, j + 1, by omega, by go_num, rfl, ⟨by rw [hs.out, ← hb.out, Bool.false_or]⟩⟩
            case measure => simp [intOf] <;> omega
          · go_wp2
            go_round
            case rel => exact ⟨_, j + 1, by omega, by go_num, rfl, ⟨by rw [hs.out, ← hb.out, Bool.true_or]⟩⟩
            case measure => simp [intOf] <;> omega
        · have hz : Aside0 (b = cs[k].any (so12 m)) := ⟨by rw [hb.out, List.take_of_length_le (by omega)]⟩
          cases b
          · go_wp2
            go_ret
            refine ⟨ret_bool (Eq.symm ?_), rfl⟩
            rw [holds12, List.all_eq_false]
            exact ⟨cs[k], List.getElem_mem hlt, by rw [← hz.out]; simp⟩
          · go_wp2
            go_round
            case rel => exact ⟨k + 1, by omega, by go_num, ⟨fun n hn hnk => by
              by_cases e : n = k
              · subst e; exact hz.out.symm
              · exact hno.out n hn (by omega)⟩⟩
            case measure => simp [intOf] <;> omega
    · go_wp2
      go_ret
      refine ⟨ret_bool (Eq.symm ?_), rfl⟩
      rw [holds12, List.all_eq_true]
      intro x hx
      obtain ⟨j, hj, rfl⟩ := List.getElem_of_mem hx
      exact hno.out j hj (by omega)

end
section
set_option maxRecDepth 100000
set_option maxHeartbeats 2000000
theorem Same12_calls (w : World) (A : Option Addr) (c : Nat) (a : List Int) (B : Option Addr) (d : Nat) (b : List Int) (h : Kd.C (Kd.int .i64) w A a.length a) (h2 : Kd.C (Kd.int .i64) w B b.length b) :
    Calls Tryz.prog 25 #[.slice A a.length c, .slice B b.length d] w (RetB w (.bool (decide (a = b)))) := by
  have m1 := Kd.C_max h
  have H := Aside0.mk h
  have H2 := Aside0.mk h2
  clear h h2
  by_cases hl : a.length = b.length
  · have hl' : ((a.length : Int) != (b.length : Int)) = false := by rw [hl]; simp
    have HL := Aside0.mk hl
    clear hl
    go_enter Tryz.func25, Tryz.ntmps25
    go_wp2_with fail
    go_loopw [13] (fun i wr => ∃ k : Nat, k ≤ a.length ∧ i = .int .i64 k ∧ Aside0 (a.take k = b.take k) ∧ Aside0 (Below w.heap.size w wr)) (fun i _ => a.length - (intOf i).toNat)
    case atStart => exact ⟨0, by omega, rfl, ⟨by simp⟩, ⟨Below.refl _ _⟩⟩
    case round =>
      obtain ⟨k, hk, rfl, hp, HB⟩ := hrel
      by_cases hlt : k < a.length
      · have hlt2 : k < b.length := by have := HL.out; omega
        obtain ⟨ad, e, y0⟩ := at_i64 (Kd.C_below H.out HB.out) k hlt
        obtain ⟨ad2, e2, y1⟩ := at_i64 (Kd.C_below H2.out HB.out) k hlt2
        cases e
        cases e2
        have b1 : (k : Int) < (a.length : Int) := by omega
        have b2 : (k : Int) < (b.length : Int) := by omega
        by_cases he : a[k] = b[k]
        · have he' : (a[k] != b[k]) = false := by rw [he]; simp
          have HE := Aside0.mk he
          clear he
          go_wp2
          go_quiet (fail)
          go_wp2
          go_roundw
          case rel => exact ⟨k + 1, by omega, by go_num, ⟨by rw [List.take_succ_eq_append_getElem hlt, List.take_succ_eq_append_getElem hlt2, hp.out, HE.out]⟩, ⟨pw_below_drewN HB.out _⟩⟩
          case measure => simp [intOf] <;> omega
        · have he' : (a[k] != b[k]) = true := by rw [bne_iff_ne]; exact he
          have HE := Aside0.mk he
          clear he
          go_wp2
          go_quiet (fail)
          go_wp2
          go_ret
          refine ⟨ret_bool (Eq.symm (decide_eq_false fun h => HE.out ?_)), pw_below_drewN HB.out _⟩
          subst h; rfl
      · go_wp2
        go_ret
        refine ⟨ret_bool (Eq.symm (decide_eq_true ?_)), HB.out⟩
        have := hp.out
        rw [List.take_of_length_le (by omega), List.take_of_length_le (by have := HL.out; omega)] at this
        exact this
  · have hl' : ((a.length : Int) != (b.length : Int)) = true := by rw [bne_iff_ne]; omega
    have HL := Aside0.mk hl
    clear hl
    go_enter Tryz.func25, Tryz.ntmps25
    go_wp2_with fail
    go_ret
    exact ⟨ret_bool (Eq.symm (decide_eq_false fun h => HL.out (by rw [h]))), Below.refl _ _⟩
theorem SameAll12_calls (w : World) (A : Option Addr) (c : Nat) (a : List (List Int)) (B : Option Addr) (d : Nat) (b : List (List Int)) (h : Kd.C kRows w A a.length a) (h2 : Kd.C kRows w B b.length b) :
    Calls Tryz.prog 32 #[.slice A a.length c, .slice B b.length d] w (RetB w (.bool (decide (a = b)))) := by
  have m1 := Kd.C_max h
  have H := Aside0.mk h
  have H2 := Aside0.mk h2
  clear h h2
  by_cases hl : a.length = b.length
  · have hl' : ((a.length : Int) != (b.length : Int)) = false := by rw [hl]; simp
    have HL := Aside0.mk hl
    clear hl
    go_enter Tryz.func32, Tryz.ntmps32
    go_wp2_with fail
    go_loopw [13] (fun i wr => ∃ k : Nat, k ≤ a.length ∧ i = .int .i64 k ∧ Aside0 (a.take k = b.take k) ∧ Aside0 (Below w.heap.size w wr)) (fun i _ => a.length - (intOf i).toNat)
    case atStart => exact ⟨0, by omega, rfl, ⟨by simp⟩, ⟨Below.refl _ _⟩⟩
    case round =>
      obtain ⟨k, hk, rfl, hp, HB⟩ := hrel
      by_cases hlt : k < a.length
      · have hlt2 : k < b.length := by have := HL.out; omega
        obtain ⟨ad, A1, c1, e, y0, l1, g1⟩ := at_row (Kd.C_below H.out HB.out) k hlt
        obtain ⟨ad2, A2, c2, e2, y1, l2, g2⟩ := at_row (Kd.C_below H2.out HB.out) k hlt2
        have G1 := Aside0.mk g1
        have G2 := Aside0.mk g2
        cases e
        cases e2
        clear g1 g2 l1 l2
        have b1 : (k : Int) < (a.length : Int) := by omega
        have b2 : (k : Int) < (b.length : Int) := by omega
        go_wp2
        go_still_tail 8, (by kernel_rfl)
        change wpList _ _ _ _ _ wr.drew
        have HB2 := Aside0.mk (below_step HB.out (below_drew (Below.refl _ _)))
        replace G1 := Aside0.mk (Kd.C_drew G1.out)
        replace G2 := Aside0.mk (Kd.C_drew G2.out)
        generalize wr.drew = w2 at HB2 G1 G2 ⊢
        go_wp2_with fail
        refine (Same12_calls _ _ _ _ _ _ _ G1.out G2.out).mono ?_
        rintro e w3 ⟨rfl, hb⟩
        replace HB2 := Aside0.mk (below_step HB2.out hb)
        clear hb y0 y1
        by_cases he : a[k] = b[k]
        · have HE := Aside0.mk he
          rw [decide_eq_true he]
          clear he
          go_wp2_with fail
          go_roundw
          case rel => exact ⟨k + 1, by omega, by go_num, ⟨by rw [List.take_succ_eq_append_getElem hlt, List.take_succ_eq_append_getElem hlt2, hp.out, HE.out]⟩, HB2⟩
          case measure => simp [intOf] <;> omega
        · have HE := Aside0.mk he
          rw [decide_eq_false he]
          clear he
          go_wp2_with fail
          go_ret
          refine ⟨ret_bool (Eq.symm (decide_eq_false fun h => HE.out ?_)), HB2.out⟩
          subst h; rfl
      · go_wp2
        go_ret
        refine ⟨ret_bool (Eq.symm (decide_eq_true ?_)), HB.out⟩
        have := hp.out
        rw [List.take_of_length_le (by omega), List.take_of_length_le (by have := HL.out; omega)] at this
        exact this
  · have hl' : ((a.length : Int) != (b.length : Int)) = true := by rw [bne_iff_ne]; omega
    have HL := Aside0.mk hl
    clear hl
    go_enter Tryz.func32, Tryz.ntmps32
    go_wp2_with fail
    go_ret
    exact ⟨ret_bool (Eq.symm (decide_eq_false fun h => HL.out (by rw [h]))), Below.refl _ _⟩

end
end Go.Proofs.YtbahanlnkikpeaaGreat
