import Derived.Test.YtbahanlnkikpeaaGreatRef12
namespace Go.Proofs.YtbahanlnkikpeaaGreat
open Go.RowKit Go.Proofs.YtbahanlnkikpeaaGreatW.PrintWords Go.Proofs.YtbahanlnkikpeaaGreatW.PrintLast
set_option linter.unusedVariables false
set_option linter.unusedSimpArgs false
set_option maxRecDepth 100000
set_option maxHeartbeats 2000000
theorem Same12_calls (w : World) (A : Option Addr) (c : Nat) (a : List Int) (B : Option Addr) (d : Nat) (b : List Int) (h : Kd.C (Kd.int .i64) w A a.length a) (h2 : Kd.C (Kd.int .i64) w B b.length b) :
    Calls Tryz.prog 25 #[.slice A a.length c, .slice B b.length d] w (RetB w (.bool (decide (a = b)))) := by
  have m1 := Kd.C_max h
  have H := Aside0.mk h
  have H2 := Aside0.mk h2
  clear h h2
  by_cases hl : a.length = b.length
  · have hl' : ((a.length : Int) != (b.length : Int)) = false := by rw [hl]; simp
    have HL := Aside0.mk hl
    clear hl
    go_enter Tryz.func25, Tryz.ntmps25
    go_wp2_with fail
    go_loopw [13] (fun i wr => ∃ k : Nat, k ≤ a.length ∧ i = .int .i64 k ∧ Aside0 (a.take k = b.take k) ∧ Aside0 (Below w.heap.size w wr)) (fun i _ => a.length - (intOf i).toNat)
    case atStart => exact ⟨0, by omega, rfl, ⟨by simp⟩, ⟨Below.refl _ _⟩⟩
    case round =>
      obtain ⟨k, hk, rfl, hp, HB⟩ := hrel
      by_cases hlt : k < a.length
      · have hlt2 : k < b.length := by have := HL.out; omega
        obtain ⟨ad, e, y0⟩ := at_i64 (Kd.C_below H.out HB.out) k hlt
        obtain ⟨ad2, e2, y1⟩ := at_i64 (Kd.C_below H2.out HB.out) k hlt2
        cases e
        cases e2
        have b1 : (k : Int) < (a.length : Int) := by omega
        have b2 : (k : Int) < (b.length : Int) := by omega
        by_cases he : a[k] = b[k]
        · have he' : (a[k] != b[k]) = false := by rw [he]; simp
          have HE := Aside0.mk he
          clear he
          go_wp2
          go_quiet (fail)
          go_wp2
          go_roundw
          case rel => exact ⟨k + 1, by omega, by go_num, ⟨by rw [List.take_succ_eq_append_getElem hlt, List.take_succ_eq_append_getElem hlt2, hp.out, HE.out]⟩, ⟨pw_below_drewN HB.out _⟩⟩
          case measure => simp [intOf] <;> omega
        · have he' : (a[k] != b[k]) = true := by rw [bne_iff_ne]; exact he
          have HE := Aside0.mk he
          clear he
          go_wp2
          go_quiet (fail)
          go_wp2
          go_ret
          refine ⟨ret_bool (Eq.symm (decide_eq_false fun h => HE.out ?_)), pw_below_drewN HB.out _⟩
          subst h; rfl
      · go_wp2
        go_ret
        refine ⟨ret_bool (Eq.symm (decide_eq_true ?_)), HB.out⟩
        have := hp.out
        rw [List.take_of_length_le (by omega), List.take_of_length_le (by have := HL.out; omega)] at this
        exact this
  · have hl' : ((a.length : Int) != (b.length : Int)) = true := by rw [bne_iff_ne]; omega
    have HL := Aside0.mk hl
    clear hl
    go_enter Tryz.func25, Tryz.ntmps25
    go_wp2_with fail
    go_ret
    exact ⟨ret_bool (Eq.symm (decide_eq_false fun h => HL.out (by rw [h]))), Below.refl _ _⟩
theorem SameAll12_calls (w : World) (A : Option Addr) (c : Nat) (a : List (List Int)) (B : Option Addr) (d : Nat) (b : List (List Int)) (h : Kd.C kRows w A a.length a) (h2 : Kd.C kRows w B b.length b) :
    Calls Tryz.prog 32 #[.slice A a.length c, .slice B b.length d] w (RetB w (.bool (decide (a = b)))) := by
  have m1 := Kd.C_max h
  have H := Aside0.mk h
  have H2 := Aside0.mk h2
  clear h h2
  by_cases hl : a.length = b.length
  · have hl' : ((a.length : Int) != (b.length : Int)) = false := by rw [hl]; simp
    have HL := Aside0.mk hl
    clear hl
    go_enter Tryz.func32, Tryz.ntmps32
    go_wp2_with fail
    go_loopw [13] (fun i wr => ∃ k : Nat, k ≤ a.length ∧ i = .int .i64 k ∧ Aside0 (a.take k = b.take k) ∧ Aside0 (Below w.heap.size w wr)) (fun i _ => a.length - (intOf i).toNat)
    case atStart => exact ⟨0, by omega, rfl, ⟨by simp⟩, ⟨Below.refl _ _⟩⟩
    case round =>
      obtain ⟨k, hk, rfl, hp, HB⟩ := hrel
      by_cases hlt : k < a.length
      · have hlt2 : k < b.length := by have := HL.out; omega
        obtain ⟨ad, A1, c1, e, y0, l1, g1⟩ := at_row (Kd.C_below H.out HB.out) k hlt
        obtain ⟨ad2, A2, c2, e2, y1, l2, g2⟩ := at_row (Kd.C_below H2.out HB.out) k hlt2
        have G1 := Aside0.mk g1
        have G2 := Aside0.mk g2
        cases e
        cases e2
        clear g1 g2 l1 l2
        have b1 : (k : Int) < (a.length : Int) := by omega
        have b2 : (k : Int) < (b.length : Int) := by omega
        go_wp2
        go_still_tail 8, (by kernel_rfl)
        change wpList _ _ _ _ _ wr.drew
        have HB2 := Aside0.mk (below_step HB.out (below_drew (Below.refl _ _)))
        replace G1 := Aside0.mk (Kd.C_drew G1.out)
        replace G2 := Aside0.mk (Kd.C_drew G2.out)
        generalize wr.drew = w2 at HB2 G1 G2 ⊢
        go_wp2_with fail
        refine (Same12_calls _ _ _ _ _ _ _ G1.out G2.out).mono ?_
        rintro e w3 ⟨rfl, hb⟩
        replace HB2 := Aside0.mk (below_step HB2.out hb)
        clear hb y0 y1
        by_cases he : a[k] = b[k]
        · have HE := Aside0.mk he
          rw [decide_eq_true he]
          clear he
          go_wp2_with fail
          go_roundw
          case rel => exact ⟨k + 1, by omega, by go_num, ⟨by rw [List.take_succ_eq_append_getElem hlt, List.take_succ_eq_append_getElem hlt2, hp.out, HE.out]⟩, HB2⟩
          case measure => simp [intOf] <;> omega
        · have HE := Aside0.mk he
          rw [decide_eq_false he]
          clear he
          go_wp2_with fail
          go_ret
          refine ⟨ret_bool (Eq.symm (decide_eq_false fun h => HE.out ?_)), HB2.out⟩
          subst h; rfl
      · go_wp2
        go_ret
        refine ⟨ret_bool (Eq.symm (decide_eq_true ?_)), HB.out⟩
        have := hp.out
        rw [List.take_of_length_le (by omega), List.take_of_length_le (by have := HL.out; omega)] at this
        exact this
  · have hl' : ((a.length : Int) != (b.length : Int)) = true := by rw [bne_iff_ne]; omega
    have HL := Aside0.mk hl
    clear hl
    go_enter Tryz.func32, Tryz.ntmps32
    go_wp2_with fail
    go_ret
    exact ⟨ret_bool (Eq.symm (decide_eq_false fun h => HL.out (by rw [h]))), Below.refl _ _⟩

end Go.Proofs.YtbahanlnkikpeaaGreat
