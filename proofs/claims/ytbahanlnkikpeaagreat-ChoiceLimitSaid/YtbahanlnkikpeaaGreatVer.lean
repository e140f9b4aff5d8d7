import Derived.Test.YtbahanlnkikpeaaGreatGreat7
namespace Go.Proofs.YtbahanlnkikpeaaGreat
open Go.RowKit Go.Proofs.YtbahanlnkikpeaaGreatW.PrintWords Go.Proofs.YtbahanlnkikpeaaGreatW.PrintLast
set_option linter.unusedVariables false
set_option linter.unusedSimpArgs false
set_option maxRecDepth 100000
set_option maxHeartbeats 8000000
theorem letters_any (w : World) (s : ByteArray) (hm : s.size ≤ 9223372036854775807) : Calls Tryz.prog 115 #[.string s] w (RetBool w Any) := by
  go_enter Tryz.func115, Tryz.ntmps115
  go_wp2
  go_loop [3] (fun i => ∃ k : Nat, k ≤ s.size ∧ i = .int .i64 k) (fun i => s.size - (intOf i).toNat)
  case atStart => exact ⟨0, by omega, rfl⟩
  case round =>
    obtain ⟨k, hk, rfl⟩ := hrel
    by_cases hlt : k < s.size
    · go_wp2
      all_goals first
        | (go_ret; exact retAny (Below.refl _ _))
        | (go_round; (case rel => exact ⟨k + 1, by omega, by go_num⟩); (case measure => simp [intOf] <;> omega))
    · go_wp2
      go_ret
      exact retAny (Below.refl _ _)
def DigP (s : ByteArray) (b : Bool) : Prop := b = true → 0 < s.size
/-- Digits: where it says yes there is a byte. -/
theorem Digits_any (w : World) (s : ByteArray) (hm : s.size ≤ 9223372036854775807) : Calls Tryz.prog 116 #[.string s] w (RetBool w (DigP s)) := by
  go_enter Tryz.func116, Tryz.ntmps116
  go_wp2
  go_loop [3] (fun i => ∃ k : Nat, k ≤ s.size ∧ i = .int .i64 k) (fun i => s.size - (intOf i).toNat)
  case atStart => exact ⟨0, by omega, rfl⟩
  case round =>
    obtain ⟨k, hk, rfl⟩ := hrel
    by_cases hlt : k < s.size
    · go_wp2
      all_goals first
        | (go_ret; exact ⟨false, (fun h => nomatch h), rfl, Below.refl _ _⟩)
        | (go_round; (case rel => exact ⟨k + 1, by omega, by go_num⟩); (case measure => simp [intOf] <;> omega))
    · go_wp2
      go_ret
      refine ⟨_, fun h => ?_, rfl, Below.refl _ _⟩
      by_cases h0 : s.size = 0
      · have : s = ByteArray.empty := by
          cases s with | mk d => 
            have : d = #[] := Array.eq_empty_of_size_eq_zero h0
            rw [this]; rfl
        subst this
        simp at h
      · omega
theorem part_any (w : World) (s : ByteArray) (hm : s.size ≤ 9223372036854775807) : Calls Tryz.prog 96 #[.string s] w (RetBool w Any) := by
  go_enter Tryz.func96, Tryz.ntmps96
  go_wp2_with fail
  refine (letters_any _ _ hm).mono ?_
  rintro e w1 ⟨b, -, rfl, hb⟩
  cases b
  · go_wp2_with fail
    refine (Digits_any _ _ hm).mono ?_
    rintro e w2 ⟨b, h0, rfl, hb2⟩
    have HB := Aside0.mk (below_step hb hb2)
    clear hb hb2
    cases b
    · go_wp2_with fail
      go_ret
      exact retAny HB.out
    · have h0 : 0 < s.size := h0 rfl
      go_wp2_with fail
      all_goals
        go_ret
        exact retAny HB.out
  · go_wp2_with fail
    go_ret
    exact retAny hb
theorem Cut_any (w : World) (s : ByteArray) (by_ : Int) (hm : s.size ≤ 1000000) : Calls Tryz.prog 95 #[.string s, .int .u8 by_] w (RetS w (fun xs => xs.length ≤ s.size + 1 ∧ ∀ x ∈ xs, x.size ≤ s.size)) := by
  go_enter Tryz.func95, Tryz.ntmps95
  go_wp2
  go_loopw [5, 6, 7] (fun v f i wr => ∃ (k m : Nat) (xs : List ByteArray), k ≤ s.size + 1 ∧ m ≤ k ∧ i = .int .i64 k ∧ f = .int .i64 m ∧ xs.length ≤ k ∧ Aside0 (∀ x ∈ xs, x.size ≤ s.size) ∧ Aside0 (OwnS wr w.heap.size v xs) ∧ Aside0 (Below w.heap.size w wr)) (fun _ _ i _ => s.size + 1 - (intOf i).toNat)
  case atStart => exact ⟨0, 0, [], by omega, by omega, rfl, rfl, by simp, ⟨by simp⟩, ⟨OwnS.lit0 _ _ (Nat.le_refl _)⟩, ⟨below_alloc (Below.refl _ _) _⟩⟩
  case round =>
    obtain ⟨k, m, xs, hk, hmk, rfl, rfl, hl, hx, HO, HB⟩ := hrel
    have hx1 : ∀ x ∈ xs ++ [s.extract m k], x.size ≤ s.size := by
      intro x h
      rcases List.mem_append.1 h with h | h
      · exact hx.out x h
      · rw [List.mem_singleton.1 h, ByteArray.size_extract]; omega
    have HX := Aside0.mk hx1
    clear hx1
    by_cases hle : k ≤ s.size
    · by_cases heq : k = s.size
      · subst heq
        go_wp2_with (first | (at_builtin; refine app_str (w0 := w) w.heap.size rfl (.tmp 26) (.tmp 31) rfl _ xs (s.extract m s.size) rfl rfl HO.out HB.out HB.out.size (by omega) ?_; intro v1 w2 hO hB hg))
        go_roundw
        case rel => exact ⟨s.size + 1, s.size + 1, _, by omega, by omega, by go_num, by go_num, by rw [List.length_append, List.length_singleton]; omega, HX, ⟨hO⟩, ⟨hB⟩⟩
        case measure => simp [intOf] <;> omega
      · have hlt : k < s.size := by omega
        have hne : ((k : Int) == (s.size : Int)) = false := by rw [beq_eq_false_iff_ne]; omega
        go_wp2_with (first | (at_builtin; refine app_str (w0 := w) w.heap.size rfl (.tmp 26) (.tmp 31) rfl _ xs (s.extract m k) rfl rfl HO.out HB.out HB.out.size (by omega) ?_; intro v1 w2 hO hB hg))
        · go_roundw
          case rel => exact ⟨k + 1, k + 1, _, by omega, by omega, by go_num, by go_num, by rw [List.length_append, List.length_singleton]; omega, HX, ⟨hO⟩, ⟨hB⟩⟩
          case measure => simp [intOf] <;> omega
        · go_roundw
          case rel => exact ⟨k + 1, m, xs, by omega, by omega, by go_num, rfl, by omega, hx, HO, HB⟩
          case measure => simp [intOf] <;> omega
    · go_wp2
      go_ret
      exact ⟨_, xs, ⟨by omega, hx.out⟩, rfl, HO.out, HB.out⟩
theorem May1_any (w : World) (s : ByteArray) : Calls Tryz.prog 74 #[.string s] w (RetBool w Any) := by
  by_cases h40 : 40 < s.size
  · have h40' : decide ((40 : Int) < (s.size : Int)) = true := by rw [decide_eq_true_iff]; omega
    go_enter Tryz.func74, Tryz.ntmps74
    go_wp2
    all_goals
      go_ret
      exact retAny (Below.refl _ _)
  · go_enter Tryz.func74, Tryz.ntmps74
    go_upto_region 1 with (fail)
    go_cut [11] (fun v wc => ∃ b : Bool, v = .bool b ∧ wc = w)
    case first =>
      go_wp2_with fail
      all_goals
        go_meet
        case rel => exact ⟨_, rfl, rfl⟩
    case rest =>
      obtain ⟨b, rfl, rfl⟩ := hcut
      cases b
      · go_wp2_with fail
        refine (Cut_any _ _ _ (by omega)).mono ?_
        rintro e w1 ⟨v, xs, ⟨hl, hx⟩, rfl, HO, hb⟩
        obtain ⟨A, c, rfl, hc, hC⟩ := HO.reads
        have HX := Aside0.mk hx
        have HC := Aside0.mk hC
        have HB := Aside0.mk hb
        clear HO hx hC hb
        go_wp2_with fail
        go_loopw [16] (fun i wr => ∃ k : Nat, k ≤ xs.length ∧ i = .int .i64 k ∧ Aside0 (Below w1.heap.size w1 wr)) (fun i _ => xs.length - (intOf i).toNat)
        case atStart => exact ⟨0, by omega, rfl, ⟨Below.refl _ _⟩⟩
        case round =>
          obtain ⟨k, hk, rfl, HB1⟩ := hrel
          by_cases hlt : k < xs.length
          · obtain ⟨ad, e, h0⟩ := at_str (Kd.C_below HC.out HB1.out) k hlt
            subst e
            have hsz := HX.out _ (List.getElem_mem hlt)
            go_wp2_with fail
            refine (part_any _ _ (by omega)).mono ?_
            rintro e w2 ⟨b, -, rfl, hb⟩
            cases b
            · go_wp2_with fail
              go_ret
              exact retAny (below_step HB.out (below_step HB1.out hb))
            · go_wp2_with fail
              go_roundw
              case rel => exact ⟨k + 1, by omega, by go_num, ⟨below_step HB1.out hb⟩⟩
              case measure => simp [intOf] <;> omega
          · go_wp2_with fail
            go_ret
            exact retAny (below_step HB.out HB1.out)
      · go_wp2
        go_ret
        exact retAny (Below.refl _ _)
theorem Versions_any (w : World) (A : Option Addr) (c : Nat) (ps : List DPackage) (A2 : Option Addr) (n2 c2 : Nat) (h : Kd.C kPackage w A ps.length ps) :
   Calls Tryz.prog 51 #[.agg #[.slice A ps.length c, .slice A2 n2 c2]] w (RetBool w Any) := by
  have hm := Kd.C_max h
  have H := Aside0.mk h
  clear h
  go_enter Tryz.func51, Tryz.ntmps51
  go_wp2
  go_loopw [8] (fun i wr => ∃ k : Nat, k ≤ ps.length ∧ i = .int .i64 k ∧ Aside0 (Below w.heap.size w wr) ∧ Aside0 (wr.heap[w.heap.size]? = some (.cells #[.slice A ps.length c, .slice A2 n2 c2] 25 (0, 0)))) (fun i _ => ps.length - (intOf i).toNat)
  case atStart => exact ⟨0, by omega, rfl, ⟨below_alloc (Below.refl _ _) _⟩, ⟨blk_new _ _⟩⟩
  case round =>
    obtain ⟨k, hk, rfl, HB, BK⟩ := hrel
    have z0 : wr.cell? ⟨w.heap.size, 0, none⟩ = some (.slice A ps.length c) := blk_cell BK.out 0
    by_cases hlt : k < ps.length
    · obtain ⟨ad, B2, d2, e, h2, l2, g2⟩ := at_Package_releases (Kd.C_below H.out HB.out) k hlt
      have m2 := Kd.C_max g2
      have G2 := Aside0.mk g2
      subst e
      clear g2
      go_wp2_with fail
      obtain ⟨wo, rfl⟩ : ∃ wo : World, wo = wr := ⟨_, rfl⟩
      go_loopw [18] (fun i wr => ∃ j : Nat, j ≤ ps[k].releases.length ∧ i = .int .i64 j ∧ Aside0 (Below wo.heap.size wo wr)) (fun i _ => ps[k].releases.length - (intOf i).toNat)
      case atStart => exact ⟨0, by omega, rfl, ⟨Below.refl _ _⟩⟩
      case round =>
        obtain ⟨j, hj, rfl, HB1⟩ := hrel
        have y0 := pw_cell_below HB1.out z0
        have y2 := pw_cell_below HB1.out h2
        by_cases hjt : j < ps[k].releases.length
        · obtain ⟨ad2, e, h0⟩ := at_Release_version (Kd.C_below G2.out HB1.out) j hjt
          subst e
          go_wp2_with fail
          refine (May1_any _ _).mono ?_
          rintro e w2 ⟨b, -, rfl, hb⟩
          cases b
          · go_wp2_with fail
            go_ret
            exact retAny (below_step HB.out (below_step HB1.out hb))
          · go_wp2_with fail
            go_roundw
            case rel => exact ⟨j + 1, by omega, by go_num, ⟨below_step HB1.out hb⟩⟩
            case measure => simp [intOf] <;> omega
        · go_wp2_with fail
          go_roundw
          case rel => exact ⟨k + 1, by omega, by go_num, ⟨below_step HB.out HB1.out⟩, ⟨blk_below BK.out HB1.out⟩⟩
          case measure => simp [intOf] <;> omega
    · go_wp2_with fail
      go_ret
      exact retAny HB.out

end Go.Proofs.YtbahanlnkikpeaaGreat
