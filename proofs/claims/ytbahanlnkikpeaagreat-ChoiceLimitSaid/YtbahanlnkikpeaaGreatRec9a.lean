import Derived.Test.YtbahanlnkikpeaaGreatVer
import Derived.Test.YtbahanlnkikpeaaGreatProv
namespace Go.Proofs.YtbahanlnkikpeaaGreat
open Go.RowKit Go.Proofs.YtbahanlnkikpeaaGreatW.PrintWords Go.Proofs.YtbahanlnkikpeaaGreatW.PrintLast
set_option linter.unusedVariables false
set_option linter.unusedSimpArgs false
set_option maxRecDepth 100000
set_option maxHeartbeats 8000000
theorem twice_any (w : World) (A : Option Addr) (c : Nat) (l : List ByteArray) (h : Kd.C Kd.string w A l.length l) :
   Calls Tryz.prog 97 #[.slice A l.length c] w (RetBool w Any) := by
  have hm := Kd.C_max h
  have H := Aside0.mk h
  clear h
  go_enter Tryz.func97, Tryz.ntmps97
  go_wp2
  go_loopw [7] (fun i wr => ∃ k : Nat, k ≤ l.length ∧ i = .int .i64 k ∧ Aside0 (Below w.heap.size w wr)) (fun i _ => l.length - (intOf i).toNat)
  case atStart => exact ⟨0, by omega, rfl, ⟨Below.refl _ _⟩⟩
  case round =>
    obtain ⟨k, hk, rfl, HB⟩ := hrel
    by_cases hlt : k < l.length
    · obtain ⟨ad, e, h0⟩ := at_str (Kd.C_below H.out HB.out) k hlt
      subst e
      go_wp2
      obtain ⟨wo, rfl⟩ : ∃ wo : World, wo = wr := ⟨_, rfl⟩
      go_loopw [4] (fun i wr => ∃ j : Nat, j ≤ k ∧ i = .int .i64 j ∧ Aside0 (Below w.heap.size w wr)) (fun i _ => k - (intOf i).toNat)
      case atStart => exact ⟨0, by omega, rfl, HB⟩
      case round =>
        clear HB h0
        obtain ⟨j, hj, rfl, HB⟩ := hrel
        by_cases hjt : j < k
        · have hjl : j < l.length := by omega
          obtain ⟨ad', e, h0⟩ := at_str (Kd.C_below H.out HB.out) k hlt
          obtain ⟨ad'', e', h1⟩ := at_str (Kd.C_below H.out HB.out) j hjl
          cases e
          cases e'
          have b1 : (k : Int) < (l.length : Int) := by omega
          have b2 : (j : Int) < (l.length : Int) := by omega
          go_wp2
          go_quiet (fail)
          go_wp2
          · go_ret
            exact retAny (pw_below_drewN HB.out _)
          · go_roundw
            case rel => exact ⟨j + 1, by omega, by go_num, ⟨pw_below_drewN HB.out _⟩⟩
            case measure => simp [intOf] <;> omega
        · go_wp2
          go_roundw
          case rel => exact ⟨k + 1, by omega, by go_num, HB⟩
          case measure => simp [intOf] <;> omega
    · go_wp2
      go_ret
      exact retAny HB.out
theorem size0 {s : ByteArray} (h : s.size = 0) : s = ByteArray.empty := by
  cases s with | mk d =>
    have : d = #[] := Array.eq_empty_of_size_eq_zero h
    rw [this]; rfl
theorem notEmpty {s : ByteArray} (h : 0 < s.size) : s.toList.isEmpty = false := by
  cases hl : s.toList.isEmpty
  · rfl
  · rw [List.isEmpty_iff, toList_nil_iff_emptyBytes] at hl
    subst hl
    exact absurd h (by decide)
theorem Name_any (w : World) (s : ByteArray) : Calls Tryz.prog 117 #[.string s] w (RetBool w Any) := by
  by_cases h0 : s.size = 0
  · obtain rfl := size0 h0
    go_enter Tryz.func117, Tryz.ntmps117
    go_wp2
    go_ret
    exact retAny (Below.refl _ _)
  · have hpos : 0 < s.size := by omega
    have hne := notEmpty hpos
    by_cases h24 : 24 < s.size
    · have h24' : decide ((24 : Int) < (s.size : Int)) = true := by rw [decide_eq_true_iff]; omega
      go_enter Tryz.func117, Tryz.ntmps117
      go_wp2
      go_ret
      exact retAny (Below.refl _ _)
    · go_enter Tryz.func117, Tryz.ntmps117
      go_upto_region 1 with (fail)
      go_cut [21] (fun v wc => ∃ b : Bool, v = .bool b ∧ wc = w)
      case first =>
        go_wp2_with fail
        all_goals
          go_meet
          case rel => exact ⟨_, rfl, rfl⟩
      case rest =>
        obtain ⟨b, rfl, rfl⟩ := hcut
        cases b
        · go_wp2
          go_loop [3] (fun i => ∃ k : Nat, k ≤ s.size ∧ i = .int .i64 k) (fun i => s.size - (intOf i).toNat)
          case atStart => exact ⟨0, by omega, rfl⟩
          case round =>
            obtain ⟨k, hk, rfl⟩ := hrel
            by_cases hlt : k < s.size
            · go_wp2
              all_goals first
                | (go_ret; exact retAny (Below.refl _ _))
                | (go_round; (case rel => exact ⟨k + 1, by omega, by go_num⟩); (case measure => simp [intOf] <;> omega))
            · go_wp2
              go_ret
              exact retAny (Below.refl _ _)
        · go_wp2
          go_ret
          exact retAny (Below.refl _ _)
theorem Value_any (w : World) (s : ByteArray) (hm : s.size ≤ 100) : Calls Tryz.prog 118 #[.string s] w (RetBool w Any) := by
  go_enter Tryz.func118, Tryz.ntmps118
  go_wp2_with fail
  refine (Name_any _ _).mono ?_
  rintro e w1 ⟨b, -, rfl, hb⟩
  cases b
  · go_wp2_with fail
    refine (Digits_any _ _ (by omega)).mono ?_
    rintro e w2 ⟨b, -, rfl, hb2⟩
    cases b
    all_goals
      go_wp2_with fail
      go_ret
      exact retAny (below_step hb hb2)
  · go_wp2_with fail
    go_ret
    exact retAny hb
/-- What variants that may be are known to be. -/
def V4 (l : List DVariant) : Prop := l.length ≤ 4 ∧ ∀ v ∈ l, 0 < v.values.length ∧ v.values.length ≤ 4
def V4P (l : List DVariant) (b : Bool) : Prop := b = true → V4 l
theorem retV4 {l : List DVariant} {w w1 : World} (h : Below w.heap.size w w1) : RetBool w (V4P l) (.returned (.bool false)) w1 := ⟨false, (fun h => nomatch h), rfl, h⟩
theorem May4_any (w : World) (A : Option Addr) (c : Nat) (l : List DVariant) (h : Kd.C kVariant w A l.length l) (hsz : ∀ v ∈ l, SzV v) :
   Calls Tryz.prog 98 #[.slice A l.length c] w (RetBool w (V4P l)) := by
  have hm := Kd.C_max h
  have H := Aside0.mk h
  have HS := Aside0.mk hsz
  clear h hsz
  by_cases h4 : 4 < l.length
  · go_enter Tryz.func98, Tryz.ntmps98
    go_wp2
    go_ret
    exact retV4 (Below.refl _ _)
  · have h4' : decide (4 < l.length) = false := decide_eq_false h4
    go_enter Tryz.func98, Tryz.ntmps98
    go_wp2
    go_loopw [12] (fun i wr => ∃ k : Nat, k ≤ l.length ∧ i = .int .i64 k ∧ Aside0 (∀ j, (hj : j < l.length) → j < k → 0 < l[j].values.length ∧ l[j].values.length ≤ 4) ∧ Aside0 (Below w.heap.size w wr)) (fun i _ => l.length - (intOf i).toNat)
    case atStart => exact ⟨0, by omega, rfl, ⟨fun j _ hj => by omega⟩, ⟨Below.refl _ _⟩⟩
    case round =>
      obtain ⟨k, hk, rfl, hno, HB⟩ := hrel
      by_cases hlt : k < l.length
      · obtain ⟨ad, B1, d1, e, h0, h1, l1, g1⟩ := at_Variant (Kd.C_below H.out HB.out) k hlt
        have m1 := Kd.C_max g1
        have G1 := Aside0.mk g1
        subst e
        clear g1
        have bk : (k : Int) < (l.length : Int) := by omega
        go_upto_region 6 with (fail)
        go_cut [39] (fun v wc => ∃ b : Bool, v = .bool b ∧ Aside0 (b = false → 0 < l[k].values.length ∧ l[k].values.length ≤ 4) ∧ Aside0 (Below wr.heap.size wr wc))
        case first =>
          go_wp2_with fail
          refine (Name_any _ _).mono ?_
          rintro e w1 ⟨b, -, rfl, hb⟩
          have q1 := pw_cell_below hb h1
          cases b
          · go_wp2_with fail
            go_meet
            case rel => exact ⟨_, rfl, ⟨fun h => nomatch h⟩, ⟨hb⟩⟩
          · by_cases hz : l[k].values.length = 0
            · have hz' : ((l[k].values.length : Int) == 0) = true := by rw [hz]; rfl
              go_wp2_with fail
              go_meet
              case rel => exact ⟨_, rfl, ⟨fun h => nomatch h⟩, ⟨hb⟩⟩
            · have hz' : ((l[k].values.length : Int) == 0) = false := by rw [beq_eq_false_iff_ne]; omega
              by_cases hf : 4 < l[k].values.length
              · have hf' : decide ((4 : Int) < (l[k].values.length : Int)) = true := by rw [decide_eq_true_iff]; omega
                go_wp2_with fail
                go_meet
                case rel => exact ⟨_, rfl, ⟨fun h => nomatch h⟩, ⟨hb⟩⟩
              · have hf' : decide ((4 : Int) < (l[k].values.length : Int)) = false := by rw [decide_eq_false_iff_not]; omega
                go_wp2_with fail
                go_meet
                case rel => exact ⟨_, rfl, ⟨fun _ => ⟨by omega, by omega⟩⟩, ⟨hb⟩⟩
        case rest =>
          obtain ⟨b, rfl, hP, hb⟩ := hcut
          cases b
          · have hP := Aside0.mk (hP.out rfl)
            go_wp2
            clear h0 h1
            obtain ⟨wa, rfl⟩ : ∃ wa : World, wa = wr := ⟨_, rfl⟩
            go_loopw [4] (fun i wq => ∃ j : Nat, j ≤ k ∧ i = .int .i64 j ∧ Aside0 (Below wa.heap.size wa wq)) (fun i _ => k - (intOf i).toNat)
            case atStart => exact ⟨0, by omega, rfl, hb⟩
            case round =>
              clear hb
              obtain ⟨j, hj, rfl, hb⟩ := hrel
              by_cases hjt : j < k
              · have hjl : j < l.length := by omega
                obtain ⟨ad1, e1, y0⟩ := at_Variant_name (Kd.C_below H.out (below_step HB.out hb.out)) k hlt
                obtain ⟨ad2, e2, y1⟩ := at_Variant_name (Kd.C_below H.out (below_step HB.out hb.out)) j hjl
                cases e1
                cases e2
                have bj : (j : Int) < (l.length : Int) := by omega
                go_wp2
                go_quiet (fail)
                go_wp2
                · go_ret
                  exact retV4 (pw_below_drewN (below_step HB.out hb.out) _)
                · go_roundw
                  case rel => exact ⟨j + 1, by omega, by go_num, ⟨pw_below_drewN hb.out _⟩⟩
                  case measure => simp [intOf] <;> omega
              · obtain ⟨ad1, B2, d2, e1, y1, l2, g2⟩ := at_Variant_values (Kd.C_below H.out (below_step HB.out hb.out)) k hlt
                have G2 := Aside0.mk g2
                clear g2
                cases e1
                have hsv := HS.out _ (List.getElem_mem hlt)
                go_wp2
                have HBo := Aside0.mk (below_step HB.out hb.out)
                obtain ⟨wo, rfl⟩ : ∃ wo : World, wo = wr := ⟨_, rfl⟩
                clear y1 hjt hj
                go_loopw [62] (fun i wr => ∃ j : Nat, j ≤ l[k].values.length ∧ i = .int .i64 j ∧ Aside0 (Below wo.heap.size wo wr)) (fun i _ => l[k].values.length - (intOf i).toNat)
                case atStart => exact ⟨0, by omega, rfl, ⟨Below.refl _ _⟩⟩
                case round =>
                  obtain ⟨j, hj, rfl, hc⟩ := hrel
                  have HBr := Aside0.mk (below_step HBo.out hc.out)
                  by_cases hjt : j < l[k].values.length
                  · obtain ⟨ad1, B3, d3, e1, y1, l3, g3⟩ := at_Variant_values (Kd.C_below H.out HBr.out) k hlt
                    obtain ⟨ad2, e2, y2⟩ := at_str g3 j hjt
                    have G3 := Aside0.mk g3
                    clear g3
                    cases e1
                    cases e2
                    have hs1 := hsv _ (List.getElem_mem hjt)
                    go_wp2_with fail
                    refine (Value_any _ _ hs1).mono ?_
                    rintro e w2 ⟨b, -, rfl, hd⟩
                    have HB2 := Aside0.mk (below_step HBr.out hd)
                    cases b
                    · go_wp2_with fail
                      go_ret
                      exact retV4 HB2.out
                    · go_wp2_with fail
                      go_loopw [6] (fun i wr => ∃ n : Nat, n ≤ j ∧ i = .int .i64 n ∧ Aside0 (Below w2.heap.size w2 wr)) (fun i _ => j - (intOf i).toNat)
                      case atStart => exact ⟨0, by omega, rfl, ⟨Below.refl _ _⟩⟩
                      case round =>
                        obtain ⟨n, hn, rfl, he⟩ := hrel
                        by_cases hnt : n < j
                        · have hnl : n < l[k].values.length := by omega
                          obtain ⟨ad1, B4, d4, e1, x1, l4, g4⟩ := at_Variant_values (Kd.C_below H.out (below_step HB2.out he.out)) k hlt
                          obtain ⟨ad2, e2, x2⟩ := at_str g4 j hjt
                          obtain ⟨ad3, e3, x3⟩ := at_str g4 n hnl
                          clear g4
                          cases e1
                          cases e2
                          cases e3
                          have bj : (j : Int) < (l[k].values.length : Int) := by omega
                          have bn : (n : Int) < (l[k].values.length : Int) := by omega
                          go_wp2
                          go_quiet (fail)
                          go_wp2
                          · go_ret
                            exact retV4 (pw_below_drewN (below_step HB2.out he.out) _)
                          · go_roundw
                            case rel => exact ⟨n + 1, by omega, by go_num, ⟨pw_below_drewN he.out _⟩⟩
                            case measure => simp [intOf] <;> omega
                        · go_wp2
                          go_roundw
                          case rel => exact ⟨j + 1, by omega, by go_num, ⟨below_step hc.out (below_step hd he.out)⟩⟩
                          case measure => simp [intOf] <;> omega
                  · go_wp2
                    go_roundw
                    case rel => exact ⟨k + 1, by omega, by go_num, ⟨fun j hj hjk => by
                      by_cases e : j = k
                      · subst e; exact hP.out trivial
                      · exact hno.out j hj (by omega)⟩, HBr⟩
                    case measure => simp [intOf] <;> omega
          · go_wp2
            go_ret
            exact retV4 (below_step HB.out hb.out)
      · go_wp2
        go_ret
        refine ⟨_, fun _ => ⟨by omega, fun v hv => ?_⟩, rfl, HB.out⟩
        obtain ⟨j, hj, rfl⟩ := List.getElem_of_mem hv
        exact hno.out j hj (by omega)

end Go.Proofs.YtbahanlnkikpeaaGreat
