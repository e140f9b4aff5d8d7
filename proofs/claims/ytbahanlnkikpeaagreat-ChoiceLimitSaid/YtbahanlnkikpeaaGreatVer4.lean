import Derived.Test.YtbahanlnkikpeaaGreatVer
import Derived.Test.YtbahanlnkikpeaaGreatProv
namespace Go.Proofs.YtbahanlnkikpeaaGreat
open Go.RowKit Go.Proofs.YtbahanlnkikpeaaGreatW.PrintWords Go.Proofs.YtbahanlnkikpeaaGreatW.PrintLast
set_option linter.unusedVariables false
set_option linter.unusedSimpArgs false
section
set_option maxRecDepth 100000
set_option maxHeartbeats 8000000
/-! Versions compared, spans asked: what they say is not told; they return. -/
def SomeB (e : Ending) : Prop := ∃ b : Bool, e = .returned (.bool b)
theorem someB (b : Bool) : SomeB (.returned (.bool b)) := ⟨b, rfl⟩
theorem letters_same (w : World) (s : ByteArray) (hm : s.size ≤ 9223372036854775807) : Calls Tryz.prog 115 #[.string s] w (fun e w' => SomeB e ∧ w' = w) := by
  go_enter Tryz.func115, Tryz.ntmps115
  go_wp2
  go_loop [3] (fun i => ∃ k : Nat, k ≤ s.size ∧ i = .int .i64 k) (fun i => s.size - (intOf i).toNat)
  case atStart => exact ⟨0, by omega, rfl⟩
  case round =>
    obtain ⟨k, hk, rfl⟩ := hrel
    by_cases hlt : k < s.size
    · go_wp2
      all_goals first
        | (go_ret; exact ⟨someB _, rfl⟩)
        | (go_round; (case rel => exact ⟨k + 1, by omega, by go_num⟩); (case measure => simp [intOf] <;> omega))
    · go_wp2
      go_ret
      exact ⟨someB _, rfl⟩
theorem Digits_same (w : World) (s : ByteArray) (hm : s.size ≤ 9223372036854775807) : Calls Tryz.prog 116 #[.string s] w (fun e w' => SomeB e ∧ w' = w) := by
  go_enter Tryz.func116, Tryz.ntmps116
  go_wp2
  go_loop [3] (fun i => ∃ k : Nat, k ≤ s.size ∧ i = .int .i64 k) (fun i => s.size - (intOf i).toNat)
  case atStart => exact ⟨0, by omega, rfl⟩
  case round =>
    obtain ⟨k, hk, rfl⟩ := hrel
    by_cases hlt : k < s.size
    · go_wp2
      all_goals first
        | (go_ret; exact ⟨someB _, rfl⟩)
        | (go_round; (case rel => exact ⟨k + 1, by omega, by go_num⟩); (case measure => simp [intOf] <;> omega))
    · go_wp2
      go_ret
      exact ⟨someB _, rfl⟩
theorem before_same (w : World) (a b : ByteArray) (ha : a.size ≤ 9223372036854775807) (hb : b.size ≤ 9223372036854775807) : Calls Tryz.prog 149 #[.string a, .string b] w (fun e w' => SomeB e ∧ w' = w) := by
  have LA := Aside0.mk (letters_same w a ha)
  have LB := Aside0.mk (letters_same w b hb)
  have DA := Aside0.mk (Digits_same w a ha)
  have DB := Aside0.mk (Digits_same w b hb)
  rcases Bool.eq_false_or_eq_true (a.toList == b.toList) with e0 | e0
  · go_enter Tryz.func149, Tryz.ntmps149
    go_wp2_with fail
    go_ret
    exact ⟨someB _, rfl⟩
  · rcases Bool.eq_false_or_eq_true a.toList.isEmpty with e1 | e1
    · go_enter Tryz.func149, Tryz.ntmps149
      go_wp2_with fail
      all_goals
        refine DB.out.mono ?_
        rintro e w1 ⟨⟨b1, rfl⟩, rfl⟩
        go_wp2_with fail
        go_ret
        exact ⟨someB _, rfl⟩
    · rcases Bool.eq_false_or_eq_true b.toList.isEmpty with e2 | e2
      · go_enter Tryz.func149, Tryz.ntmps149
        go_wp2_with fail
        refine LA.out.mono ?_
        rintro e w1 ⟨⟨b1, rfl⟩, rfl⟩
        go_wp2_with fail
        go_ret
        exact ⟨someB _, rfl⟩
      · go_enter Tryz.func149, Tryz.ntmps149
        go_wp2_with fail
        refine LA.out.mono ?_
        rintro e w1 ⟨⟨b1, rfl⟩, rfl⟩
        go_wp2_with fail
        refine LB.out.mono ?_
        rintro e w2 ⟨⟨b2, rfl⟩, rfl⟩
        by_cases hbb : b1 = b2
        · subst hbb
          cases b1 <;>
          · go_wp2_with fail
            refine DA.out.mono ?_
            rintro e w3 ⟨⟨b3, rfl⟩, rfl⟩
            cases b3
            · go_wp2_with fail
              go_ret
              exact ⟨someB _, rfl⟩
            · go_wp2_with fail
              all_goals
                go_ret
                exact ⟨someB _, rfl⟩
        · have hb1 : (b1 == b2) = false := by cases b1 <;> cases b2 <;> simp_all
          cases b1 <;> cases b2 <;> (try exact absurd rfl hbb) <;>
          · go_wp2_with fail
            refine LA.out.mono ?_
            rintro e w3 ⟨⟨b3, rfl⟩, rfl⟩
            go_wp2_with fail
            go_ret
            exact ⟨someB _, rfl⟩
theorem at_same (w : World) (A : Option Addr) (c : Nat) (xs : List ByteArray) (k : Nat) (h : Kd.C Kd.string w A xs.length xs) : Calls Tryz.prog 150 #[.slice A xs.length c, .int .i64 k] w (fun e w' => e = .returned (.string (xs.getD k ByteArray.empty)) ∧ w' = w) := by
  by_cases hk : k < xs.length
  · obtain ⟨ad, e, y⟩ := at_str h k hk
    subst e
    rw [getD_at _ _ hk]
    have hki : (k : Int) < (xs.length : Int) := by omega
    clear h
    go_enter Tryz.func150, Tryz.ntmps150
    go_wp2_with fail
    go_ret
    exact ⟨rfl, rfl⟩
  · have e : xs.getD k ByteArray.empty = ByteArray.empty := by rw [List.getD_eq_getElem?_getD, List.getElem?_eq_none (by omega)]; rfl
    rw [e]
    have hki : (xs.length : Int) ≤ (k : Int) := by omega
    clear h
    go_enter Tryz.func150, Tryz.ntmps150
    go_wp2_with fail
    go_ret
    exact ⟨rfl, rfl⟩
def MayP (s : ByteArray) (b : Bool) : Prop := b = true → s.size ≤ 40
theorem retMay {s : ByteArray} {b : Bool} {w w1 : World} (h : Below w.heap.size w w1) (hs : b = true → s.size ≤ 40) : RetBool w (MayP s) (.returned (.bool b)) w1 := ⟨b, hs, rfl, h⟩
theorem May1_len (w : World) (s : ByteArray) : Calls Tryz.prog 74 #[.string s] w (RetBool w (MayP s)) := by
  by_cases h40 : 40 < s.size
  · have h40' : decide ((40 : Int) < (s.size : Int)) = true := by rw [decide_eq_true_iff]; omega
    go_enter Tryz.func74, Tryz.ntmps74
    go_wp2
    all_goals
      go_ret
      exact retMay (Below.refl _ _) (fun h => by cases h)
  · go_enter Tryz.func74, Tryz.ntmps74
    go_upto_region 1 with (fail)
    go_cut [11] (fun v wc => ∃ b : Bool, v = .bool b ∧ wc = w)
    case first =>
      go_wp2_with fail
      all_goals
        go_meet
        case rel => exact ⟨_, rfl, rfl⟩
    case rest =>
      obtain ⟨b, rfl, rfl⟩ := hcut
      cases b
      · go_wp2_with fail
        refine (Cut_any _ _ _ (by omega)).mono ?_
        rintro e w1 ⟨v, xs, ⟨hl, hx⟩, rfl, HO, hb⟩
        obtain ⟨A, c, rfl, hc, hC⟩ := HO.reads
        have HX := Aside0.mk hx
        have HC := Aside0.mk hC
        have HB := Aside0.mk hb
        clear HO hx hC hb
        go_wp2_with fail
        go_loopw [16] (fun i wr => ∃ k : Nat, k ≤ xs.length ∧ i = .int .i64 k ∧ Aside0 (Below w1.heap.size w1 wr)) (fun i _ => xs.length - (intOf i).toNat)
        case atStart => exact ⟨0, by omega, rfl, ⟨Below.refl _ _⟩⟩
        case round =>
          obtain ⟨k, hk, rfl, HB1⟩ := hrel
          by_cases hlt : k < xs.length
          · obtain ⟨ad, e, h0⟩ := at_str (Kd.C_below HC.out HB1.out) k hlt
            subst e
            have hsz := HX.out _ (List.getElem_mem hlt)
            go_wp2_with fail
            refine (part_any _ _ (by omega)).mono ?_
            rintro e w2 ⟨b, -, rfl, hb⟩
            cases b
            · go_wp2_with fail
              go_ret
              exact retMay (below_step HB.out (below_step HB1.out hb)) (fun h => by cases h)
            · go_wp2_with fail
              go_roundw
              case rel => exact ⟨k + 1, by omega, by go_num, ⟨below_step HB1.out hb⟩⟩
              case measure => simp [intOf] <;> omega
          · go_wp2_with fail
            go_ret
            exact retMay (below_step HB.out HB1.out) (fun _ => by omega)
      · go_wp2
        go_ret
        exact retMay (Below.refl _ _) (fun h => by cases h)

end
section
set_option maxRecDepth 100000
set_option maxHeartbeats 2000000
theorem Less_any (w : World) (a b : ByteArray) : Calls Tryz.prog 134 #[.string a, .string b] w (RetBool w Any) := by
  go_enter Tryz.func134, Tryz.ntmps134
  go_wp2_with fail
  refine (May1_len _ a).mono ?_
  rintro e w1 ⟨b1, h1, rfl, hb1⟩
  have HB1 := Aside0.mk hb1
  clear hb1
  cases b1 with
  | false =>
    clear h1
    go_wp2_with fail
    refine (May1_len _ a).mono ?_
    rintro e w2 ⟨b2, -, rfl, hb2⟩
    have HB2 := Aside0.mk (below_step HB1.out hb2)
    clear hb2
    cases b2 with
    | false =>
      go_wp2_with fail
      refine (May1_len _ b).mono ?_
      rintro e w3 ⟨b3, -, rfl, hb3⟩
      have HB3 := Aside0.mk (below_step HB2.out hb3)
      clear hb3
      go_wp2_with fail
      go_ret
      exact retAny HB3.out
    | true =>
      go_wp2_with fail
      go_ret
      exact retAny HB2.out
  | true =>
    have ha := h1 rfl
    clear h1
    go_wp2_with fail
    refine (May1_len _ b).mono ?_
    rintro e w2 ⟨b2, h2, rfl, hb2⟩
    have HB2 := Aside0.mk (below_step HB1.out hb2)
    clear hb2
    cases b2 with
    | false =>
      clear h2
      go_wp2_with fail
      refine (May1_len _ a).mono ?_
      rintro e w3 ⟨b3, -, rfl, hb3⟩
      have HB3 := Aside0.mk (below_step HB2.out hb3)
      clear hb3
      cases b3 with
      | false =>
        go_wp2_with fail
        refine (May1_len _ b).mono ?_
        rintro e w4 ⟨b4, -, rfl, hb4⟩
        have HB4 := Aside0.mk (below_step HB3.out hb4)
        clear hb4
        go_wp2_with fail
        go_ret
        exact retAny HB4.out
      | true =>
        go_wp2_with fail
        go_ret
        exact retAny HB3.out
    | true =>
      have hb := h2 rfl
      clear h2
      go_wp2_with fail
      refine (Cut_any _ a _ (by omega)).mono ?_
      rintro e w3 ⟨v, xs, ⟨hl, hx⟩, rfl, HO, hb3⟩
      obtain ⟨Ax, cx, rfl, -, hC⟩ := HO.reads
      have HX := Aside0.mk hx
      have HC := Aside0.mk hC
      have HB3 := Aside0.mk (below_step HB2.out hb3)
      clear HO hx hC hb3
      go_wp2_with fail
      refine (Cut_any _ b _ (by omega)).mono ?_
      rintro e w4 ⟨v, ys, ⟨hly, hy⟩, rfl, HO, hb4⟩
      obtain ⟨Ay, cy, rfl, -, hCy⟩ := HO.reads
      have HY := Aside0.mk hy
      have HCy := Aside0.mk hCy
      have HCx := Aside0.mk (Kd.C_below HC.out hb4)
      have HB4 := Aside0.mk (below_step HB3.out hb4)
      clear HO hy hCy hb4 HC HB3
      have hsx : Aside0 (∀ k, (xs.getD k ByteArray.empty).size ≤ 9223372036854775807) := ⟨fun k => by
        by_cases hk : k < xs.length
        · rw [getD_at _ _ hk]; have := HX.out _ (List.getElem_mem hk); omega
        · rw [List.getD_eq_getElem?_getD, List.getElem?_eq_none (by omega)]; simp⟩
      have hsy : Aside0 (∀ k, (ys.getD k ByteArray.empty).size ≤ 9223372036854775807) := ⟨fun k => by
        by_cases hk : k < ys.length
        · rw [getD_at _ _ hk]; have := HY.out _ (List.getElem_mem hk); omega
        · rw [List.getD_eq_getElem?_getD, List.getElem?_eq_none (by omega)]; simp⟩
      go_wp2_with fail
      go_loopw [7] (fun i W => ∃ k : Nat, k ≤ 42 ∧ i = .int .i64 k ∧ W = w4) (fun i _ => 42 - (intOf i).toNat)
      case atStart => exact ⟨0, by omega, rfl, rfl⟩
      case round =>
        obtain ⟨k, hk, rfl, rfl⟩ := hrel
        obtain ⟨xk, hxk⟩ : ∃ xk, xk = xs.getD k ByteArray.empty := ⟨_, rfl⟩
        obtain ⟨yk, hyk⟩ : ∃ yk, yk = ys.getD k ByteArray.empty := ⟨_, rfl⟩
        have AX := Aside0.mk (at_same wr Ax cx xs k HCx.out)
        have AY := Aside0.mk (at_same wr Ay cy ys k HCy.out)
        have B1 := Aside0.mk (before_same wr _ _ (hsx.out k) (hsy.out k))
        have B2 := Aside0.mk (before_same wr _ _ (hsy.out k) (hsx.out k))
        rw [← hxk] at AX B1 B2
        rw [← hyk] at AY B1 B2
        clear hxk hyk
        by_cases hlt : k < xs.length ∨ k < ys.length
        · have hk42 : k < 42 := by omega
          have hki : decide (k < xs.length) = true ∨ (decide (k < xs.length) = false ∧ decide (k < ys.length) = true) := by
            by_cases h : k < xs.length
            · exact .inl (decide_eq_true h)
            · exact .inr ⟨decide_eq_false h, decide_eq_true (by omega)⟩
          clear hlt
          rcases hki with d1 | ⟨d1, d2⟩ <;>
          · go_wp2_with fail
            refine AX.out.mono ?_
            rintro e w5 ⟨rfl, rfl⟩
            go_wp2_with fail
            refine AY.out.mono ?_
            rintro e w5 ⟨rfl, rfl⟩
            go_wp2_with fail
            refine B1.out.mono ?_
            rintro e w5 ⟨⟨b5, rfl⟩, rfl⟩
            cases b5
            · go_wp2_with fail
              refine AY.out.mono ?_
              rintro e w5 ⟨rfl, rfl⟩
              go_wp2_with fail
              refine AX.out.mono ?_
              rintro e w5 ⟨rfl, rfl⟩
              go_wp2_with fail
              refine B2.out.mono ?_
              rintro e w5 ⟨⟨b5, rfl⟩, rfl⟩
              cases b5
              · go_wp2_with fail
                go_roundw
                case rel => exact ⟨k + 1, by omega, by go_num, trivial⟩
                case measure => simp [intOf] <;> omega
              · go_wp2_with fail
                go_ret
                exact retAny HB4.out
            · go_wp2_with fail
              go_ret
              exact retAny HB4.out
        · have d1 : (xs.length : Int) ≤ (k : Int) := by omega
          have d2 : (ys.length : Int) ≤ (k : Int) := by omega
          go_wp2_with fail
          all_goals
            go_ret
            exact retAny HB4.out

end
section
set_option maxRecDepth 100000
set_option maxHeartbeats 2000000
theorem bound_any (w : World) (s : ByteArray) : Calls Tryz.prog 148 #[.string s] w (RetBool w Any) := by
  rcases Bool.eq_false_or_eq_true s.toList.isEmpty with e1 | e1
  · go_enter Tryz.func148, Tryz.ntmps148
    go_wp2_with fail
    go_ret
    exact retAny (Below.refl _ _)
  · go_enter Tryz.func148, Tryz.ntmps148
    go_wp2_with fail
    refine (May1_any _ s).mono ?_
    rintro e w1 ⟨b1, -, rfl, hb⟩
    have HB := Aside0.mk hb
    clear hb
    go_wp2_with fail
    go_ret
    exact retAny HB.out
theorem May2_any (w : World) (lo hi : ByteArray) : Calls Tryz.prog 133 #[.agg #[.string lo, .string hi]] w (RetBool w Any) := by
  have HF := Aside0.mk (Fr1.mk0 w 86 #[.string lo, .string hi])
  rcases Bool.eq_false_or_eq_true lo.toList.isEmpty with e1 | e1 <;> rcases Bool.eq_false_or_eq_true hi.toList.isEmpty with e2 | e2 <;>
  · go_enter Tryz.func133, Tryz.ntmps133
    go_wp2_with fail
    refine (bound_any _ lo).mono ?_
    rintro e w1 ⟨b1, -, rfl, hb⟩
    have HF1 := Aside0.mk (HF.out.step hb)
    clear hb
    obtain ⟨y0, y1⟩ := cells2 HF1.out.b0
    cases b1
    · go_wp2_with fail
      go_ret
      exact retAny HF1.out.below
    · go_wp2_with fail
      refine (bound_any _ hi).mono ?_
      rintro e w2 ⟨b2, -, rfl, hb⟩
      have HF2 := Aside0.mk (HF1.out.step hb)
      clear hb y0 y1
      obtain ⟨y0, y1⟩ := cells2 HF2.out.b0
      cases b2
      · go_wp2_with fail
        go_ret
        exact retAny HF2.out.below
      · go_wp2_with fail
        first
          | (go_ret; exact retAny HF2.out.below)
          | (refine (Less_any _ hi lo).mono ?_; rintro e w3 ⟨b3, -, rfl, hb3⟩; have HF3 := Aside0.mk (HF2.out.step hb3); clear hb3; go_wp2_with fail; go_ret; exact retAny HF3.out.below)
theorem Has2_tt (w : World) (lo hi v : ByteArray) (e1 : lo.toList.isEmpty = true) (e2 : hi.toList.isEmpty = true) : Calls Tryz.prog 114 #[.agg #[.string lo, .string hi], .string v] w (RetBool w Any) := by
  have HF := Aside0.mk (Fr1.mk0 w 86 #[.string lo, .string hi])
  go_enter Tryz.func114, Tryz.ntmps114
  go_wp2_with fail
  refine (May2_any _ lo hi).mono ?_
  rintro e w1 ⟨b1, -, rfl, hb⟩
  have HF1 := Aside0.mk (HF.out.step hb)
  clear hb
  cases b1
  · go_wp2_with fail
    go_ret
    exact retAny HF1.out.below
  · go_wp2_with fail
    refine (May1_any _ v).mono ?_
    rintro e w2 ⟨b2, -, rfl, hb⟩
    have HF2 := Aside0.mk (HF1.out.step hb)
    clear hb
    obtain ⟨y0, y1⟩ := cells2 HF2.out.b0
    cases b2
    · go_wp2_with fail
      go_ret
      exact retAny HF2.out.below
    · go_wp2_with fail
      go_ret
      exact retAny HF2.out.below
theorem Has2_tf (w : World) (lo hi v : ByteArray) (e1 : lo.toList.isEmpty = true) (e2 : hi.toList.isEmpty = false) : Calls Tryz.prog 114 #[.agg #[.string lo, .string hi], .string v] w (RetBool w Any) := by
  have HF := Aside0.mk (Fr1.mk0 w 86 #[.string lo, .string hi])
  go_enter Tryz.func114, Tryz.ntmps114
  go_wp2_with fail
  refine (May2_any _ lo hi).mono ?_
  rintro e w1 ⟨b1, -, rfl, hb⟩
  have HF1 := Aside0.mk (HF.out.step hb)
  clear hb
  cases b1
  · go_wp2_with fail
    go_ret
    exact retAny HF1.out.below
  · go_wp2_with fail
    refine (May1_any _ v).mono ?_
    rintro e w2 ⟨b2, -, rfl, hb⟩
    have HF2 := Aside0.mk (HF1.out.step hb)
    clear hb
    obtain ⟨y0, y1⟩ := cells2 HF2.out.b0
    cases b2
    · go_wp2_with fail
      go_ret
      exact retAny HF2.out.below
    · go_wp2_with fail
      refine (Less_any _ hi v).mono ?_
      rintro e w4 ⟨b4, -, rfl, hb4⟩
      have HF4 := Aside0.mk (HF2.out.step hb4)
      clear hb4
      go_wp2_with fail
      go_ret
      exact retAny HF4.out.below
theorem Has2_ft (w : World) (lo hi v : ByteArray) (e1 : lo.toList.isEmpty = false) (e2 : hi.toList.isEmpty = true) : Calls Tryz.prog 114 #[.agg #[.string lo, .string hi], .string v] w (RetBool w Any) := by
  have HF := Aside0.mk (Fr1.mk0 w 86 #[.string lo, .string hi])
  go_enter Tryz.func114, Tryz.ntmps114
  go_wp2_with fail
  refine (May2_any _ lo hi).mono ?_
  rintro e w1 ⟨b1, -, rfl, hb⟩
  have HF1 := Aside0.mk (HF.out.step hb)
  clear hb
  cases b1
  · go_wp2_with fail
    go_ret
    exact retAny HF1.out.below
  · go_wp2_with fail
    refine (May1_any _ v).mono ?_
    rintro e w2 ⟨b2, -, rfl, hb⟩
    have HF2 := Aside0.mk (HF1.out.step hb)
    clear hb
    obtain ⟨y0, y1⟩ := cells2 HF2.out.b0
    cases b2
    · go_wp2_with fail
      go_ret
      exact retAny HF2.out.below
    · go_wp2_with fail
      refine (Less_any _ v lo).mono ?_
      rintro e w3 ⟨b3, -, rfl, hb3⟩
      have HF3 := Aside0.mk (HF2.out.step hb3)
      clear hb3 y0 y1
      obtain ⟨y0, y1⟩ := cells2 HF3.out.b0
      cases b3
      · go_wp2_with fail
        go_ret
        exact retAny HF3.out.below
      · go_wp2_with fail
        go_ret
        exact retAny HF3.out.below
theorem Has2_ff (w : World) (lo hi v : ByteArray) (e1 : lo.toList.isEmpty = false) (e2 : hi.toList.isEmpty = false) : Calls Tryz.prog 114 #[.agg #[.string lo, .string hi], .string v] w (RetBool w Any) := by
  have HF := Aside0.mk (Fr1.mk0 w 86 #[.string lo, .string hi])
  go_enter Tryz.func114, Tryz.ntmps114
  go_wp2_with fail
  refine (May2_any _ lo hi).mono ?_
  rintro e w1 ⟨b1, -, rfl, hb⟩
  have HF1 := Aside0.mk (HF.out.step hb)
  clear hb
  cases b1
  · go_wp2_with fail
    go_ret
    exact retAny HF1.out.below
  · go_wp2_with fail
    refine (May1_any _ v).mono ?_
    rintro e w2 ⟨b2, -, rfl, hb⟩
    have HF2 := Aside0.mk (HF1.out.step hb)
    clear hb
    obtain ⟨y0, y1⟩ := cells2 HF2.out.b0
    cases b2
    · go_wp2_with fail
      go_ret
      exact retAny HF2.out.below
    · go_wp2_with fail
      refine (Less_any _ v lo).mono ?_
      rintro e w3 ⟨b3, -, rfl, hb3⟩
      have HF3 := Aside0.mk (HF2.out.step hb3)
      clear hb3 y0 y1
      obtain ⟨y0, y1⟩ := cells2 HF3.out.b0
      cases b3
      · go_wp2_with fail
        refine (Less_any _ hi v).mono ?_
        rintro e w4 ⟨b4, -, rfl, hb4⟩
        have HF4 := Aside0.mk (HF3.out.step hb4)
        clear hb4
        go_wp2_with fail
        go_ret
        exact retAny HF4.out.below
      · go_wp2_with fail
        go_ret
        exact retAny HF3.out.below
theorem Has2_any (w : World) (lo hi v : ByteArray) : Calls Tryz.prog 114 #[.agg #[.string lo, .string hi], .string v] w (RetBool w Any) := by
  rcases Bool.eq_false_or_eq_true lo.toList.isEmpty with e1 | e1 <;> rcases Bool.eq_false_or_eq_true hi.toList.isEmpty with e2 | e2
  · exact Has2_tt w lo hi v e1 e2
  · exact Has2_tf w lo hi v e1 e2
  · exact Has2_ft w lo hi v e1 e2
  · exact Has2_ff w lo hi v e1 e2
theorem Has3_any (w : World) (A : Option Addr) (c : Nat) (l : List DSpan) (v : ByteArray) (h : Kd.C kSpan w A l.length l) : Calls Tryz.prog 93 #[.slice A l.length c, .string v] w (RetBool w Any) := by
  have hm := Kd.C_max h
  have H := Aside0.mk h
  clear h
  go_enter Tryz.func93, Tryz.ntmps93
  go_wp2_with fail
  go_loopw [8] (fun i W => ∃ k : Nat, k ≤ l.length ∧ i = .int .i64 k ∧ Aside0 (Below w.heap.size w W)) (fun i _ => l.length - (intOf i).toNat)
  case atStart => exact ⟨0, by omega, rfl, ⟨Below.refl _ _⟩⟩
  case round =>
    obtain ⟨k, hk, rfl, HB⟩ := hrel
    by_cases hlt : k < l.length
    · obtain ⟨ad, e, y0, y1⟩ := at_Span (Kd.C_below H.out HB.out) k hlt
      subst e
      have bk : (k : Int) < (l.length : Int) := by omega
      go_wp2_with fail
      refine (Has2_any _ _ _ v).mono ?_
      rintro e w1 ⟨b1, -, rfl, hb⟩
      have HB1 := Aside0.mk (below_step HB.out hb)
      clear hb
      cases b1
      · go_wp2_with fail
        go_roundw
        case rel => exact ⟨k + 1, by omega, by go_num, HB1⟩
        case measure => simp [intOf] <;> omega
      · go_wp2_with fail
        go_ret
        exact retAny HB1.out
    · go_wp2_with fail
      go_ret
      exact retAny HB.out

end
end Go.Proofs.YtbahanlnkikpeaaGreat
