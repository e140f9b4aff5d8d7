import Derived.Test.YtbahanlnkikpeaaGreatBase
namespace Go.Proofs.YtbahanlnkikpeaaGreat
open Go.RowKit Go.Proofs.YtbahanlnkikpeaaGreatW.PrintWords Go.Proofs.YtbahanlnkikpeaaGreatW.PrintLast
set_option linter.unusedVariables false
set_option linter.unusedSimpArgs false
def Any (_ : Bool) : Prop := True
theorem retAny {w w1 : World} {b : Bool} (h : Below w.heap.size w w1) : RetBool w Any (.returned (.bool b)) w1 := ⟨b, trivial, rfl, h⟩
set_option maxRecDepth 100000
set_option maxHeartbeats 8000000
def TxP (l : List ByteArray) (b : Bool) : Prop := b = false → ∀ x ∈ l, x.size ≤ 100
theorem retTx {l : List ByteArray} {w w1 : World} (h : Below w.heap.size w w1) : RetBool w (TxP l) (.returned (.bool true)) w1 := ⟨true, (fun h => nomatch h), rfl, h⟩
theorem greatTexts_any (w : World) (A : Option Addr) (c : Nat) (l : List ByteArray) (h : Kd.C Kd.string w A l.length l) :
   Calls Tryz.prog 49 #[.slice A l.length c] w (RetBool w (TxP l)) := by
  have hm := Kd.C_max h
  have H := Aside0.mk h
  clear h
  by_cases h50 : 50 < l.length
  · go_enter Tryz.func49, Tryz.ntmps49
    go_wp2
    go_ret
    exact retTx (Below.refl _ _)
  · have h50' : decide (50 < l.length) = false := decide_eq_false h50
    go_enter Tryz.func49, Tryz.ntmps49
    go_wp2
    go_loop [9] (fun i => ∃ k : Nat, k ≤ l.length ∧ i = .int .i64 k ∧ Aside0 (∀ j, (hj : j < l.length) → j < k → l[j].size ≤ 100)) (fun i => l.length - (intOf i).toNat)
    case atStart => exact ⟨0, by omega, rfl, ⟨fun j _ hj => by omega⟩⟩
    case round =>
      obtain ⟨k, hk, rfl, hno⟩ := hrel
      by_cases hlt : k < l.length
      · obtain ⟨ad, e, h0⟩ := at_str H.out k hlt
        subst e
        by_cases h100 : 100 < l[k].size
        · go_wp2
          go_ret
          exact retTx (Below.refl _ _)
        · go_wp2
          go_round
          case rel => exact ⟨k + 1, by omega, by go_num, ⟨fun j hj hjk => by
            by_cases e : j = k
            · subst e; omega
            · exact hno.out j hj (by omega)⟩⟩
          case measure => simp [intOf] <;> omega
      · go_wp2
        go_ret
        refine ⟨_, fun _ x hx => ?_, rfl, Below.refl _ _⟩
        obtain ⟨j, hj, rfl⟩ := List.getElem_of_mem hx
        exact hno.out j hj (by omega)
theorem great3_any (w : World) (A : Option Addr) (c : Nat) (l : List DSpan) (h : Kd.C kSpan w A l.length l) :
   Calls Tryz.prog 94 #[.slice A l.length c] w (RetBool w Any) := by
  have hm := Kd.C_max h
  have H := Aside0.mk h
  clear h
  by_cases h50 : 30 < l.length
  · go_enter Tryz.func94, Tryz.ntmps94
    go_wp2
    go_ret
    exact retAny (Below.refl _ _)
  · have h50' : decide (30 < l.length) = false := decide_eq_false h50
    go_enter Tryz.func94, Tryz.ntmps94
    go_wp2
    go_loop [9] (fun i => ∃ k : Nat, k ≤ l.length ∧ i = .int .i64 k) (fun i => l.length - (intOf i).toNat)
    case atStart => exact ⟨0, by omega, rfl⟩
    case round =>
      obtain ⟨k, hk, rfl⟩ := hrel
      by_cases hlt : k < l.length
      · obtain ⟨ad, e, h0, h1⟩ := at_Span H.out k hlt
        subst e
        go_wp2
        all_goals first
          | (go_ret; exact retAny (Below.refl _ _))
          | (go_round; (case rel => exact ⟨k + 1, by omega, by go_num⟩); (case measure => simp [intOf] <;> omega))
      · go_wp2
        go_ret
        exact retAny (Below.refl _ _)
theorem greatSpec_any (w : World) (x : DSpec) (A1 A2 : Option Addr) (c1 c2 : Nat) (h1 : Kd.C kSpan w A1 x.spans.length x.spans) (h2 : Kd.C kSetting w A2 x.settings.length x.settings) :
   Calls Tryz.prog 73 #[.agg #[.string x.name, .slice A1 x.spans.length c1, .slice A2 x.settings.length c2]] w (RetBool w Any) := by
  have hm := Kd.C_max h2
  have H1 := Aside0.mk h1
  have H2 := Aside0.mk h2
  clear h1 h2
  go_enter Tryz.func73, Tryz.ntmps73
  go_upto_region 1 with (fail)
  go_cut [18] (fun v wc => ∃ b : Bool, v = .bool b ∧ Aside0 (Below w.heap.size w wc) ∧ Aside0 (wc.heap[w.heap.size]? = some (.cells #[.string x.name, .slice A1 x.spans.length c1, .slice A2 x.settings.length c2] 49 (0, 0))))
  case first =>
    go_wp2_with (first | (go_at_call 94; refine (great3_any _ _ _ _ (Kd.C_alloc H1.out _)).mono ?_; rintro e w' ⟨b, -, rfl, hb⟩))
    · go_meet
      case rel => exact ⟨_, rfl, ⟨below_then (below_alloc (Below.refl _ _) _) (by simp) hb⟩, ⟨blk_below (blk_new _ _) hb⟩⟩
    all_goals
      go_meet
      case rel => exact ⟨_, rfl, ⟨below_alloc (Below.refl _ _) _⟩, ⟨blk_new _ _⟩⟩
  case rest =>
    obtain ⟨b, rfl, HB, BK⟩ := hcut
    have z2 : wc.cell? ⟨w.heap.size, 2, none⟩ = some (.slice A2 x.settings.length c2) := blk_cell BK.out 2
    cases b
    · go_wp2
      go_loop [22] (fun i => ∃ k : Nat, k ≤ x.settings.length ∧ i = .int .i64 k) (fun i => x.settings.length - (intOf i).toNat)
      case atStart => exact ⟨0, by omega, rfl⟩
      case round =>
        obtain ⟨k, hk, rfl⟩ := hrel
        by_cases hlt : k < x.settings.length
        · obtain ⟨ad, e, h0, h1⟩ := at_Setting (Kd.C_below H2.out HB.out) k hlt
          subst e
          go_wp2
          all_goals first
            | (go_ret; exact retAny HB.out)
            | (go_round; (case rel => exact ⟨k + 1, by omega, by go_num⟩); (case measure => simp [intOf] <;> omega))
        · go_wp2
          go_ret
          exact retAny HB.out
    · go_wp2
      go_ret
      exact retAny HB.out
theorem GreatSpec_any (w : World) (x : DSpec) (A1 A2 : Option Addr) (c1 c2 : Nat) (h1 : Kd.C kSpan w A1 x.spans.length x.spans) (h2 : Kd.C kSetting w A2 x.settings.length x.settings) :
   Calls Tryz.prog 50 #[.agg #[.string x.name, .slice A1 x.spans.length c1, .slice A2 x.settings.length c2]] w (RetBool w Any) := by
  have H1 := Aside0.mk h1
  have H2 := Aside0.mk h2
  clear h1 h2
  go_enter Tryz.func50, Tryz.ntmps50
  go_wp2_with (first | (go_at_call 73; refine (greatSpec_any _ x _ _ _ _ (Kd.C_alloc H1.out _) (Kd.C_alloc H2.out _)).mono ?_; rintro e w' ⟨b, -, rfl, hb⟩))
  go_ret
  exact retAny (below_then (below_alloc (Below.refl _ _) _) (by simp) hb)
theorem greatSpec_K (w : World) (x : DSpec) (cs : List Value) (h : kSpec.K w x cs) :
   Calls Tryz.prog 73 #[.agg cs.toArray] w (RetBool w Any) := by
  obtain ⟨A1, c1, A2, c2, rfl, l1, g1, l2, g2⟩ := kSpec_open h
  exact greatSpec_any w x A1 A2 c1 c2 g1 g2
def SzV (v : DVariant) : Prop := ∀ x ∈ v.values, x.size ≤ 100
def SzP (p : DPackage) : Prop := ∀ v ∈ p.variants, SzV v
def PkP (p : DPackage) (b : Bool) : Prop := b = false → SzP p
theorem retPk {p : DPackage} {w w1 : World} (h : Below w.heap.size w w1) : RetBool w (PkP p) (.returned (.bool true)) w1 := ⟨true, (fun h => nomatch h), rfl, h⟩
theorem greatPackage_any (w : World) (x : DPackage) (cs : List Value) (h : kPackage.K w x cs) :
   Calls Tryz.prog 48 #[.agg cs.toArray] w (RetBool w (PkP x)) := by
  obtain ⟨A2, c2, A3, c3, A4, c4, A5, c5, A6, c6, A7, c7, rfl, l2, g2, l3, g3, l4, g4, l5, g5, l6, g6, l7, g7⟩ := kPackage_open h
  clear h l2 l3 l4 l5 l6 l7
  have m2 := Kd.C_max g2
  have m3 := Kd.C_max g3
  have m5 := Kd.C_max g5
  have m6 := Kd.C_max g6
  have H2 := Aside0.mk g2
  have H3 := Aside0.mk g3
  have H4 := Aside0.mk g4
  have H5 := Aside0.mk g5
  have H6 := Aside0.mk g6
  have H7 := Aside0.mk g7
  clear g2 g3 g4 g5 g6 g7
  go_enter Tryz.func48, Tryz.ntmps48
  go_upto_region 1 with (fail)
  go_cut [44] (fun v wc => ∃ b : Bool, v = .bool b ∧ Aside0 (Below w.heap.size w wc) ∧ Aside0 (wc.heap[w.heap.size]? = some (.cells #[.string x.name, .int .i64 x.line, .slice A2 x.releases.length c2, .slice A3 x.variants.length c3, .slice A4 x.provides.length c4, .slice A5 x.depends.length c5, .slice A6 x.conflicts.length c6, .slice A7 x.files.length c7] 43 (0, 0))))
  case first =>
    go_wp2_with fail
    · refine (greatTexts_any _ _ _ _ (Kd.C_alloc H4.out _)).mono ?_
      rintro e w1 ⟨b, -, rfl, hb⟩
      have HB := Aside0.mk (below_step (below_alloc (Below.refl _ _) _) hb)
      have BK := Aside0.mk (blk_below (blk_new _ _) hb)
      clear hb
      have z7 : w1.cell? ⟨w.heap.size, 7, none⟩ = some (.slice A7 x.files.length c7) := blk_cell BK.out 7
      cases b
      · go_wp2_with fail
        refine (greatTexts_any _ _ _ _ (Kd.C_below H7.out HB.out)).mono ?_
        rintro e w2 ⟨b, -, rfl, hb⟩
        go_wp2_with fail
        go_meet
        case rel => exact ⟨_, rfl, ⟨below_step HB.out hb⟩, ⟨blk_below BK.out hb⟩⟩
      · go_wp2_with fail
        go_meet
        case rel => exact ⟨_, rfl, HB, BK⟩
    all_goals
      go_meet
      case rel => exact ⟨_, rfl, ⟨below_alloc (Below.refl _ _) _⟩, ⟨blk_new _ _⟩⟩
  case rest =>
    obtain ⟨b, rfl, HB, BK⟩ := hcut
    have z2 : wc.cell? ⟨w.heap.size, 2, none⟩ = some (.slice A2 x.releases.length c2) := blk_cell BK.out 2
    have z3 : wc.cell? ⟨w.heap.size, 3, none⟩ = some (.slice A3 x.variants.length c3) := blk_cell BK.out 3
    cases b
    · go_wp2
      go_loop [48] (fun i => ∃ k : Nat, k ≤ x.releases.length ∧ i = .int .i64 k) (fun i => x.releases.length - (intOf i).toNat)
      case atStart => exact ⟨0, by omega, rfl⟩
      case round =>
        obtain ⟨k, hk, rfl⟩ := hrel
        by_cases hlt : k < x.releases.length
        · obtain ⟨ad, e, h0⟩ := at_Release_version (Kd.C_below H2.out HB.out) k hlt
          subst e
          go_wp2
          all_goals first
            | (go_ret; exact retPk HB.out)
            | (go_round; (case rel => exact ⟨k + 1, by omega, by go_num⟩); (case measure => simp [intOf] <;> omega))
        · go_wp2
          clear hlt hk
          go_loopw [63] (fun i wr => ∃ k : Nat, k ≤ x.variants.length ∧ i = .int .i64 k ∧ Aside0 (∀ j, (hj : j < x.variants.length) → j < k → SzV x.variants[j]) ∧ Aside0 (Below w.heap.size w wr) ∧ Aside0 (wr.heap[w.heap.size]? = some (.cells #[.string x.name, .int .i64 x.line, .slice A2 x.releases.length c2, .slice A3 x.variants.length c3, .slice A4 x.provides.length c4, .slice A5 x.depends.length c5, .slice A6 x.conflicts.length c6, .slice A7 x.files.length c7] 43 (0, 0)))) (fun i _ => x.variants.length - (intOf i).toNat)
          case atStart => exact ⟨0, by omega, rfl, ⟨fun j _ hj => by omega⟩, HB, BK⟩
          case round =>
            clear z2 z3 HB BK
            obtain ⟨k, hk, rfl, hno, HB, BK⟩ := hrel
            have z3 : wr.cell? ⟨w.heap.size, 3, none⟩ = some (.slice A3 x.variants.length c3) := blk_cell BK.out 3
            have z5 : wr.cell? ⟨w.heap.size, 5, none⟩ = some (.slice A5 x.depends.length c5) := blk_cell BK.out 5
            by_cases hlt : k < x.variants.length
            · obtain ⟨ad, B1, d1, e, h0, h1, hl, hC⟩ := at_Variant (Kd.C_below H3.out HB.out) k hlt
              subst e
              have HC := Aside0.mk hC
              clear hC
              go_wp2_with (first | (go_at_call 49; refine (greatTexts_any _ _ _ _ HC.out).mono ?_; rintro e w' ⟨b, hq, rfl, hb⟩; have HQ := Aside0.mk hq; clear hq; cases b))
              · go_roundw
                case rel => exact ⟨k + 1, by omega, by go_num, ⟨fun j hj hjk => by
                  by_cases e : j = k
                  · subst e; exact HQ.out rfl
                  · exact hno.out j hj (by omega)⟩, ⟨below_step HB.out hb⟩, ⟨blk_below BK.out hb⟩⟩
                case measure => simp [intOf] <;> omega
              · go_ret
                exact retPk (below_step HB.out hb)
              · go_ret
                exact retPk HB.out
            · have HZ : Aside0 (SzP x) := ⟨fun y hy => by
                obtain ⟨j, hj, rfl⟩ := List.getElem_of_mem hy
                exact hno.out j hj (by omega)⟩
              go_wp2_with fail
              clear z3 z5
              clear hlt hk
              go_loopw [87] (fun i wr => ∃ k : Nat, k ≤ x.depends.length ∧ i = .int .i64 k ∧ Aside0 (Below w.heap.size w wr) ∧ Aside0 (wr.heap[w.heap.size]? = some (.cells #[.string x.name, .int .i64 x.line, .slice A2 x.releases.length c2, .slice A3 x.variants.length c3, .slice A4 x.provides.length c4, .slice A5 x.depends.length c5, .slice A6 x.conflicts.length c6, .slice A7 x.files.length c7] 43 (0, 0)))) (fun i _ => x.depends.length - (intOf i).toNat)
              case atStart => exact ⟨0, by omega, rfl, HB, BK⟩
              case round =>
                clear HB BK
                obtain ⟨k, hk, rfl, HB, BK⟩ := hrel
                have z5 : wr.cell? ⟨w.heap.size, 5, none⟩ = some (.slice A5 x.depends.length c5) := blk_cell BK.out 5
                have z6 : wr.cell? ⟨w.heap.size, 6, none⟩ = some (.slice A6 x.conflicts.length c6) := blk_cell BK.out 6
                by_cases hlt : k < x.depends.length
                · obtain ⟨ad, A1, c1, A2', c2', A4', c4', A5', c5', e, h0, h1, h2, h3, h4, h5, h6, l1, g1, l2, g2, l4, g4, l5, g5⟩ := at_Depend (Kd.C_below H5.out HB.out) k hlt
                  subst e
                  have S1 := Aside0.mk (kSpec_mk wr x.depends[k].on_ l1 g1 l2 g2)
                  have S2 := Aside0.mk (kSpec_mk wr x.depends[k].when_ l4 g4 l5 g5)
                  clear l1 g1 l2 g2 l4 g4 l5 g5
                  go_wp2_with fail
                  refine (greatSpec_K _ _ _ S1.out).mono ?_
                  rintro e w1 ⟨b, -, rfl, hb⟩
                  cases b
                  · have q1 := pw_cell_below hb h3
                    have q2 := pw_cell_below hb h4
                    have q3 := pw_cell_below hb h5
                    have qz := pw_cell_below hb z5
                    have S3 := Aside0.mk (kSpec.K_below hb S2.out)
                    have HB1 := Aside0.mk (below_step HB.out hb)
                    have BK1 := Aside0.mk (blk_below BK.out hb)
                    clear hb
                    go_wp2_with fail
                    refine (greatSpec_K _ _ _ S3.out).mono ?_
                    rintro e w2 ⟨b, -, rfl, hb⟩
                    cases b
                    · go_wp2_with fail
                      go_roundw
                      case rel => exact ⟨k + 1, by omega, by go_num, ⟨below_step HB1.out hb⟩, ⟨blk_below BK1.out hb⟩⟩
                      case measure => simp [intOf] <;> omega
                    · go_wp2_with fail
                      go_ret
                      exact retPk (below_step HB1.out hb)
                  · go_wp2_with fail
                    go_ret
                    exact retPk (below_step HB.out hb)
                · go_wp2_with fail
                  clear z5 z6
                  clear hlt hk
                  go_loopw [110] (fun i wr => ∃ k : Nat, k ≤ x.conflicts.length ∧ i = .int .i64 k ∧ Aside0 (Below w.heap.size w wr) ∧ Aside0 (wr.heap[w.heap.size]? = some (.cells #[.string x.name, .int .i64 x.line, .slice A2 x.releases.length c2, .slice A3 x.variants.length c3, .slice A4 x.provides.length c4, .slice A5 x.depends.length c5, .slice A6 x.conflicts.length c6, .slice A7 x.files.length c7] 43 (0, 0)))) (fun i _ => x.conflicts.length - (intOf i).toNat)
                  case atStart => exact ⟨0, by omega, rfl, HB, BK⟩
                  case round =>
                    clear HB BK
                    obtain ⟨k, hk, rfl, HB, BK⟩ := hrel
                    have z6 : wr.cell? ⟨w.heap.size, 6, none⟩ = some (.slice A6 x.conflicts.length c6) := blk_cell BK.out 6
                    by_cases hlt : k < x.conflicts.length
                    · obtain ⟨ad, A1, c1, A2', c2', A4', c4', A5', c5', e, h0, h1, h2, h3, h4, h5, h6, l1, g1, l2, g2, l4, g4, l5, g5⟩ := at_Conflict (Kd.C_below H6.out HB.out) k hlt
                      subst e
                      have S1 := Aside0.mk (kSpec_mk wr x.conflicts[k].when_ l1 g1 l2 g2)
                      have S2 := Aside0.mk (kSpec_mk wr x.conflicts[k].with_ l4 g4 l5 g5)
                      clear l1 g1 l2 g2 l4 g4 l5 g5
                      go_wp2_with fail
                      refine (greatSpec_K _ _ _ S1.out).mono ?_
                      rintro e w1 ⟨b, -, rfl, hb⟩
                      cases b
                      · have q1 := pw_cell_below hb h3
                        have q2 := pw_cell_below hb h4
                        have q3 := pw_cell_below hb h5
                        have qz := pw_cell_below hb z6
                        have S3 := Aside0.mk (kSpec.K_below hb S2.out)
                        have HB1 := Aside0.mk (below_step HB.out hb)
                        have BK1 := Aside0.mk (blk_below BK.out hb)
                        clear hb
                        go_wp2_with fail
                        refine (greatSpec_K _ _ _ S3.out).mono ?_
                        rintro e w2 ⟨b, -, rfl, hb⟩
                        cases b
                        · go_wp2_with fail
                          go_roundw
                          case rel => exact ⟨k + 1, by omega, by go_num, ⟨below_step HB1.out hb⟩, ⟨blk_below BK1.out hb⟩⟩
                          case measure => simp [intOf] <;> omega
                        · go_wp2_with fail
                          go_ret
                          exact retPk (below_step HB1.out hb)
                      · go_wp2_with fail
                        go_ret
                        exact retPk (below_step HB.out hb)
                    · go_wp2_with fail
                      go_ret
                      exact ⟨_, fun _ => HZ.out, rfl, HB.out⟩
    · go_wp2
      go_ret
      exact retPk HB.out

end Go.Proofs.YtbahanlnkikpeaaGreat
