import Derived.Test.YtbahanlnkikpeaaGreatRec9d
namespace Go.Proofs.YtbahanlnkikpeaaGreat
open Go.RowKit Go.Proofs.YtbahanlnkikpeaaGreatW.PrintWords Go.Proofs.YtbahanlnkikpeaaGreatW.PrintLast
set_option linter.unusedVariables false
set_option linter.unusedSimpArgs false
set_option maxRecDepth 100000
set_option maxHeartbeats 8000000
theorem wish_K (w : World) (A : Option Addr) (c : Nat) (ps : List DPackage) (A2 : Option Addr) (n2 c2 : Nat) (x : DSpec) (cs : List Value) (h : Kd.C kPackage w A ps.length ps) (hps : ps.length < 1000000000000) (hx : kSpec.K w x cs) :
   Calls Tryz.prog 78 #[.agg #[.slice A ps.length c, .slice A2 n2 c2], .agg cs.toArray] w (RetU8 w AnyN) := by
  obtain ⟨A1, c1, A2, c2, rfl, l1, g1, l2, g2⟩ := kSpec_open hx
  exact wish_any w A c ps _ _ _ x _ _ _ _ h hps g1 g2
theorem rules_any (w : World) (A : Option Addr) (c : Nat) (ps : List DPackage) (A2 : Option Addr) (n2 c2 : Nat) (x : DPackage) (cs : List Value) (h : Kd.C kPackage w A ps.length ps) (hps : ps.length < 1000000000000) (hx : kPackage.K w x cs) :
   Calls Tryz.prog 76 #[.agg #[.slice A ps.length c, .slice A2 n2 c2], .agg cs.toArray] w (RetPr w AnyN) := by
  obtain ⟨B2, d2, B3, d3, B4, d4, B5, d5, B6, d6, B7, d7, rfl, l2, g2, l3, g3, l4, g4, l5, g5, l6, g6, l7, g7⟩ := kPackage_open hx
  have m5 := Kd.C_max g5
  have m6 := Kd.C_max g6
  have H := Aside0.mk h
  have HX := Aside0.mk hx
  have H5 := Aside0.mk g5
  have H6 := Aside0.mk g6
  clear h hx l2 g2 l3 g3 l4 g4 l5 g5 l6 g6 l7 g7
  go_enter Tryz.func76, Tryz.ntmps76
  go_wp2_with fail
  go_loopw [7, 14] (fun z i wr => ∃ k : Nat, k ≤ x.depends.length ∧ i = .int .i64 k ∧ Aside0 (Fr3 w 25 #[.slice A ps.length c, .slice A2 n2 c2] 43 #[.string x.name, .int .i64 x.line, .slice B2 x.releases.length d2, .slice B3 x.variants.length d3, .slice B4 x.provides.length d4, .slice B5 x.depends.length d5, .slice B6 x.conflicts.length d6, .slice B7 x.files.length d7] 122 #[.int .u8 0, .int .i64 0] wr)) (fun _ i _ => x.depends.length - (intOf i).toNat)
  case atStart => exact ⟨0, by omega, rfl, ⟨Fr3.mk0 _ _ _ _ _ _ _⟩⟩
  case round =>
    obtain ⟨k, hk, rfl, HF⟩ := hrel
    obtain ⟨q0, q1, q2⟩ := HF.out.lts
    obtain ⟨x0, x1⟩ := cells2 HF.out.b0
    obtain ⟨p0, p1, p2, p3, p4, p5, p6, p7⟩ := cells8 HF.out.b1
    by_cases hlt : k < x.depends.length
    · obtain ⟨ad, A1', c1', A2', c2', A4', c4', A5', c5', e, h0, h1, h2, h3, h4, h5, h6, l1, g1, l2, g2, l4, g4, l5, g5⟩ := at_Depend (Kd.C_below H5.out HF.out.below) k hlt
      subst e
      have S1 := Aside0.mk (kSpec_mk wr x.depends[k].on_ l1 g1 l2 g2)
      have S2 := Aside0.mk (Kd.C_alloc g5 (.cells #[.string x.depends[k].on_.name, .slice A1' x.depends[k].on_.spans.length c1', .slice A2' x.depends[k].on_.settings.length c2', .string x.depends[k].when_.name, .slice A4' x.depends[k].when_.spans.length c4', .slice A5' x.depends[k].when_.settings.length c5', .int .i64 x.depends[k].line] 53))
      clear l1 g1 l2 g2 l4 g4 l5 g5
      go_wp2_with fail
      refine (wish_K _ _ _ _ _ _ _ _ _ (Kd.C_below H.out (HF.out.alloc _).below) hps (kSpec.K_below (below_alloc (Below.refl _ _) _) S1.out)).mono ?_
      rintro e w1 ⟨n, -, rfl, hb⟩
      have BD := Aside0.mk (blk_below (blk_new wr _) hb)
      have S3 := Aside0.mk (Kd.C_below S2.out hb)
      clear S2
      have HF1 := Aside0.mk ((HF.out.alloc _).step hb)
      clear hb h0 h1 h2 h3 h4 h5 h6 x0 x1 p0 p1 p2 p3 p4 p5 p6 p7 HF q0 q1 q2 S1
      obtain ⟨y0, y1, y2, y3, y4, y5, y6⟩ := cells7 BD.out
      obtain ⟨p0, p1, p2, p3, p4, p5, p6, p7⟩ := cells8 HF1.out.b1
      obtain ⟨r0, r1⟩ := cells2 HF1.out.b2
      have f0 := blk_frozen HF1.out.b2 0
      have f1 := blk_frozen HF1.out.b2 1
      by_cases hn : n = 0
      · subst hn
        go_wp2_with fail
        refine (settings_any _ _ _ (kPackage.K_below HF1.out.below HX.out) _ _ _ S3.out).mono ?_
        rintro e w2 ⟨b, -, rfl, hb⟩
        replace BD := Aside0.mk (blk_below BD.out hb)
        replace HF1 := Aside0.mk (HF1.out.step hb)
        clear hb y0 y1 y2 y3 y4 y5 y6 p0 p1 p2 p3 p4 p5 p6 p7 r0 r1 f0 f1
        have y6 : w2.cell? ⟨wr.heap.size, 6, none⟩ = some (.int .i64 x.depends[k].line) := blk_cell BD.out 6
        obtain ⟨r0, r1⟩ := cells2 HF1.out.b2
        have f0 := blk_frozen HF1.out.b2 0
        have f1 := blk_frozen HF1.out.b2 1
        cases b
        · go_wp2_with fail
          refine bodyPost_ret (v := .agg #[.int .u8 8, .int .i64 x.depends[k].line]) (by simp [results, Tryz.results76, go_sem, r0, r1]) rfl ⟨8, _, trivial, rfl, below_set (below_set HF1.out.below (by omega)) (by omega)⟩
        · go_wp2_with fail
          go_roundw
          case rel => exact ⟨k + 1, by omega, by go_num, HF1⟩
          case measure => simp [intOf] <;> omega
      · have hn' : (n == 0) = false := by rw [beq_eq_false_iff_ne]; exact hn
        have hn2 : (n != 0) = true := by rw [bne_iff_ne]; exact hn
        clear hn
        go_wp2_with fail
        refine bodyPost_ret (v := .agg #[.int .u8 n, .int .i64 x.depends[k].line]) (by simp [results, Tryz.results76, go_sem, r0, r1]) rfl ⟨n, _, trivial, rfl, below_set (below_set HF1.out.below (by omega)) (by omega)⟩
    · go_wp2_with fail
      clear x0 x1 p0 p1 p2 p3 p4 p5 p6 p7 q0 q1 q2 hlt hk
      go_loopw [10, 46] (fun z i wr => ∃ k : Nat, k ≤ x.conflicts.length ∧ i = .int .i64 k ∧ Aside0 (Fr3 w 25 #[.slice A ps.length c, .slice A2 n2 c2] 43 #[.string x.name, .int .i64 x.line, .slice B2 x.releases.length d2, .slice B3 x.variants.length d3, .slice B4 x.provides.length d4, .slice B5 x.depends.length d5, .slice B6 x.conflicts.length d6, .slice B7 x.files.length d7] 122 #[.int .u8 0, .int .i64 0] wr)) (fun _ i _ => x.conflicts.length - (intOf i).toNat)
      case atStart => exact ⟨0, by omega, rfl, HF⟩
      case round =>
        clear HF
        obtain ⟨k, hk, rfl, HF⟩ := hrel
        obtain ⟨q0, q1, q2⟩ := HF.out.lts
        obtain ⟨x0, x1⟩ := cells2 HF.out.b0
        obtain ⟨p0, p1, p2, p3, p4, p5, p6, p7⟩ := cells8 HF.out.b1
        obtain ⟨r0, r1⟩ := cells2 HF.out.b2
        have f0 := blk_frozen HF.out.b2 0
        have f1 := blk_frozen HF.out.b2 1
        by_cases hlt : k < x.conflicts.length
        · obtain ⟨ad, A1', c1', A2', c2', A4', c4', A5', c5', e, h0, h1, h2, h3, h4, h5, h6, l1, g1, l2, g2, l4, g4, l5, g5⟩ := at_Conflict (Kd.C_below H6.out HF.out.below) k hlt
          subst e
          have S1 := Aside0.mk g2
          have S2 := Aside0.mk (kSpec_mk wr x.conflicts[k].with_ l4 g4 l5 g5)
          clear l1 g1 l2 g2 l4 g4 l5 g5
          obtain ⟨wo, hwo⟩ : ∃ wo : World, wo = wr := ⟨_, rfl⟩
          go_upto_if 57 with (fail)
          go_cut [10] (fun z wc => ∃ m : Int, z = .int .u8 m ∧ Aside0 (Fr3 w 25 #[.slice A ps.length c, .slice A2 n2 c2] 43 #[.string x.name, .int .i64 x.line, .slice B2 x.releases.length d2, .slice B3 x.variants.length d3, .slice B4 x.provides.length d4, .slice B5 x.depends.length d5, .slice (some ad) x.conflicts.length d6, .slice B7 x.files.length d7] 122 #[.int .u8 0, .int .i64 0] wc) ∧ Aside0 (Below wr.heap.size wr wc) ∧ Aside0 (wc.heap[wr.heap.size]? = some (.cells #[.string x.conflicts[k].when_.name, .slice A1' x.conflicts[k].when_.spans.length c1', .slice A2' x.conflicts[k].when_.settings.length c2', .string x.conflicts[k].with_.name, .slice A4' x.conflicts[k].with_.spans.length c4', .slice A5' x.conflicts[k].with_.settings.length c5', .int .i64 x.conflicts[k].line] 55 (0, 0))))
          case first =>
            have BD := Aside0.mk (blk_new wr (.cells #[.string x.conflicts[k].when_.name, .slice A1' x.conflicts[k].when_.spans.length c1', .slice A2' x.conflicts[k].when_.settings.length c2', .string x.conflicts[k].with_.name, .slice A4' x.conflicts[k].with_.spans.length c4', .slice A5' x.conflicts[k].with_.settings.length c5', .int .i64 x.conflicts[k].line] 55))
            by_cases hz : x.conflicts[k].with_.name.size = 0
            · have hz' : x.conflicts[k].with_.name.toList.isEmpty = true := List.isEmpty_iff.2 ((toList_nil_iff_emptyBytes _).2 (size0 hz))
              have hz2 : (!x.conflicts[k].with_.name.toList.isEmpty) = false := by rw [hz']; rfl
              clear hz hz'
              rw [hz2]
              go_wp2_with fail
              go_meet
              case rel => exact ⟨_, rfl, ⟨HF.out.alloc _⟩, ⟨below_alloc (Below.refl _ _) _⟩, BD⟩
            · have hz' := notEmpty (Nat.pos_of_ne_zero hz)
              have hz2 : (!x.conflicts[k].with_.name.toList.isEmpty) = true := by rw [hz']; rfl
              clear hz hz'
              rw [hz2]
              go_wp2_with fail
              refine (wish_K _ _ _ _ _ _ _ _ _ (Kd.C_below H.out (HF.out.alloc _).below) hps (kSpec.K_below (below_alloc (Below.refl _ _) _) S2.out)).mono ?_
              rintro e w1 ⟨n, -, rfl, hb⟩
              replace BD := Aside0.mk (blk_below BD.out hb)
              have HB1 := Aside0.mk (below_step (below_alloc (Below.refl wr.heap.size wr) (.cells #[.string x.conflicts[k].when_.name, .slice A1' x.conflicts[k].when_.spans.length c1', .slice A2' x.conflicts[k].when_.settings.length c2', .string x.conflicts[k].with_.name, .slice A4' x.conflicts[k].with_.spans.length c4', .slice A5' x.conflicts[k].with_.settings.length c5', .int .i64 x.conflicts[k].line] 55)) hb)
              have HF1 := Aside0.mk (HF.out.step HB1.out)
              clear hb h0 h1 h2 h3 h4 h5 h6 x0 x1 p0 p1 p2 p3 p4 p5 p6 p7 r0 r1 f0 f1
              obtain ⟨y0, y1, y2, y3, y4, y5, y6⟩ := cells7 BD.out
              obtain ⟨x0, x1⟩ := cells2 HF1.out.b0
              go_wp2_with fail
              refine (Find_calls _ _ _ _ _ _ _ _ (Kd.C_below H.out HF1.out.below)).mono ?_
              rintro e w2 ⟨rfl, hb⟩
              replace BD := Aside0.mk (blk_below BD.out hb)
              replace HB1 := Aside0.mk (below_step HB1.out hb)
              replace HF1 := Aside0.mk (HF1.out.step hb)
              go_wp2_with fail
              all_goals
                go_meet
                case rel => exact ⟨_, rfl, HF1, HB1, BD⟩
          case rest =>
            obtain ⟨m, rfl, HFc, HBc, BD⟩ := hcut
            clear h0 h1 h2 h3 h4 h5 h6 x0 x1 p0 p1 p2 p3 p4 p5 p6 p7 r0 r1 f0 f1
            obtain ⟨y0, y1, y2, y3, y4, y5, y6⟩ := cells7 BD.out
            obtain ⟨p0, p1, p2, p3, p4, p5, p6, p7⟩ := cells8 HFc.out.b1
            go_wp2_with fail
            refine (settings_any _ _ _ (kPackage.K_below HFc.out.below HX.out) _ _ _ (Kd.C_below S1.out HBc.out)).mono ?_
            rintro e w2 ⟨b, -, rfl, hb⟩
            replace BD := Aside0.mk (blk_below BD.out hb)
            replace HFc := Aside0.mk (HFc.out.step hb)
            clear hb y0 y1 y2 y3 y4 y5 y6 p0 p1 p2 p3 p4 p5 p6 p7
            have y6 : w2.cell? ⟨wr.heap.size, 6, none⟩ = some (.int .i64 x.conflicts[k].line) := blk_cell BD.out 6
            obtain ⟨r0, r1⟩ := cells2 HFc.out.b2
            have f0 := blk_frozen HFc.out.b2 0
            have f1 := blk_frozen HFc.out.b2 1
            cases b
            · go_wp2_with fail
              refine bodyPost_ret (v := .agg #[.int .u8 8, .int .i64 x.conflicts[k].line]) (by simp [results, Tryz.results76, go_sem, r0, r1]) rfl ⟨8, _, trivial, rfl, below_set (below_set HFc.out.below (by omega)) (by omega)⟩
            · by_cases hm : m = 0
              · subst hm
                go_wp2_with fail
                go_roundw
                case rel => exact ⟨k + 1, by omega, by go_num, HFc⟩
                case measure => simp [intOf] <;> omega
              · have hm2 : (m != 0) = true := by rw [bne_iff_ne]; exact hm
                clear hm
                go_wp2_with fail
                refine bodyPost_ret (v := .agg #[.int .u8 m, .int .i64 x.conflicts[k].line]) (by simp [results, Tryz.results76, go_sem, r0, r1]) rfl ⟨m, _, trivial, rfl, below_set (below_set HFc.out.below (by omega)) (by omega)⟩
        · go_wp2_with fail
          refine bodyPost_ret (v := .agg #[.int .u8 0, .int .i64 0]) (by simp [results, Tryz.results76, go_sem, r0, r1]) rfl ⟨0, _, trivial, rfl, below_set (below_set HF.out.below (by omega)) (by omega)⟩

end Go.Proofs.YtbahanlnkikpeaaGreat
