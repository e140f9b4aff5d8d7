import Derived.Test.YtbahanlnkikpeaaGreatRec9b
import Derived.Test.YtbahanlnkikpeaaGreatProv
namespace Go.Proofs.YtbahanlnkikpeaaGreat
open Go.RowKit Go.Proofs.YtbahanlnkikpeaaGreatW.PrintWords Go.Proofs.YtbahanlnkikpeaaGreatW.PrintLast
set_option linter.unusedVariables false
set_option linter.unusedSimpArgs false
set_option maxRecDepth 100000
set_option maxHeartbeats 8000000
/-- What is known of a package that has no problem by itself. -/
def PkOK (p : DPackage) : Prop := p.releases.length ≤ 10 ∧ p.depends.length ≤ 16 ∧ p.conflicts.length ≤ 8 ∧ V4 p.variants
def PkOKP (p : DPackage) (n : Int) : Prop := n = 0 → PkOK p
theorem retBad {p : DPackage} {n : Int} {w w1 : World} (hn : n ≠ 0) (h : Below w.heap.size w w1) : RetU8 w (PkOKP p) (.returned (.int .u8 n)) w1 := ⟨n, fun h => absurd h hn, rfl, h⟩
theorem alone_any (w : World) (A : Option Addr) (c : Nat) (ps : List DPackage) (A2 : Option Addr) (n2 c2 : Nat) (i : Nat) (h : Kd.C kPackage w A ps.length ps) (hps : ps.length < 1000000000000) (hi : i < ps.length) (hsz : SzP ps[i]) :
   Calls Tryz.prog 75 #[.agg #[.slice A ps.length c, .slice A2 n2 c2], .int .i64 i] w (RetU8 w (PkOKP ps[i])) := by
  obtain ⟨ad, B2, d2, B3, d3, B4, d4, B5, d5, B6, d6, B7, d7, e, h0, h1, h2, h3, h4, h5, h6, h7, l2, g2, l3, g3, l4, g4, l5, g5, l6, g6, l7, g7⟩ := at_Package h i hi
  have G2 := Aside0.mk g2
  have G3 := Aside0.mk g3
  have G4 := Aside0.mk g4
  have G7 := Aside0.mk g7
  clear l2 l3 l4 l5 l6 l7 g2 g3 g4 g5 g6 g7
  obtain ⟨q, -⟩ := bcell (below_alloc (Below.refl w.heap.size w) (.cells #[.slice A ps.length c, .slice A2 n2 c2] 25 (0, 0)))
  have b0 := World.block_lt_of_cell? w _ h0
  have H := Aside0.mk h
  have HS := Aside0.mk hsz
  clear h hsz
  subst e
  have bi : (i : Int) < (ps.length : Int) := by omega
  go_enter Tryz.func75, Tryz.ntmps75
  go_wp2_with fail
  clear h0 h1 h2 h3 h4 h5 h6 h7 q b0
  refine (Find_calls _ _ _ _ _ _ _ _ (Kd.C_alloc (Kd.C_alloc H.out _) _)).mono ?_
  rintro e w1 ⟨rfl, hb⟩
  have HF := Aside0.mk ((Fr2.mk0 w _ _ _ _).step hb)
  clear hb
  obtain ⟨x0, x1⟩ := cells2 HF.out.b0
  obtain ⟨p0, p1, p2, p3, p4, p5, p6, p7⟩ := cells8 HF.out.b1
  by_cases hf : findI ps ps[i].name = i
  · have hf' : (findI ps ps[i].name != (i : Int)) = false := by rw [hf]; simp
    clear hf
    go_wp2_with fail
    refine (Providers_calls _ _ _ _ _ _ _ _ (Kd.C_below H.out HF.out.below) hps).mono ?_
    rintro e w2 ⟨v, rfl, hO, hb⟩
    obtain ⟨Av, cv, rfl, -, -⟩ := hO.reads
    replace HF := Aside0.mk (HF.out.step hb)
    clear hb hO x0 x1 p0 p1 p2 p3 p4 p5 p6 p7
    obtain ⟨p0, p1, p2, p3, p4, p5, p6, p7⟩ := cells8 HF.out.b1
    by_cases hv : 0 < (prov ps ps[i].name).length
    · go_wp2_with fail
      go_ret
      exact retBad (by decide) HF.out.below
    · replace hv : (prov ps ps[i].name).length ≤ 0 := by omega
      by_cases hr0 : ps[i].releases.length = 0
      · have hr0' : ((ps[i].releases.length : Int) == 0) = true := by rw [hr0]; rfl
        go_wp2_with fail
        go_ret
        exact retBad (by decide) HF.out.below
      · have hr0' : ((ps[i].releases.length : Int) == 0) = false := by rw [beq_eq_false_iff_ne]; omega
        by_cases hl : ps[i].releases.length ≤ 10 ∧ ps[i].depends.length ≤ 16 ∧ ps[i].conflicts.length ≤ 8 ∧ ps[i].provides.length ≤ 4 ∧ ps[i].files.length ≤ 8
        · obtain ⟨l2, l5, l6, l4, l7⟩ := hl
          have hlt2 := HF.out.lt
          go_wp2_with fail
          go_loopw [6, 61] (fun v n wr => ∃ (k : Nat) (xs : List ByteArray), k ≤ ps[i].releases.length ∧ n = .int .i64 k ∧ xs.length ≤ k ∧ Aside0 (OwnS wr w.heap.size v xs) ∧ Aside0 (Fr2 w 25 #[.slice (some ad) ps.length c, .slice A2 n2 c2] 43 #[.string ps[i].name, .int .i64 ps[i].line, .slice B2 ps[i].releases.length d2, .slice B3 ps[i].variants.length d3, .slice B4 ps[i].provides.length d4, .slice B5 ps[i].depends.length d5, .slice B6 ps[i].conflicts.length d6, .slice B7 ps[i].files.length d7] wr)) (fun _ n _ => ps[i].releases.length - (intOf n).toNat)
          case atStart => exact ⟨0, [], by omega, rfl, by simp, ⟨OwnS.lit0 _ _ HF.out.below.size⟩, ⟨HF.out.alloc _⟩⟩
          case round =>
            clear HF p0 p1 p2 p3 p4 p5 p6 p7 hlt2
            obtain ⟨k, xs, hk, rfl, hxl, HO, HF⟩ := hrel
            have hlt2 := HF.out.lt
            obtain ⟨p0, p1, p2, p3, p4, p5, p6, p7⟩ := cells8 HF.out.b1
            by_cases hlt : k < ps[i].releases.length
            · obtain ⟨ad', e, h0⟩ := at_Release_version (Kd.C_below G2.out HF.out.below) k hlt
              subst e
              go_wp2_with (first | (at_builtin; refine app_str (w0 := w) w.heap.size rfl (.tmp 64) (.tmp 71) rfl _ xs (ps[i].releases[k].version) rfl rfl HO.out HF.out.below HF.out.below.size (by omega) ?_; intro v1 w2 hO hB hg))
              go_roundw
              case rel => exact ⟨k + 1, _, by omega, by go_num, by rw [List.length_append, List.length_singleton]; omega, ⟨hO⟩, ⟨hB, HO.out.other hg HF.out.b0 (by decide), HO.out.other hg HF.out.b1 (by decide)⟩⟩
              case measure => simp [intOf] <;> omega
            · obtain ⟨Ax, cx, rfl, -, hCx⟩ := HO.out.reads
              go_wp2_with fail
              refine (twice_any _ _ _ _ hCx).mono ?_
              rintro e w3 ⟨b, -, rfl, hb⟩
              replace HF := Aside0.mk (HF.out.step hb)
              clear hb hCx p0 p1 p2 p3 p4 p5 p6 p7
              obtain ⟨p0, p1, p2, p3, p4, p5, p6, p7⟩ := cells8 HF.out.b1
              cases b
              · go_wp2_with fail
                refine (May4_any _ _ _ _ (Kd.C_below G3.out HF.out.below) HS.out).mono ?_
                rintro e w4 ⟨b, hq, rfl, hb⟩
                have HQ := Aside0.mk hq
                replace HF := Aside0.mk (HF.out.step hb)
                clear hb hq p0 p1 p2 p3 p4 p5 p6 p7
                obtain ⟨p0, p1, p2, p3, p4, p5, p6, p7⟩ := cells8 HF.out.b1
                cases b
                · go_wp2_with fail
                  go_ret
                  exact retBad (by decide) HF.out.below
                · go_wp2_with fail
                  refine (twice_any _ _ _ _ (Kd.C_below G4.out HF.out.below)).mono ?_
                  rintro e w5 ⟨b, -, rfl, hb⟩
                  replace HF := Aside0.mk (HF.out.step hb)
                  clear hb p0 p1 p2 p3 p4 p5 p6 p7
                  obtain ⟨p0, p1, p2, p3, p4, p5, p6, p7⟩ := cells8 HF.out.b1
                  cases b
                  · go_wp2_with fail
                    refine (twice_any _ _ _ _ (Kd.C_below G7.out HF.out.below)).mono ?_
                    rintro e w6 ⟨b, -, rfl, hb⟩
                    cases b
                    · go_wp2_with fail
                      go_ret
                      exact ⟨_, fun _ => ⟨l2, l5, l6, HQ.out rfl⟩, rfl, below_step HF.out.below hb⟩
                    · go_wp2_with fail
                      go_ret
                      exact retBad (by decide) (below_step HF.out.below hb)
                  · go_wp2_with fail
                    go_ret
                    exact retBad (by decide) HF.out.below
              · go_wp2_with fail
                go_ret
                exact retBad (by decide) HF.out.below
        · go_upto_region 8 with (fail)
          go_cut [56] (fun v wc => v = .bool true ∧ wc = w2)
          case first =>
            go_wp2_with fail
            all_goals
              go_meet
              case rel => first | exact ⟨rfl, rfl⟩ | exact ⟨congrArg Value.bool (by simp only [Bool.or_eq_true, decide_eq_true_eq]; omega), rfl⟩
          case rest =>
            obtain ⟨rfl, rfl⟩ := hcut
            go_wp2_with fail
            go_ret
            exact retBad (by decide) HF.out.below
  · have hf' : (findI ps ps[i].name != (i : Int)) = true := by simpa using hf
    clear hf
    go_wp2_with fail
    go_ret
    exact retBad (by decide) HF.out.below

end Go.Proofs.YtbahanlnkikpeaaGreat
