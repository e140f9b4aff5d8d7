import Derived.Test.YtbahanlnkikpeaaGreatGndOf
namespace Go.Proofs.YtbahanlnkikpeaaGreat
open Go.RowKit Go.Proofs.YtbahanlnkikpeaaGreatW.PrintWords Go.Proofs.YtbahanlnkikpeaaGreatW.PrintLast
set_option linter.unusedVariables false
set_option linter.unusedSimpArgs false
open Go.RowKit Go.Maps
set_option maxRecDepth 100000
set_option maxHeartbeats 8000000
theorem rulesLaw_calls (w : World) (A : Option Addr) (c : Nat) (ps : List DPackage) (A2 : Option Addr) (c2 : Nat) (fs : List DPrefer) (B : Option Addr) (d : Nat) (rs : List DRoot) (h : Kd.C kPackage w A ps.length ps) (h2 : Kd.C kPrefer w A2 fs.length fs) (hr : Kd.C kRoot w B rs.length rs) :
   Calls Tryz.prog 6 #[.agg #[.slice A ps.length c, .slice A2 fs.length c2], .agg #[.slice B rs.length d]] w (fun e w' => e = .returned (.bool true) ∧ Below w.heap.size w w') := by
  have H := Aside0.mk h
  have H2 := Aside0.mk h2
  have H3 := Aside0.mk hr
  have HF := Aside0.mk (Fr2.mk0 w 25 #[.slice A ps.length c, .slice A2 fs.length c2] 28 #[.slice B rs.length d])
  clear h h2 hr
  go_enter Tryz.func6, Tryz.ntmps6
  go_wp2_with fail
  refine (Great_any _ A c ps A2 c2 fs B d rs (Kd.C_below H.out HF.out.below) (Kd.C_below H2.out HF.out.below) (Kd.C_below H3.out HF.out.below)).mono ?_
  rintro e w1 ⟨b, hbs, rfl, hb⟩
  have HF1 := Aside0.mk (HF.out.step hb)
  clear hb HF
  obtain ⟨x0, x1⟩ := cells2 HF1.out.b0
  have x2 := cells1 HF1.out.b1
  cases b with
  | true =>
    clear hbs
    go_wp2_with fail
    refine (fixed_calls _).mono ?_
    rintro e w2 ⟨rfl, hb⟩
    have HF2 := Aside0.mk (HF1.out.step hb)
    clear hb
    go_wp2_with fail
    go_ret
    exact ⟨rfl, HF2.out.below⟩
  | false =>
    have hsm := hbs rfl
    have HSm := Aside0.mk hsm
    have hps := hsm.n
    have hrs := hsm.rq
    have hcn := clo_len ps rs
    have HCL : Aside0 ((clo ps rs).length = (cloN ps rs).length) := ⟨by unfold clo; rw [List.length_map]⟩
    have hct := cntTo_le hsm.pk (cloN ps rs)
    have HRL : Aside0 ((rulesOf ps rs).length = rs.length + cntTo ps (cloN ps rs)) := ⟨rules_len ps rs⟩
    have hrb : (rulesOf ps rs).length ≤ 200 := by have := HRL.out; have := HCL.out; omega
    clear hsm hbs hct
    go_wp2_with fail
    refine (NewG_calls w1 ⟨A, c, ps, A2, fs.length, c2, B, d, rs, 1000⟩ (show (1000 : Nat) ≤ 65536 by decide) (Kd.C_below H.out HF1.out.below) (Kd.C_below H3.out HF1.out.below) HSm.out).mono ?_
    rintro e w2 ⟨g, rfl, hG⟩
    have HF2 : Aside0 (Fr2 w 25 #[.slice A ps.length c, .slice A2 fs.length c2] 28 #[.slice B rs.length d] w2) := ⟨HF1.out.step hG.1⟩
    have HG := Aside0.mk hG
    have HF2d := Aside0.mk (HF2.out.step (below_drew (Below.refl _ _)))
    have HGd := Aside0.mk (hG.below (below_drew (Below.refl _ _)))
    clear hG HF1 x0 x1 x2
    obtain ⟨x0, x1⟩ := cells2 HF2.out.b0
    have x2 := cells1 HF2.out.b1
    go_wp2_with fail
    go_region_held3 (fun w' => w'.cell? ⟨w.heap.size, 0, none⟩ = some (.slice A ps.length c) ∧ w'.cell? ⟨w.heap.size, 1, none⟩ = some (.slice A2 fs.length c2) ∧ w'.cell? ⟨w.heap.size + 1, 0, none⟩ = some (.slice B rs.length d))
      (first
        | go_keep
        | exact ⟨pw_cell_below hb4 (pw_cell_below hb3 x0), pw_cell_below hb4 (pw_cell_below hb3 x1), pw_cell_below hb4 (pw_cell_below hb3 x2)⟩
        | exact ⟨pw_cell_below hb3 x0, pw_cell_below hb3 x1, pw_cell_below hb3 x2⟩)
      ((first
        | (go_at_call 10; refine (Rules_of_gnd HGd.out (by show (rulesOf ps rs).length < _; omega)).mono ?_; rintro e w3 ⟨v3, rfl, hO3, hb3⟩; obtain ⟨Ar, cr, rfl, -, -⟩ := Kd.R_reads hO3)
        | (go_at_call 22; refine (Rules13_calls w3 A c ps A2 fs.length c2 B d rs (Kd.C_below H.out (below_step HF2d.out.below hb3)) (Kd.C_below H3.out (below_step HF2d.out.below hb3)) HSm.out).mono ?_; rintro e w4 ⟨v4, rfl, hO4, hb4⟩; obtain ⟨As, cs, rfl, -, -⟩ := Kd.R_reads hO4)))
    have HF4 := Aside0.mk ((HF2d.out.step hb3).step hb4)
    have HG4 := Aside0.mk ((HGd.out.below hb3).below hb4)
    have HO3 := Aside0.mk (Kd.R_below hO3 hb4)
    have HO4 := Aside0.mk hO4
    clear hO3 hO4 hb3 hb4 HF2 HF2d HG HGd x0 x1 x2
    go_wp2_with fail
    go_loopw [30] (fun i W => ∃ k : Nat, k ≤ (rulesOf ps rs).length ∧ i = .int .i64 k ∧ Aside0 (Below w4.heap.size w4 W)) (fun i _ => (rulesOf ps rs).length - (intOf i).toNat)
    case atStart => exact ⟨0, by omega, rfl, ⟨Below.refl _ _⟩⟩
    case round =>
      obtain ⟨k, hk, rfl, HE⟩ := hrel
      by_cases hlt : k < (rulesOf ps rs).length
      · obtain ⟨ad, e, y0, y1, y2, y3⟩ := at_Rule (Kd.C_below (Kd.R_reads' HO3.out).2.2 HE.out) k hlt
        obtain ⟨ad', e', z0, z1, z2, z3⟩ := at_Rule (Kd.C_below (Kd.R_reads' HO4.out).2.2 HE.out) k hlt
        subst e
        subst e'
        have bk : (k : Int) < ((rulesOf ps rs).length : Int) := by omega
        generalize (rulesOf ps rs)[k] = r at *
        go_wp2_with fail
        go_quiet (fail)
        go_wp2_with fail
        go_roundw
        case rel => exact ⟨k + 1, by omega, by go_num, ⟨pw_below_drewN HE.out _⟩⟩
        case measure => simp [intOf] <;> omega
      · have HF5 := Aside0.mk (HF4.out.step HE.out)
        have HG5 := Aside0.mk (HG4.out.below HE.out)
        clear HE HF4 HG4 HO3 HO4
        obtain ⟨x0, x1⟩ := cells2 HF5.out.b0
        have x2 := cells1 HF5.out.b1
        go_wp2_with fail
        refine (Closure10_calls _ _ _ _ _ _ _ _ _ _ (Kd.C_below H.out HF5.out.below) (by omega) (Kd.C_below H3.out HF5.out.below)).mono ?_
        rintro e w6 ⟨v, rfl, hO, hb⟩
        obtain ⟨Ac, cc, rfl, -, hC⟩ := Kd.R_reads hO
        have HF6 := Aside0.mk (HF5.out.step hb)
        have HG6 := Aside0.mk (HG5.out.below hb)
        have HC6 := Aside0.mk hC
        clear hb hO hC HF5 HG5 x0 x1 x2
        obtain ⟨x0, x1⟩ := cells2 HF6.out.b0
        have x2 := cells1 HF6.out.b1
        go_wp2_with fail
        go_loopw [49] (fun i W => ∃ k : Nat, k ≤ ps.length ∧ i = .int .i64 k ∧ W = w6) (fun i _ => ps.length - (intOf i).toNat)
        case atStart => exact ⟨0, by omega, rfl, rfl⟩
        case round =>
          obtain ⟨k, hk, rfl, rfl⟩ := hrel
          by_cases hlt : k < ps.length
          · go_wp2_with fail
            refine (Has_of_gnd HG6.out (k : Int)).mono ?_
            rintro e w7 ⟨rfl, rfl⟩
            go_wp2_with fail
            refine (Has10_same _ _ _ _ (k : Int) HC6.out).mono ?_
            rintro e w8 ⟨rfl, rfl⟩
            cases hasI (clo ps rs) (k : Int) <;>
            · go_wp2_with fail
              go_roundw
              case rel => exact ⟨k + 1, by omega, by go_num, trivial⟩
              case measure => simp [intOf] <;> omega
          · go_wp2_with fail
            have HG6d := Aside0.mk (HG6.out.below (below_drew (Below.refl _ _)))
            have HC6d := Aside0.mk (Kd.C_below HC6.out (below_drew (Below.refl _ _)))
            have HB6d := Aside0.mk (below_step HF6.out.below (below_drew (Below.refl _ _)))
            have hf1 := run_field_rq B rs.length d
            have hf2 := run_field_rc A ps.length c A2 fs.length c2
            go_region_held3 (fun w' => w'.cell? ⟨w.heap.size, 0, none⟩ = some (.slice A ps.length c) ∧ w'.cell? ⟨w.heap.size, 1, none⟩ = some (.slice A2 fs.length c2) ∧ w'.cell? ⟨w.heap.size + 1, 0, none⟩ = some (.slice B rs.length d))
              (first
                | go_keep
                | exact ⟨pw_cell_below (below_step (below_step (below_step (below_step (below_step hb7 hb8) hb9) hb11) hb12) hb13) x0, pw_cell_below (below_step (below_step (below_step (below_step (below_step hb7 hb8) hb9) hb11) hb12) hb13) x1, pw_cell_below (below_step (below_step (below_step (below_step (below_step hb7 hb8) hb9) hb11) hb12) hb13) x2⟩
                | exact ⟨pw_cell_below (below_step (below_step (below_step (below_step hb7 hb8) hb9) hb11) hb12) x0, pw_cell_below (below_step (below_step (below_step (below_step hb7 hb8) hb9) hb11) hb12) x1, pw_cell_below (below_step (below_step (below_step (below_step hb7 hb8) hb9) hb11) hb12) x2⟩
                | exact ⟨pw_cell_below (below_step (below_step (below_step hb7 hb8) hb9) hb11) x0, pw_cell_below (below_step (below_step (below_step hb7 hb8) hb9) hb11) x1, pw_cell_below (below_step (below_step (below_step hb7 hb8) hb9) hb11) x2⟩
                | exact ⟨pw_cell_below (below_step (below_step hb7 hb8) hb9) x0, pw_cell_below (below_step (below_step hb7 hb8) hb9) x1, pw_cell_below (below_step (below_step hb7 hb8) hb9) x2⟩
                | exact ⟨pw_cell_below (below_step hb7 hb8) x0, pw_cell_below (below_step hb7 hb8) x1, pw_cell_below (below_step hb7 hb8) x2⟩
                | exact ⟨pw_cell_below hb7 x0, pw_cell_below hb7 x1, pw_cell_below hb7 x2⟩)
              ((first
                | (go_at_call 8; refine (fixed_calls _).mono ?_; rintro e w7 ⟨rfl, hb7⟩)
                | (go_at_call 26; refine (Places_of_gnd (HG6d.out.below hb7) (by show (clo ps rs).length < _; omega)).mono ?_; rintro e w8 ⟨v8, rfl, hO8, hb8⟩; obtain ⟨A8, c8, rfl, -, hC8⟩ := Kd.R_reads hO8)
                | (go_at_call 25; refine (Same12_calls w8 A8 c8 (clo ps rs) Ac cc (clo ps rs) hC8 (Kd.C_below HC6d.out (below_step hb7 hb8))).mono ?_; rintro e w9 ⟨rfl, hb9⟩)
                | (go_at_call 15; refine (Builder_of_gnd (((HG6d.out.below hb7).below hb8).below hb9)).mono ?_; rintro e w10 ⟨bg, rfl, rfl, hB10⟩)
                | (go_at_call 16; refine (Clauses_calls _ _ bg _ hB10 (by intro x hx; cases hx)).mono ?_; rintro e w11 ⟨v11, rfl, hO11, hb11⟩; obtain ⟨A11, c11, rfl, -, -⟩ := Kd.R_reads hO11)
                | (go_at_call 27; refine (Request_of_gnd ((((HG6d.out.below hb7).below hb8).below hb9).below hb11)).mono ?_; rintro e w12 ⟨rfl, hb12⟩)
                | (go_at_call 28; refine (Recipe_of_gnd (((((HG6d.out.below hb7).below hb8).below hb9).below hb11).below hb12)).mono ?_; rintro e w13 ⟨rfl, hb13⟩)))
            have HEnd := Aside0.mk (below_step HB6d.out (below_step (below_step (below_step (below_step (below_step hb7 hb8) hb9) hb11) hb12) hb13))
            clear hb7 hb8 hb9 hb11 hb12 hb13 hO8 hC8 hB10 hO11
            go_wp2_with fail
            go_ret
            exact ⟨rfl, HEnd.out⟩

end Go.Proofs.YtbahanlnkikpeaaGreat
