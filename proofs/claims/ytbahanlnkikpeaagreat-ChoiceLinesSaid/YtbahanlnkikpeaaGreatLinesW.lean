import Derived.Test.YtbahanlnkikpeaaGreatLines
namespace Go.Proofs.YtbahanlnkikpeaaGreat
open Go.RowKit Go.Proofs.YtbahanlnkikpeaaGreatW.PrintWords Go.Proofs.YtbahanlnkikpeaaGreatW.PrintLast
set_option linter.unusedVariables false
set_option linter.unusedSimpArgs false
open Go.RowKit Go.Maps
set_option maxRecDepth 100000
set_option maxHeartbeats 8000000
theorem Rules_of_gnd {w0 w : World} {g : Nat} {a : Args} {gs : GS} (h : Gnd w0 g a gs w) (hl : (rulesOf a.ps a.rs).length < 1000000000000) :
    Calls Tryz.prog 10 #[.pointer (some ⟨g, 0, none⟩)] w (fun e w' => ∃ v, e = .returned v ∧ OwnRl w' w.heap.size v (rulesOf a.ps a.rs) ∧ Below w.heap.size w w') := by
  obtain ⟨h1, h2, tg, bg, Ai, cI, Ar, cR, hG, hT, hB, hI, hR⟩ := h
  exact RulesOf_calls w g _ hG (Kd.R_reads' hR).2.2 hl
theorem cntTo_le {ps : List DPackage} (h : RcOK ps) : ∀ (l : List Nat), cntTo ps l ≤ l.length * 24
  | [] => by simp [cntTo]
  | q :: l => by
    have h1 := pkgRules_len h q
    rw [pkgRules_cnt] at h1
    have h2 := cntTo_le h l
    unfold cntTo at h2 ⊢
    rw [List.map_cons, List.sum_cons, List.length_cons]
    omega
theorem three {a b c d e f : Int} (h : ¬ (a = b ∧ c = d ∧ e = f)) : a ≠ b ∨ (a = b ∧ c ≠ d) ∨ (a = b ∧ c = d ∧ e ≠ f) := by omega
theorem lines_calls (w : World) (A : Option Addr) (c : Nat) (ps : List DPackage) (A2 : Option Addr) (c2 : Nat) (fs : List DPrefer) (B : Option Addr) (d : Nat) (rs : List DRoot) (h : Kd.C kPackage w A ps.length ps) (h2 : Kd.C kPrefer w A2 fs.length fs) (hr : Kd.C kRoot w B rs.length rs) :
   Calls Tryz.prog 3 #[.agg #[.slice A ps.length c, .slice A2 fs.length c2], .agg #[.slice B rs.length d]] w (fun e w' => e = .returned (.bool true) ∧ Below w.heap.size w w') := by
  have H := Aside0.mk h
  have H2 := Aside0.mk h2
  have H3 := Aside0.mk hr
  have HF := Aside0.mk (Fr2.mk0 w 25 #[.slice A ps.length c, .slice A2 fs.length c2] 28 #[.slice B rs.length d])
  clear h h2 hr
  go_enter Tryz.func3, Tryz.ntmps3
  go_wp2_with fail
  refine (Great_any _ A c ps A2 c2 fs B d rs (Kd.C_below H.out HF.out.below) (Kd.C_below H2.out HF.out.below) (Kd.C_below H3.out HF.out.below)).mono ?_
  rintro e w1 ⟨b, hbs, rfl, hb⟩
  have HF1 := Aside0.mk (HF.out.step hb)
  clear hb HF
  obtain ⟨x0, x1⟩ := cells2 HF1.out.b0
  have x2 := cells1 HF1.out.b1
  cases b with
  | true =>
    clear hbs
    go_wp2_with fail
    refine (fixed_calls _).mono ?_
    rintro e w2 ⟨rfl, hb⟩
    have HF2 := Aside0.mk (HF1.out.step hb)
    clear hb
    go_wp2_with fail
    go_ret
    exact ⟨rfl, HF2.out.below⟩
  | false =>
    have hsm := hbs rfl
    have HSm := Aside0.mk hsm
    have hps := hsm.n
    have hrs := hsm.rq
    have hcn := clo_len ps rs
    have HCL : Aside0 ((clo ps rs).length = (cloN ps rs).length) := ⟨by unfold clo; rw [List.length_map]⟩
    have hct := cntTo_le hsm.pk (cloN ps rs)
    have HRL : Aside0 ((rulesOf ps rs).length = rs.length + cntTo ps (cloN ps rs)) := ⟨rules_len ps rs⟩
    have hcn2 : (cloN ps rs).length ≤ 8 := by have := HCL.out; omega
    have hrb : (rulesOf ps rs).length ≤ 200 := by have := HRL.out; omega
    clear hsm hbs hct
    go_wp2_with fail
    refine (NewG_calls w1 ⟨A, c, ps, A2, fs.length, c2, B, d, rs, 10⟩ (show (10 : Nat) ≤ 65536 by decide) (Kd.C_below H.out HF1.out.below) (Kd.C_below H3.out HF1.out.below) HSm.out).mono ?_
    rintro e w2 ⟨g, rfl, hG⟩
    have HF2 : Aside0 (Fr2 w 25 #[.slice A ps.length c, .slice A2 fs.length c2] 28 #[.slice B rs.length d] w2) := ⟨HF1.out.step hG.1⟩
    have HRu := Aside0.mk (Rules_of_gnd hG (by show (rulesOf ps rs).length < _; omega))
    clear hG HF1
    go_wp2_with fail
    refine HRu.out.mono ?_
    rintro e w3 ⟨v, rfl, hO, hb⟩
    obtain ⟨Ar, cr, rfl, hcr, -⟩ := Kd.R_reads hO
    have HF3 := Aside0.mk (HF2.out.step hb)
    have HO3 := Aside0.mk (Kd.R_lower hO HF2.out.below.size)
    clear hb hO HRu HF2 x0 x1 x2
    obtain ⟨x0, x1⟩ := cells2 HF3.out.b0
    have x2 := cells1 HF3.out.b1
    go_wp2_with fail
    refine (Closure10_calls _ _ _ _ _ _ _ _ _ _ (Kd.C_below H.out HF3.out.below) (by omega) (Kd.C_below H3.out HF3.out.below)).mono ?_
    rintro e w4 ⟨v, rfl, hO, hb⟩
    obtain ⟨Ac, cc, rfl, -, hC⟩ := Kd.R_reads hO
    have HF4 := Aside0.mk (HF3.out.step hb)
    have HO4 := Aside0.mk (Kd.R_below HO3.out hb)
    have HC4 := Aside0.mk hC
    clear hb hO hC HO3 HF3 x0 x1 x2
    go_wp2_with fail
    go_loopw [6, 29] (fun s i W => ∃ k : Nat, k ≤ (clo ps rs).length ∧ i = .int .i64 k ∧ s = .int .i64 ((rs.length + cntTo ps ((cloN ps rs).take k) : Nat) : Int) ∧ Aside0 (Below w4.heap.size w4 W)) (fun _ i _ => (clo ps rs).length - (intOf i).toNat)
    case atStart => exact ⟨0, by omega, rfl, by simp [cntTo], ⟨Below.refl _ _⟩⟩
    case round =>
      obtain ⟨k, hk, rfl, rfl, HE⟩ := hrel
      obtain ⟨x0, x1⟩ := cells2 (blk_below HF4.out.b0 HE.out)
      have x2 := cells1 (blk_below HF4.out.b1 HE.out)
      by_cases hlt : k < (clo ps rs).length
      · have hkn : k < (cloN ps rs).length := by have := HCL.out; omega
        obtain ⟨q, hq⟩ : ∃ q, q = (cloN ps rs)[k] := ⟨_, rfl⟩
        have HQ : Aside0 ((clo ps rs)[k] = (q : Int)) := ⟨by subst hq; simp [clo]⟩
        have hql : q < ps.length := by rw [hq]; exact rch_lt (mem_cloN.1 (List.getElem_mem hkn))
        have hcnt : Aside0 (cntTo ps ((cloN ps rs).take (k + 1)) = cntTo ps ((cloN ps rs).take k) + (ps[q].depends.length + ps[q].conflicts.length)) := ⟨by rw [List.take_succ_eq_append_getElem hkn, cntTo_snoc, ← hq, cnt1, getD_at _ _ hql]⟩
        have hct := cntTo_le HSm.out.pk ((cloN ps rs).take k)
        rw [List.length_take] at hct
        have hok := HSm.out.pk _ (List.getElem_mem hql)
        have hd16 := hok.2.1
        have hc8 := hok.2.2.1
        clear hq hok
        obtain ⟨ad, e, y⟩ := at_i64 (Kd.C_below HC4.out HE.out) k hlt
        subst e
        rw [HQ.out] at y
        obtain ⟨adp, E5, f5, e, p5, -⟩ := at_Package_depends H.out q hql
        obtain ⟨adp', E6, f6, e', p6, -⟩ := at_Package_conflicts H.out q hql
        subst e
        cases e'
        replace p5 := pw_cell_below (below_step HF4.out.below HE.out) p5
        replace p6 := pw_cell_below (below_step HF4.out.below HE.out) p6
        generalize ps[q].depends.length = nd at *
        generalize ps[q].conflicts.length = nc at *
        generalize cntTo ps ((cloN ps rs).take k) = ct at *
        have b1 : (q : Int) < (ps.length : Int) := by omega
        have hct2 : ct ≤ 192 := by omega
        have hw1 : IntKind.i64.wrap ((nd : Int) + (nc : Int)) = (nd : Int) + (nc : Int) := IntWalk.i64_in _ (by omega)
        have hw2 : IntKind.i64.wrap (((rs.length + ct : Nat) : Int) + ((nd : Int) + (nc : Int))) = ((rs.length + ct : Nat) : Int) + ((nd : Int) + (nc : Int)) := IntWalk.i64_in _ (by omega)
        go_wp2_with fail
        go_quiet (fail)
        go_wp2_with fail
        go_roundw
        case rel => exact ⟨k + 1, by omega, by go_num, by rw [hcnt.out]; congr 1; omega, ⟨pw_below_drewN HE.out _⟩⟩
        case measure => simp [intOf] <;> omega
      · have hfull : Aside0 (rs.length + cntTo ps ((cloN ps rs).take k) = (rulesOf ps rs).length) := ⟨by rw [List.take_of_length_le (by have := HCL.out; omega), HRL.out]⟩
        rw [hfull.out]
        go_wp2_with fail
        clear hlt hk x0 x1 x2 hfull
        rename_i hw4
        go_loopw [57] (fun i W => ∃ k : Nat, k ≤ (rulesOf ps rs).length ∧ i = .int .i64 k ∧ Aside0 (Below w4.heap.size w4 W)) (fun i _ => (rulesOf ps rs).length - (intOf i).toNat)
        case atStart => exact ⟨0, by omega, rfl, HE⟩
        case round =>
          clear HE
          obtain ⟨k, hk, rfl, HE⟩ := hrel
          by_cases hlt : k < (rulesOf ps rs).length
          · obtain ⟨ad, e, y0, y1, y2, y3⟩ := at_Rule (Kd.C_below (Kd.R_reads' HO4.out).2.2 HE.out) k hlt
            subst e
            have hrk := rules_ok (List.getElem_mem hlt)
            have HAP : Aside0 (∀ j, (hj : j < k) → ¬ sameR ((rulesOf ps rs)[j]'(by omega)) (rulesOf ps rs)[k]) := ⟨fun j hj => List.pairwise_iff_getElem.1 (rules_apart ps rs) j k (by omega) hlt hj⟩
            obtain ⟨x0, x1⟩ := cells2 (blk_below HF4.out.b0 HE.out)
            have x2 := cells1 (blk_below HF4.out.b1 HE.out)
            generalize hrr : (rulesOf ps rs)[k] = r at *
            have bk : (k : Int) < ((rulesOf ps rs).length : Int) := by omega
            cases hrk with
            | root k' hk' =>
              obtain ⟨adr, e, z⟩ := at_Root_line H3.out k' hk'
              subst e
              have hba := below_alloc (Below.refl wr.heap.size wr) (.cells #[.int .u8 1, .int .i64 (-1), .int .i64 k', .int .i64 rs[k'].line] 45)
              have hbx := blk_new wr (.cells #[.int .u8 1, .int .i64 (-1), .int .i64 k', .int .i64 rs[k'].line] 45 (0, 0))
              have HE5 := Aside0.mk (below_step HE.out hba)
              have HBX := Aside0.mk hbx
              replace x2 := pw_cell_below hba x2
              replace z := pw_cell_below (below_step (below_step HF4.out.below HE.out) hba) z
              have bk' : (k' : Int) < (rs.length : Int) := by omega
              clear hba hbx x0 x1 HE
              obtain ⟨wo, hwo⟩ : ∃ wo : World, wo = wr := ⟨_, rfl⟩
              subst hwo
              go_wp2_with fail
              go_loopw [109] (fun i W => ∃ j : Nat, j ≤ k ∧ i = .int .i64 j ∧ Aside0 (Below w4.heap.size w4 W) ∧ Aside0 (W.heap[wo.heap.size]? = some (.cells #[.int .u8 1, .int .i64 (-1), .int .i64 k', .int .i64 rs[k'].line] 45 (0, 0)))) (fun i _ => k - (intOf i).toNat)
              case atStart => exact ⟨0, by omega, rfl, HE5, HBX⟩
              case round =>
                clear HE5 HBX
                obtain ⟨j, hj, rfl, HE5, HBX⟩ := hrel
                by_cases hjt : j < k
                · obtain ⟨ad', e, z0, z1, z2, z3⟩ := at_Rule (Kd.C_below (Kd.R_reads' HO4.out).2.2 HE5.out) j (by omega)
                  cases e
                  have hnot := HAP.out j hjt
                  generalize (rulesOf ps rs)[j] = s at *
                  obtain ⟨sk, sp, si, sl⟩ := s
                  simp only [sameR] at hnot z0 z1 z2 z3
                  have bj : (j : Int) < (k : Int) := by omega
                  obtain ⟨x0, x1, x2, x3⟩ := cells4 HBX.out
                  rcases three hnot with e1 | ⟨e1, e2⟩ | ⟨e1, e2, e3⟩
                  · clear hnot
                    have hba := below_alloc (Below.refl wr.heap.size wr) (.cells #[.int .u8 sk, .int .i64 sp, .int .i64 si, .int .i64 sl] 45)
                    replace x0 := pw_cell_below hba x0
                    replace x1 := pw_cell_below hba x1
                    replace x2 := pw_cell_below hba x2
                    have HE6 := Aside0.mk (below_step HE5.out hba)
                    have HBX6 := Aside0.mk (blk_below HBX.out hba)
                    clear hba x3
                    have d1 : (sk == 1) = false := beq_eq_false_iff_ne.2 e1
                    go_wp2_with fail
                    go_roundw
                    case rel => exact ⟨j + 1, by omega, by go_num, HE6, HBX6⟩
                    case measure => simp [intOf] <;> omega
                  · subst e1
                    have hba := below_alloc (Below.refl wr.heap.size wr) (.cells #[.int .u8 1, .int .i64 sp, .int .i64 si, .int .i64 sl] 45)
                    replace x0 := pw_cell_below hba x0
                    replace x1 := pw_cell_below hba x1
                    replace x2 := pw_cell_below hba x2
                    have HE6 := Aside0.mk (below_step HE5.out hba)
                    have HBX6 := Aside0.mk (blk_below HBX.out hba)
                    clear hba x3
                    have d2 : (sp == (-1)) = false := beq_eq_false_iff_ne.2 e2
                    go_wp2_with fail
                    go_roundw
                    case rel => exact ⟨j + 1, by omega, by go_num, HE6, HBX6⟩
                    case measure => simp [intOf] <;> omega
                  · subst e1; subst e2
                    have hba := below_alloc (Below.refl wr.heap.size wr) (.cells #[.int .u8 1, .int .i64 (-1), .int .i64 si, .int .i64 sl] 45)
                    replace x0 := pw_cell_below hba x0
                    replace x1 := pw_cell_below hba x1
                    replace x2 := pw_cell_below hba x2
                    have HE6 := Aside0.mk (below_step HE5.out hba)
                    have HBX6 := Aside0.mk (blk_below HBX.out hba)
                    clear hba x3
                    have d3 : (si == (k' : Int)) = false := beq_eq_false_iff_ne.2 e3
                    go_wp2_with fail
                    go_roundw
                    case rel => exact ⟨j + 1, by omega, by go_num, HE6, HBX6⟩
                    case measure => simp [intOf] <;> omega
                · go_wp2_with fail
                  go_roundw
                  case rel => exact ⟨k + 1, by omega, by go_num, HE5⟩
                  case measure => simp [intOf] <;> omega
            | dep q hq k' hk' =>
              obtain ⟨adp, E5, f5, e, p5, l5, g5⟩ := at_Package_depends H.out q hq
              obtain ⟨add, e', z⟩ := at_Depend_line g5 k' hk'
              subst e
              subst e'
              have hba := below_alloc (Below.refl wr.heap.size wr) (.cells #[.int .u8 2, .int .i64 q, .int .i64 k', .int .i64 ps[q].depends[k'].line] 45)
              have hbx := blk_new wr (.cells #[.int .u8 2, .int .i64 q, .int .i64 k', .int .i64 ps[q].depends[k'].line] 45 (0, 0))
              have HE5 := Aside0.mk (below_step HE.out hba)
              have HBX := Aside0.mk hbx
              replace x0 := pw_cell_below hba x0
              replace p5 := pw_cell_below (below_step (below_step HF4.out.below HE.out) hba) p5
              replace z := pw_cell_below (below_step (below_step HF4.out.below HE.out) hba) z
              have bq : (q : Int) < (ps.length : Int) := by omega
              have bk' : (k' : Int) < (ps[q].depends.length : Int) := by omega
              clear hba hbx x1 x2 HE l5 g5
              obtain ⟨wo, hwo⟩ : ∃ wo : World, wo = wr := ⟨_, rfl⟩
              subst hwo
              go_wp2_with fail
              go_quiet (fail)
              replace HE5 := Aside0.mk (pw_below_drewN HE5.out nq)
              go_wp2_with fail
              go_loopw [109] (fun i W => ∃ j : Nat, j ≤ k ∧ i = .int .i64 j ∧ Aside0 (Below w4.heap.size w4 W) ∧ Aside0 (W.heap[wo.heap.size]? = some (.cells #[.int .u8 2, .int .i64 q, .int .i64 k', .int .i64 ps[q].depends[k'].line] 45 (0, 0)))) (fun i _ => k - (intOf i).toNat)
              case atStart => exact ⟨0, by omega, rfl, HE5, HBX⟩
              case round =>
                clear HE5 HBX
                obtain ⟨j, hj, rfl, HE5, HBX⟩ := hrel
                by_cases hjt : j < k
                · obtain ⟨ad', e, z0, z1, z2, z3⟩ := at_Rule (Kd.C_below (Kd.R_reads' HO4.out).2.2 HE5.out) j (by omega)
                  cases e
                  have hnot := HAP.out j hjt
                  generalize (rulesOf ps rs)[j] = s at *
                  obtain ⟨sk, sp, si, sl⟩ := s
                  simp only [sameR] at hnot z0 z1 z2 z3
                  have bj : (j : Int) < (k : Int) := by omega
                  obtain ⟨x0, x1, x2, x3⟩ := cells4 HBX.out
                  rcases three hnot with e1 | ⟨e1, e2⟩ | ⟨e1, e2, e3⟩
                  · clear hnot
                    have hba := below_alloc (Below.refl wr.heap.size wr) (.cells #[.int .u8 sk, .int .i64 sp, .int .i64 si, .int .i64 sl] 45)
                    replace x0 := pw_cell_below hba x0
                    replace x1 := pw_cell_below hba x1
                    replace x2 := pw_cell_below hba x2
                    have HE6 := Aside0.mk (below_step HE5.out hba)
                    have HBX6 := Aside0.mk (blk_below HBX.out hba)
                    clear hba x3
                    have d1 : (sk == 2) = false := beq_eq_false_iff_ne.2 e1
                    go_wp2_with fail
                    go_roundw
                    case rel => exact ⟨j + 1, by omega, by go_num, HE6, HBX6⟩
                    case measure => simp [intOf] <;> omega
                  · subst e1
                    have hba := below_alloc (Below.refl wr.heap.size wr) (.cells #[.int .u8 2, .int .i64 sp, .int .i64 si, .int .i64 sl] 45)
                    replace x0 := pw_cell_below hba x0
                    replace x1 := pw_cell_below hba x1
                    replace x2 := pw_cell_below hba x2
                    have HE6 := Aside0.mk (below_step HE5.out hba)
                    have HBX6 := Aside0.mk (blk_below HBX.out hba)
                    clear hba x3
                    have d2 : (sp == (q : Int)) = false := beq_eq_false_iff_ne.2 e2
                    go_wp2_with fail
                    go_roundw
                    case rel => exact ⟨j + 1, by omega, by go_num, HE6, HBX6⟩
                    case measure => simp [intOf] <;> omega
                  · subst e1; subst e2
                    have hba := below_alloc (Below.refl wr.heap.size wr) (.cells #[.int .u8 2, .int .i64 (q : Int), .int .i64 si, .int .i64 sl] 45)
                    replace x0 := pw_cell_below hba x0
                    replace x1 := pw_cell_below hba x1
                    replace x2 := pw_cell_below hba x2
                    have HE6 := Aside0.mk (below_step HE5.out hba)
                    have HBX6 := Aside0.mk (blk_below HBX.out hba)
                    clear hba x3
                    have d3 : (si == (k' : Int)) = false := beq_eq_false_iff_ne.2 e3
                    go_wp2_with fail
                    go_roundw
                    case rel => exact ⟨j + 1, by omega, by go_num, HE6, HBX6⟩
                    case measure => simp [intOf] <;> omega
                · go_wp2_with fail
                  go_roundw
                  case rel => exact ⟨k + 1, by omega, by go_num, HE5⟩
                  case measure => simp [intOf] <;> omega
            | con q hq k' hk' =>
              obtain ⟨adp, E5, f5, e, p5, l5, g5⟩ := at_Package_conflicts H.out q hq
              obtain ⟨add, e', z⟩ := at_Conflict_line g5 k' hk'
              subst e
              subst e'
              have hba := below_alloc (Below.refl wr.heap.size wr) (.cells #[.int .u8 3, .int .i64 q, .int .i64 k', .int .i64 ps[q].conflicts[k'].line] 45)
              have hbx := blk_new wr (.cells #[.int .u8 3, .int .i64 q, .int .i64 k', .int .i64 ps[q].conflicts[k'].line] 45 (0, 0))
              have HE5 := Aside0.mk (below_step HE.out hba)
              have HBX := Aside0.mk hbx
              replace x0 := pw_cell_below hba x0
              replace p5 := pw_cell_below (below_step (below_step HF4.out.below HE.out) hba) p5
              replace z := pw_cell_below (below_step (below_step HF4.out.below HE.out) hba) z
              have bq : (q : Int) < (ps.length : Int) := by omega
              have bk' : (k' : Int) < (ps[q].conflicts.length : Int) := by omega
              clear hba hbx x1 x2 HE l5 g5
              obtain ⟨wo, hwo⟩ : ∃ wo : World, wo = wr := ⟨_, rfl⟩
              subst hwo
              go_wp2_with fail
              go_quiet (fail)
              replace HE5 := Aside0.mk (pw_below_drewN HE5.out nq)
              go_wp2_with fail
              go_loopw [109] (fun i W => ∃ j : Nat, j ≤ k ∧ i = .int .i64 j ∧ Aside0 (Below w4.heap.size w4 W) ∧ Aside0 (W.heap[wo.heap.size]? = some (.cells #[.int .u8 3, .int .i64 q, .int .i64 k', .int .i64 ps[q].conflicts[k'].line] 45 (0, 0)))) (fun i _ => k - (intOf i).toNat)
              case atStart => exact ⟨0, by omega, rfl, HE5, HBX⟩
              case round =>
                clear HE5 HBX
                obtain ⟨j, hj, rfl, HE5, HBX⟩ := hrel
                by_cases hjt : j < k
                · obtain ⟨ad', e, z0, z1, z2, z3⟩ := at_Rule (Kd.C_below (Kd.R_reads' HO4.out).2.2 HE5.out) j (by omega)
                  cases e
                  have hnot := HAP.out j hjt
                  generalize (rulesOf ps rs)[j] = s at *
                  obtain ⟨sk, sp, si, sl⟩ := s
                  simp only [sameR] at hnot z0 z1 z2 z3
                  have bj : (j : Int) < (k : Int) := by omega
                  obtain ⟨x0, x1, x2, x3⟩ := cells4 HBX.out
                  rcases three hnot with e1 | ⟨e1, e2⟩ | ⟨e1, e2, e3⟩
                  · clear hnot
                    have hba := below_alloc (Below.refl wr.heap.size wr) (.cells #[.int .u8 sk, .int .i64 sp, .int .i64 si, .int .i64 sl] 45)
                    replace x0 := pw_cell_below hba x0
                    replace x1 := pw_cell_below hba x1
                    replace x2 := pw_cell_below hba x2
                    have HE6 := Aside0.mk (below_step HE5.out hba)
                    have HBX6 := Aside0.mk (blk_below HBX.out hba)
                    clear hba x3
                    have d1 : (sk == 3) = false := beq_eq_false_iff_ne.2 e1
                    go_wp2_with fail
                    go_roundw
                    case rel => exact ⟨j + 1, by omega, by go_num, HE6, HBX6⟩
                    case measure => simp [intOf] <;> omega
                  · subst e1
                    have hba := below_alloc (Below.refl wr.heap.size wr) (.cells #[.int .u8 3, .int .i64 sp, .int .i64 si, .int .i64 sl] 45)
                    replace x0 := pw_cell_below hba x0
                    replace x1 := pw_cell_below hba x1
                    replace x2 := pw_cell_below hba x2
                    have HE6 := Aside0.mk (below_step HE5.out hba)
                    have HBX6 := Aside0.mk (blk_below HBX.out hba)
                    clear hba x3
                    have d2 : (sp == (q : Int)) = false := beq_eq_false_iff_ne.2 e2
                    go_wp2_with fail
                    go_roundw
                    case rel => exact ⟨j + 1, by omega, by go_num, HE6, HBX6⟩
                    case measure => simp [intOf] <;> omega
                  · subst e1; subst e2
                    have hba := below_alloc (Below.refl wr.heap.size wr) (.cells #[.int .u8 3, .int .i64 (q : Int), .int .i64 si, .int .i64 sl] 45)
                    replace x0 := pw_cell_below hba x0
                    replace x1 := pw_cell_below hba x1
                    replace x2 := pw_cell_below hba x2
                    have HE6 := Aside0.mk (below_step HE5.out hba)
                    have HBX6 := Aside0.mk (blk_below HBX.out hba)
                    clear hba x3
                    have d3 : (si == (k' : Int)) = false := beq_eq_false_iff_ne.2 e3
                    go_wp2_with fail
                    go_roundw
                    case rel => exact ⟨j + 1, by omega, by go_num, HE6, HBX6⟩
                    case measure => simp [intOf] <;> omega
                · go_wp2_with fail
                  go_roundw
                  case rel => exact ⟨k + 1, by omega, by go_num, HE5⟩
                  case measure => simp [intOf] <;> omega
          · go_wp2_with fail
            refine (fixed_calls _).mono ?_
            rintro e w5 ⟨rfl, hb⟩
            have HE6 := Aside0.mk (below_step (below_step HF4.out.below HE.out) hb)
            clear hb
            go_wp2_with fail
            go_ret
            exact ⟨rfl, HE6.out⟩

end Go.Proofs.YtbahanlnkikpeaaGreat
