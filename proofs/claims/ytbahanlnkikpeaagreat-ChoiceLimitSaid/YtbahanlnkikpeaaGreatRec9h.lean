import Derived.Test.YtbahanlnkikpeaaGreatRec9g
namespace Go.Proofs.YtbahanlnkikpeaaGreat
open Go.RowKit Go.Proofs.YtbahanlnkikpeaaGreatW.PrintWords Go.Proofs.YtbahanlnkikpeaaGreatW.PrintLast
set_option linter.unusedVariables false
set_option linter.unusedSimpArgs false
set_option maxRecDepth 100000
set_option maxHeartbeats 8000000
def RqOKP (rs : List DRoot) (n : Int) : Prop := n = 0 → rs.length ≤ 8
theorem retRqBad {rs : List DRoot} {n l : Int} {w w1 : World} (hn : n ≠ 0) (h : Below w.heap.size w w1) : RetPr w (RqOKP rs) (.returned (.agg #[.int .u8 n, .int .i64 l])) w1 := ⟨n, l, fun h => absurd h hn, rfl, h⟩
theorem Request_any (w : World) (A : Option Addr) (c : Nat) (ps : List DPackage) (A2 : Option Addr) (n2 c2 : Nat) (B : Option Addr) (d : Nat) (rs : List DRoot) (h : Kd.C kPackage w A ps.length ps) (hps : ps.length < 1000000000000) (hr : Kd.C kRoot w B rs.length rs) :
   Calls Tryz.prog 53 #[.agg #[.slice A ps.length c, .slice A2 n2 c2], .agg #[.slice B rs.length d]] w (RetPr w (RqOKP rs)) := by
  have m2 := Kd.C_max hr
  have H := Aside0.mk h
  have H2 := Aside0.mk hr
  clear h hr
  have HF := Aside0.mk (Fr3.mk0 w 25 #[.slice A ps.length c, .slice A2 n2 c2] 28 #[.slice B rs.length d] 122 #[.int .u8 0, .int .i64 0])
  by_cases h0 : rs.length = 0
  · have h0' : ((rs.length : Int) == 0) = true := by rw [h0]; rfl
    go_enter Tryz.func53, Tryz.ntmps53
    go_wp2_with fail
    refine bodyPost_ret (v := .agg #[.int .u8 11, .int .i64 0]) (by simp [results, Tryz.results53, go_sem]) rfl (retRqBad (by decide) ?_)
    exact below_alloc (below_alloc (below_alloc (Below.refl _ _) _) _) _
  · have h0' : ((rs.length : Int) == 0) = false := by rw [beq_eq_false_iff_ne]; omega
    by_cases h8 : 8 < rs.length
    · obtain ⟨ad, e, y1⟩ := at_Root_line (Kd.C_below H2.out HF.out.below) 8 h8
      subst e
      replace y1 : (((w.alloc (.cells #[.slice A ps.length c, .slice A2 n2 c2] 25)).alloc (.cells #[.slice (some ad) rs.length d] 28)).alloc (.cells #[.int .u8 0, .int .i64 0] 122)).cell? ⟨ad.block, ad.off + 35, none⟩ = some (.int .i64 rs[8].line) := y1
      go_enter Tryz.func53, Tryz.ntmps53
      go_wp2_with fail
      refine bodyPost_ret (v := .agg #[.int .u8 1, .int .i64 rs[8].line]) (by simp [results, Tryz.results53, go_sem]) rfl (retRqBad (by decide) ?_)
      exact below_alloc (below_alloc (below_alloc (Below.refl _ _) _) _) _
    · go_enter Tryz.func53, Tryz.ntmps53
      go_wp2_with fail
      go_loopw [6, 25] (fun _ i wr => ∃ k : Nat, k ≤ rs.length ∧ i = .int .i64 k ∧ Aside0 (Fr3 w 25 #[.slice A ps.length c, .slice A2 n2 c2] 28 #[.slice B rs.length d] 122 #[.int .u8 0, .int .i64 0] wr)) (fun _ i _ => rs.length - (intOf i).toNat)
      case atStart => exact ⟨0, by omega, rfl, HF⟩
      case round =>
        clear HF
        obtain ⟨k, hk, rfl, HF⟩ := hrel
        obtain ⟨x0, x1⟩ := cells2 HF.out.b0
        have p0 := cells1 HF.out.b1
        obtain ⟨r0, r1⟩ := cells2 HF.out.b2
        have f0 := blk_frozen HF.out.b2 0
        have f1 := blk_frozen HF.out.b2 1
        by_cases hlt : k < rs.length
        · obtain ⟨ad, A1, c1, A2', c2', e, y0, y1, y2, y3, l1, g1, l2, g2⟩ := at_Root (Kd.C_below H2.out HF.out.below) k hlt
          subst e
          have S1 := Aside0.mk (kSpec_mk wr rs[k].spec l1 g1 l2 g2)
          clear l1 g1 l2 g2
          have bk : (k : Int) < (rs.length : Int) := by omega
          go_wp2
          go_still_tail 7, (by kernel_rfl)
          change wpList _ _ _ _ _ wr.drew
          replace HF := Aside0.mk (HF.out.step (below_drew (Below.refl _ _)))
          replace S1 := Aside0.mk (kSpec.K_below (below_drew (Below.refl _ _)) S1.out)
          generalize wr.drew = w2 at HF S1 ⊢
          clear x0 x1 p0 r0 r1 f0 f1 y0 y1 y2 y3
          go_wp2_with fail
          refine (wish_K _ _ _ _ _ _ _ _ _ (Kd.C_below H.out HF.out.below) hps S1.out).mono ?_
          rintro e w3 ⟨n, -, rfl, hb⟩
          replace HF := Aside0.mk (HF.out.step hb)
          clear hb
          obtain ⟨r0, r1⟩ := cells2 HF.out.b2
          have p0 := cells1 HF.out.b1
          have f0 := blk_frozen HF.out.b2 0
          have f1 := blk_frozen HF.out.b2 1
          by_cases hn : n = 0
          · subst hn
            go_wp2_with fail
            go_roundw
            case rel => exact ⟨k + 1, by omega, by go_num, HF⟩
            case measure => simp [intOf] <;> omega
          · have hn2 : (n != 0) = true := by rw [bne_iff_ne]; exact hn
            obtain ⟨ad', e, y3⟩ := at_Root_line (Kd.C_below H2.out HF.out.below) k hlt
            cases e
            have HN := Aside0.mk hn
            clear hn
            go_wp2_with fail
            refine bodyPost_ret (v := .agg #[.int .u8 n, .int .i64 rs[k].line]) (by simp [results, Tryz.results53, go_sem, r0, r1]) rfl (retRqBad HN.out (below_set (below_set HF.out.below (by omega)) (by omega)))
        · go_wp2_with fail
          refine bodyPost_ret (v := .agg #[.int .u8 0, .int .i64 0]) (by simp [results, Tryz.results53, go_sem, r0, r1]) rfl ⟨0, 0, fun _ => by omega, rfl, below_set (below_set HF.out.below (by omega)) (by omega)⟩
theorem run_field_pr (n l : Int) (w : World) : (Instr.field 122 (.agg #[.int .u8 n, .int .i64 l]) 0).run Tryz.prog w = .ok (.int .u8 n) w := by kernel_rfl
/-- What is known where the laws go on. -/
structure Small (ps : List DPackage) (rs : List DRoot) : Prop where
  n : ps.length ≤ 8
  pk : RcOK ps
  rq : rs.length ≤ 8
def SmP (ps : List DPackage) (rs : List DRoot) (b : Bool) : Prop := b = false → Small ps rs
theorem retSm {ps : List DPackage} {rs : List DRoot} {w w1 : World} (h : Below w.heap.size w w1) : RetBool w (SmP ps rs) (.returned (.bool true)) w1 := ⟨true, (fun h => nomatch h), rfl, h⟩
theorem Great13_any (w : World) (A : Option Addr) (c : Nat) (ps : List DPackage) (A2 : Option Addr) (c2 : Nat) (fs : List DPrefer) (B : Option Addr) (d : Nat) (rs : List DRoot) (h : Kd.C kPackage w A ps.length ps) (h2 : Kd.C kPrefer w A2 fs.length fs) (hr : Kd.C kRoot w B rs.length rs) (hsz : SzR ps) :
   Calls Tryz.prog 31 #[.agg #[.slice A ps.length c, .slice A2 fs.length c2], .agg #[.slice B rs.length d]] w (RetBool w (SmP ps rs)) := by
  have H := Aside0.mk h
  have H2 := Aside0.mk h2
  have H3 := Aside0.mk hr
  have HS := Aside0.mk hsz
  clear h h2 hr hsz
  have HF := Aside0.mk (Fr2.mk0 w 25 #[.slice A ps.length c, .slice A2 fs.length c2] 28 #[.slice B rs.length d])
  have hfp := run_field_pr
  by_cases h8 : 8 < ps.length
  · go_enter Tryz.func31, Tryz.ntmps31
    go_wp2_with fail
    go_ret
    exact retSm (below_alloc (below_alloc (Below.refl _ _) _) _)
  · go_enter Tryz.func31, Tryz.ntmps31
    go_wp2_with fail
    refine (Versions_any _ _ _ _ _ _ _ (Kd.C_below H.out HF.out.below)).mono ?_
    rintro e w1 ⟨b, -, rfl, hb⟩
    replace HF := Aside0.mk (HF.out.step hb)
    clear hb
    obtain ⟨x0, x1⟩ := cells2 HF.out.b0
    cases b
    · go_wp2_with fail
      go_ret
      exact retSm HF.out.below
    · go_wp2_with fail
      refine (Recipe_any _ _ _ _ _ _ _ (Kd.C_below H.out HF.out.below) (Kd.C_below H2.out HF.out.below) HS.out).mono ?_
      rintro e w2 ⟨n, l, hq, rfl, hb⟩
      have HQ := Aside0.mk hq
      replace HF := Aside0.mk (HF.out.step hb)
      clear hb x0 x1 hq
      obtain ⟨x0, x1⟩ := cells2 HF.out.b0
      have p0 := cells1 HF.out.b1
      by_cases hn : n = 0
      · subst hn
        go_wp2_with fail
        refine (Request_any _ _ _ _ _ _ _ _ _ _ (Kd.C_below H.out HF.out.below) (by omega) (Kd.C_below H3.out HF.out.below)).mono ?_
        rintro e w3 ⟨n, l, hq2, rfl, hb⟩
        replace HF := Aside0.mk (HF.out.step hb)
        have HQ2 := Aside0.mk hq2
        clear hb x0 x1 p0 hq2
        by_cases hn : n = 0
        · subst hn
          go_wp2_with fail
          go_ret
          exact ⟨_, fun _ => ⟨by omega, HQ.out rfl, HQ2.out rfl⟩, rfl, HF.out.below⟩
        · have hn2 : (n != 0) = true := by rw [bne_iff_ne]; exact hn
          clear hn
          go_wp2_with fail
          go_ret
          exact retSm HF.out.below
      · have hn2 : (n != 0) = true := by rw [bne_iff_ne]; exact hn
        clear hn
        go_wp2_with fail
        go_ret
        exact retSm HF.out.below
theorem Great_any (w : World) (A : Option Addr) (c : Nat) (ps : List DPackage) (A2 : Option Addr) (c2 : Nat) (fs : List DPrefer) (B : Option Addr) (d : Nat) (rs : List DRoot) (h : Kd.C kPackage w A ps.length ps) (h2 : Kd.C kPrefer w A2 fs.length fs) (hr : Kd.C kRoot w B rs.length rs) :
   Calls Tryz.prog 7 #[.agg #[.slice A ps.length c, .slice A2 fs.length c2], .agg #[.slice B rs.length d]] w (RetBool w (SmP ps rs)) := by
  have H := Aside0.mk h
  have H2 := Aside0.mk h2
  have H3 := Aside0.mk hr
  clear h h2 hr
  have HF := Aside0.mk (Fr2.mk0 w 25 #[.slice A ps.length c, .slice A2 fs.length c2] 28 #[.slice B rs.length d])
  go_enter Tryz.func7, Tryz.ntmps7
  go_wp2_with fail
  refine (ref7Great_any _ _ _ _ _ _ _ (Kd.C_below H.out HF.out.below) (Kd.C_below H2.out HF.out.below)).mono ?_
  rintro e w1 ⟨b, hq, rfl, hb⟩
  have HQ := Aside0.mk hq
  replace HF := Aside0.mk (HF.out.step hb)
  clear hb hq
  have p0 := cells1 HF.out.b1
  cases b
  · go_wp2_with fail
    refine (ref8Great_any _ _ _ _ (Kd.C_below H3.out HF.out.below)).mono ?_
    rintro e w2 ⟨b, -, rfl, hb⟩
    replace HF := Aside0.mk (HF.out.step hb)
    clear hb p0
    have p0 := cells1 HF.out.b1
    obtain ⟨x0, x1⟩ := cells2 HF.out.b0
    cases b
    · go_wp2_with fail
      refine (Great13_any _ _ _ _ _ _ _ _ _ _ (Kd.C_below H.out HF.out.below) (Kd.C_below H2.out HF.out.below) (Kd.C_below H3.out HF.out.below) (HQ.out rfl)).mono ?_
      rintro e w3 ⟨b, hq, rfl, hb⟩
      have HQ3 := Aside0.mk hq
      clear hq
      go_wp2_with fail
      go_ret
      exact ⟨_, HQ3.out, rfl, below_step HF.out.below hb⟩
    · go_wp2_with fail
      go_ret
      exact retSm HF.out.below
  · go_wp2_with fail
    go_ret
    exact retSm HF.out.below

end Go.Proofs.YtbahanlnkikpeaaGreat
