import Derived.Test.YtbahanlnkikpeaaGreatRec9f
import Derived.Test.YtbahanlnkikpeaaGreatGreat8
namespace Go.Proofs.YtbahanlnkikpeaaGreat
open Go.RowKit Go.Proofs.YtbahanlnkikpeaaGreatW.PrintWords Go.Proofs.YtbahanlnkikpeaaGreatW.PrintLast
set_option linter.unusedVariables false
set_option linter.unusedSimpArgs false
set_option maxRecDepth 100000
set_option maxHeartbeats 8000000
def RcOK (ps : List DPackage) : Prop := ∀ p ∈ ps, PkOK p
def RcOKP (ps : List DPackage) (n : Int) : Prop := n = 0 → RcOK ps
theorem retPrBad {ps : List DPackage} {n l : Int} {w w1 : World} (hn : n ≠ 0) (h : Below w.heap.size w w1) : RetPr w (RcOKP ps) (.returned (.agg #[.int .u8 n, .int .i64 l])) w1 := ⟨n, l, fun h => absurd h hn, rfl, h⟩
theorem Recipe_any (w : World) (A : Option Addr) (c : Nat) (ps : List DPackage) (A2 : Option Addr) (c2 : Nat) (fs : List DPrefer) (h : Kd.C kPackage w A ps.length ps) (h2 : Kd.C kPrefer w A2 fs.length fs) (hsz : SzR ps) :
   Calls Tryz.prog 52 #[.agg #[.slice A ps.length c, .slice A2 fs.length c2]] w (RetPr w (RcOKP ps)) := by
  have m1 := Kd.C_max h
  have m2 := Kd.C_max h2
  have H := Aside0.mk h
  have H2 := Aside0.mk h2
  have HS := Aside0.mk hsz
  clear h h2 hsz
  have HF := Aside0.mk (Fr2.mk0 w 25 #[.slice A ps.length c, .slice A2 fs.length c2] 122 #[.int .u8 0, .int .i64 0])
  by_cases h24 : 24 < ps.length
  · obtain ⟨ad, e, y1⟩ := at_Package_line (Kd.C_below H.out HF.out.below) 24 h24
    subst e
    replace y1 : ((w.alloc (.cells #[.slice (some ad) ps.length c, .slice A2 fs.length c2] 25)).alloc (.cells #[.int .u8 0, .int .i64 0] 122)).cell? ⟨ad.block, ad.off + 193, none⟩ = some (.int .i64 ps[24].line) := y1
    go_enter Tryz.func52, Tryz.ntmps52
    go_wp2_with fail
    refine bodyPost_ret (v := .agg #[.int .u8 1, .int .i64 ps[24].line]) (by simp [results, Tryz.results52, go_sem]) rfl (retPrBad (by decide) ?_)
    exact below_alloc (below_alloc (Below.refl _ _) _) _
  · by_cases h8 : 8 < fs.length
    · obtain ⟨ad, e, y1⟩ := at_Prefer_line (Kd.C_below H2.out HF.out.below) 8 h8
      subst e
      replace y1 : ((w.alloc (.cells #[.slice A ps.length c, .slice (some ad) fs.length c2] 25)).alloc (.cells #[.int .u8 0, .int .i64 0] 122)).cell? ⟨ad.block, ad.off + 26, none⟩ = some (.int .i64 fs[8].line) := y1
      go_enter Tryz.func52, Tryz.ntmps52
      go_wp2_with fail
      refine bodyPost_ret (v := .agg #[.int .u8 1, .int .i64 fs[8].line]) (by simp [results, Tryz.results52, go_sem]) rfl (retPrBad (by decide) ?_)
      exact below_alloc (below_alloc (Below.refl _ _) _) _
    · go_enter Tryz.func52, Tryz.ntmps52
      go_wp2_with fail
      go_loopw [4, 31] (fun _ i wr => ∃ k : Nat, k ≤ ps.length ∧ i = .int .i64 k ∧ Aside0 (∀ j, (hj : j < ps.length) → j < k → PkOK ps[j]) ∧ Aside0 (Fr2 w 25 #[.slice A ps.length c, .slice A2 fs.length c2] 122 #[.int .u8 0, .int .i64 0] wr)) (fun _ i _ => ps.length - (intOf i).toNat)
      case atStart => exact ⟨0, by omega, rfl, ⟨fun j _ hj => by omega⟩, HF⟩
      case round =>
        clear HF
        obtain ⟨k, hk, rfl, hno, HF⟩ := hrel
        obtain ⟨x0, x1⟩ := cells2 HF.out.b0
        by_cases hlt : k < ps.length
        · go_wp2_with fail
          refine (alone_any _ _ _ _ _ _ _ _ (Kd.C_below H.out HF.out.below) (by omega) hlt (HS.out _ (List.getElem_mem hlt))).mono ?_
          rintro e w1 ⟨n, hq, rfl, hb⟩
          have HQ := Aside0.mk hq
          replace HF := Aside0.mk (HF.out.step hb)
          clear hb hq x0 x1
          obtain ⟨x0, x1⟩ := cells2 HF.out.b0
          obtain ⟨r0, r1⟩ := cells2 HF.out.b1
          have f0 := blk_frozen HF.out.b1 0
          have f1 := blk_frozen HF.out.b1 1
          by_cases hn : n = 0
          · subst hn
            go_wp2_with fail
            go_roundw
            case rel => exact ⟨k + 1, by omega, by go_num, ⟨fun j hj hjk => by
              by_cases e : j = k
              · subst e; exact HQ.out rfl
              · exact hno.out j hj (by omega)⟩, HF⟩
            case measure => simp [intOf] <;> omega
          · have hn2 : (n != 0) = true := by rw [bne_iff_ne]; exact hn
            obtain ⟨ad, e, y1⟩ := at_Package_line (Kd.C_below H.out HF.out.below) k hlt
            subst e
            have bk : (k : Int) < (ps.length : Int) := by omega
            have HN := Aside0.mk hn
            clear hn
            go_wp2_with fail
            refine bodyPost_ret (v := .agg #[.int .u8 n, .int .i64 ps[k].line]) (by simp [results, Tryz.results52, go_sem, r0, r1]) rfl (retPrBad HN.out (below_set (below_set HF.out.below (by omega)) (by omega)))
        · have HOK : Aside0 (RcOK ps) := ⟨fun p hp => by
            obtain ⟨j, hj, rfl⟩ := List.getElem_of_mem hp
            exact hno.out j hj (by omega)⟩
          go_wp2_with fail
          clear x0 x1 hlt hk hno
          go_loopw [6, 51] (fun _ i wr => ∃ k : Nat, k ≤ ps.length ∧ i = .int .i64 k ∧ Aside0 (Fr2 w 25 #[.slice A ps.length c, .slice A2 fs.length c2] 122 #[.int .u8 0, .int .i64 0] wr)) (fun _ i _ => ps.length - (intOf i).toNat)
          case atStart => exact ⟨0, by omega, rfl, HF⟩
          case round =>
            clear HF
            obtain ⟨k, hk, rfl, HF⟩ := hrel
            obtain ⟨x0, x1⟩ := cells2 HF.out.b0
            obtain ⟨r0, r1⟩ := cells2 HF.out.b1
            have f0 := blk_frozen HF.out.b1 0
            have f1 := blk_frozen HF.out.b1 1
            obtain ⟨q0, q1⟩ := HF.out.lts
            by_cases hlt : k < ps.length
            · obtain ⟨ad, E2, f2, E3, f3, E4, f4, E5, f5, E6, f6, E7, f7, e, h0, h1, h2, h3, h4, h5, h6, h7, hK⟩ := at_Package_K (Kd.C_below H.out HF.out.below) k hlt
              subst e
              have HK := Aside0.mk hK
              clear hK
              have bk : (k : Int) < (ps.length : Int) := by omega
              clear r0 r1 f0 f1
              have qa := World.block_lt_of_cell? wr _ h0
              have n0 : wr.heap.size ≠ w.heap.size := by omega
              have n1 : wr.heap.size ≠ (ad.add (k * 8)).block := by omega
              go_upto_region 15 with (fail)
              go_cut [6] (fun z wc => ∃ (g : Nat) (n l : Int), z = .pointer (some ⟨g, 0, none⟩) ∧ Aside0 (Fr2 w 25 #[.slice (some ad) ps.length c, .slice A2 fs.length c2] 122 #[.int .u8 0, .int .i64 0] wc) ∧ Aside0 (wc.heap[g]? = some (.cells #[.int .u8 n, .int .i64 l] 122 (0, 0))) ∧ Aside0 (wr.heap.size ≤ g))
              case first =>
                go_region_held3 (fun w' => w'.cell? ⟨w.heap.size, 0, none⟩ = some (.slice (some ad) ps.length c) ∧ w'.cell? ⟨w.heap.size, 1, none⟩ = some (.slice A2 fs.length c2) ∧
                    w'.cell? (ad.add (k * 8)) = some (.string ps[k].name) ∧ w'.cell? ⟨(ad.add (k * 8)).block, (ad.add (k * 8)).off + 1, none⟩ = some (.int .i64 ps[k].line) ∧ w'.cell? ⟨(ad.add (k * 8)).block, (ad.add (k * 8)).off + 2, none⟩ = some (.slice E2 ps[k].releases.length f2) ∧ w'.cell? ⟨(ad.add (k * 8)).block, (ad.add (k * 8)).off + 3, none⟩ = some (.slice E3 ps[k].variants.length f3) ∧ w'.cell? ⟨(ad.add (k * 8)).block, (ad.add (k * 8)).off + 4, none⟩ = some (.slice E4 ps[k].provides.length f4) ∧ w'.cell? ⟨(ad.add (k * 8)).block, (ad.add (k * 8)).off + 5, none⟩ = some (.slice E5 ps[k].depends.length f5) ∧ w'.cell? ⟨(ad.add (k * 8)).block, (ad.add (k * 8)).off + 6, none⟩ = some (.slice E6 ps[k].conflicts.length f6) ∧ w'.cell? ⟨(ad.add (k * 8)).block, (ad.add (k * 8)).off + 7, none⟩ = some (.slice E7 ps[k].files.length f7))
                  (first
                    | go_keep
                    | (go_split_ands
                       refine ⟨?_, ?_, ?_, ?_, ?_, ?_, ?_, ?_, ?_, ?_⟩ <;> first | (apply pw_cell_below hb; assumption) | (apply Lib.cell?_alloc_some; apply pw_cell_below hb; assumption)))
                  ((go_at_call 76; refine (rules_any _ _ _ _ _ _ _ _ _ (Kd.C_below H.out ?cA) (by omega) (kPackage.K_below ?cB HK.out)).mono ?_; (case cA => repeat (first | exact HF.out.below | apply below_alloc | apply below_drew | apply pw_below_drewN)); (case cB => repeat (first | exact Below.refl _ _ | apply below_alloc | apply below_drew | apply pw_below_drewN)); rintro e w1 ⟨n, l, -, rfl, hb⟩; have n2 : w1.heap.size ≠ w.heap.size := (by have := hb.size; simp at this; omega); have n3 : w1.heap.size ≠ (ad.add (k * 8)).block := (by have := hb.size; simp at this; omega); try (have bk0 := blk_below (g := wr.heap.size) (o := .cells #[.int .u8 0, .int .i64 0] 122 (0, 0)) (by exact blk_new wr _) hb; have c0 : w1.cell? ⟨wr.heap.size, 0, none⟩ = some (.int .u8 0) := blk_cell bk0 0; have c1 : w1.cell? ⟨wr.heap.size, 1, none⟩ = some (.int .i64 0) := blk_cell bk0 1; have c2 := blk_frozen bk0 0; have c3 := blk_frozen bk0 1)))
                · go_wp2_with fail
                  have hx := below_step (below_drew (Below.refl wr.heap.size wr)) hb
                  go_meet
                  case rel => exact ⟨_, n, l, rfl, ⟨(HF.out.step hx).alloc _⟩, ⟨blk_new _ _⟩, ⟨hx.size⟩⟩
                · go_wp2_with fail
                  have hx := below_step (below_drew (below_alloc (Below.refl wr.heap.size wr) (.cells #[.int .u8 0, .int .i64 0] 122 (0, 0)))) hb
                  have HF1 := HF.out.step hx
                  have bk0 := blk_below (g := wr.heap.size) (o := .cells #[.int .u8 0, .int .i64 0] 122 (0, 0)) (by exact blk_new wr _) hb
                  go_meet
                  case rel => exact ⟨_, n, l, rfl, ⟨below_set (below_set HF1.below (by omega)) (by omega), blk_far (blk_far HF1.b0 (by simp; omega) _) (by simp; omega) _, blk_far (blk_far HF1.b1 (by simp; omega) _) (by simp; omega) _⟩, ⟨blk_set (blk_set bk0 0 _) 1 _⟩, ⟨Nat.le_refl _⟩⟩
              case rest =>
                obtain ⟨g, n, l, rfl, HFc, BG, hge⟩ := hcut
                clear h0 h1 h2 h3 h4 h5 h6 h7 x0 x1 qa n0 n1 q0 q1
                obtain ⟨y0, y1⟩ := cells2 BG.out
                obtain ⟨r0, r1⟩ := cells2 HFc.out.b1
                have f0 := blk_frozen HFc.out.b1 0
                have f1 := blk_frozen HFc.out.b1 1
                by_cases hn : n = 0
                · subst hn
                  go_wp2_with fail
                  go_roundw
                  case rel => exact ⟨k + 1, by omega, by go_num, HFc⟩
                  case measure => simp [intOf] <;> omega
                · have hn2 : (n != 0) = true := by rw [bne_iff_ne]; exact hn
                  have HN := Aside0.mk hn
                  clear hn
                  go_wp2_with fail
                  refine bodyPost_ret (v := .agg #[.int .u8 n, .int .i64 l]) (by simp [results, Tryz.results52, go_sem, r0, r1]) rfl (retPrBad HN.out (below_set (below_set HFc.out.below (by omega)) (by omega)))
            · go_wp2_with fail
              clear x0 x1 r0 r1 f0 f1 q0 q1 hlt hk
              go_loopw [69] (fun i wr => ∃ k : Nat, k ≤ fs.length ∧ i = .int .i64 k ∧ Aside0 (Fr2 w 25 #[.slice A ps.length c, .slice A2 fs.length c2] 122 #[.int .u8 0, .int .i64 0] wr)) (fun i _ => fs.length - (intOf i).toNat)
              case atStart => exact ⟨0, by omega, rfl, HF⟩
              case round =>
                clear HF
                obtain ⟨k, hk, rfl, HF⟩ := hrel
                obtain ⟨x0, x1⟩ := cells2 HF.out.b0
                obtain ⟨r0, r1⟩ := cells2 HF.out.b1
                have f0 := blk_frozen HF.out.b1 0
                have f1 := blk_frozen HF.out.b1 1
                by_cases hlt : k < fs.length
                · go_wp2_with fail
                  refine (prefer_any _ _ _ _ _ _ _ _ (Kd.C_below H.out HF.out.below) (by omega) (Kd.C_below H2.out HF.out.below) hlt).mono ?_
                  rintro e w1 ⟨b, -, rfl, hb⟩
                  replace HF := Aside0.mk (HF.out.step hb)
                  clear hb x0 x1 r0 r1 f0 f1
                  obtain ⟨x0, x1⟩ := cells2 HF.out.b0
                  obtain ⟨r0, r1⟩ := cells2 HF.out.b1
                  have f0 := blk_frozen HF.out.b1 0
                  have f1 := blk_frozen HF.out.b1 1
                  cases b
                  · obtain ⟨ad, e, y2⟩ := at_Prefer_line (Kd.C_below H2.out HF.out.below) k hlt
                    subst e
                    have bk : (k : Int) < (fs.length : Int) := by omega
                    go_wp2_with fail
                    refine bodyPost_ret (v := .agg #[.int .u8 10, .int .i64 fs[k].line]) (by simp [results, Tryz.results52, go_sem, r0, r1]) rfl (retPrBad (by decide) (below_set (below_set HF.out.below (by omega)) (by omega)))
                  · go_wp2_with fail
                    go_roundw
                    case rel => exact ⟨k + 1, by omega, by go_num, HF⟩
                    case measure => simp [intOf] <;> omega
                · go_wp2_with fail
                  refine bodyPost_ret (v := .agg #[.int .u8 0, .int .i64 0]) (by simp [results, Tryz.results52, go_sem, r0, r1]) rfl ⟨0, 0, fun _ => HOK.out, rfl, below_set (below_set HF.out.below (by omega)) (by omega)⟩

end Go.Proofs.YtbahanlnkikpeaaGreat
