import Derived.Deep.RegionHeld3
import Derived.Test.YtbahanlnkikpeaaGreatChoN
namespace Go.Proofs.YtbahanlnkikpeaaGreat
open Go.RowKit Go.Proofs.YtbahanlnkikpeaaGreatW.PrintWords Go.Proofs.YtbahanlnkikpeaaGreatW.PrintLast
set_option linter.unusedVariables false
set_option linter.unusedSimpArgs false
open Go.RowKit Go.Maps
set_option maxRecDepth 100000
set_option maxHeartbeats 2000000
theorem hasI_mem {l : List Int} {x : Int} : hasI l x = true ↔ x ∈ l := by
  unfold hasI
  simp
/-- What a node and a row are, where one is built. -/
def OneOK (node : Int) (row : List Int) : Prop := (node = 0 ∨ (0 : Int) ∈ row) ∨ (row.length ≤ 10 ∧ GoodR row ∧ 0 < node ∧ node < 1000000 ∧ node ∉ row)
theorem OneOK.good {node : Int} {row : List Int} (hr : row.length ≤ 10) (h : GoodR row) (h0 : 0 < node) (h1 : node < 1000000) (hn : node ∉ row) : GoodC (-node :: row) ∧ ∀ x ∈ row, GoodC [-x, node] := by
  have habs : row.map absI = row := by
    conv => rhs; rw [← List.map_id row]
    exact List.map_congr_left (fun x hx => absI_pos (h.pos x hx).1)
  refine ⟨⟨by simp, by rw [List.length_cons]; omega, ?_, ?_⟩, ?_⟩
  · intro x hx
    rcases List.mem_cons.1 hx with rfl | hx
    · omega
    · have := h.pos x hx; omega
  · rw [List.map_cons, habs, absI_neg, absI_pos h0, List.nodup_cons]
    exact ⟨hn, h.nd⟩
  · intro x hx
    have hp := h.pos x hx
    refine ⟨by simp, by simp, ?_, ?_⟩
    · intro y hy
      simp at hy
      rcases hy with rfl | rfl <;> omega
    · simp [absI_neg, absI_pos hp.1, absI_pos h0]
      rintro rfl
      exact hn hx
theorem oneG_calls (w0 w : World) (g : Nat) (a : Args) (gs : GS) (node : Int) (Br : Nat) (Ar : Option Addr) (cr : Nat) (row : List Int) (h : Gnd w0 g a gs w) (hr : OwnI w Br (.slice Ar row.length cr) row) (ho : OneOK node row) :
    Calls Tryz.prog 40 #[.pointer (some ⟨g, 0, none⟩), .int .i64 node, .slice Ar row.length cr] w (fun e w' => e = .returned (.tuple #[]) ∧ Gnd w0 g a ⟨gs.t, gs.b.one node row⟩ w' ∧ Keep BldO w w') := by
  have H := Aside0.mk h
  have HR := Aside0.mk hr
  by_cases hz : node = 0 ∨ (0 : Int) ∈ row
  · have hb : gs.b.one node row = gs.b := by unfold BS.one; rw [if_pos hz]
    rw [hb]
    clear ho h hr
    by_cases hn : node = 0
    · subst hn
      go_enter Tryz.func40, Tryz.ntmps40
      go_wp2_with fail
      (try simp only [Exit.inBlock, Exit.then]); refine bodyPost_ret (results_none rfl _ _ _) rfl ?_
      exact ⟨rfl, H.out, Keep.refl _ _⟩
    · have hm : hasI row 0 = true := hasI_mem.2 (hz.resolve_left hn)
      clear hz
      go_enter Tryz.func40, Tryz.ntmps40
      go_wp2_with fail
      refine (ContainsI_same _ _ _ _ _ (Kd.R_reads' HR.out).2.2).mono ?_
      rintro e w1 ⟨rfl, rfl⟩
      rw [hm]
      go_wp2_with fail
      (try simp only [Exit.inBlock, Exit.then]); refine bodyPost_ret (results_none rfl _ _ _) rfl ?_
      exact ⟨rfl, H.out, Keep.refl _ _⟩
  · obtain ⟨hl, hg, h0, h1, hnm⟩ := ho.resolve_left hz
    have hm : hasI row 0 = false := by
      rw [Bool.eq_false_iff]
      exact fun e => hz (.inr (hasI_mem.1 e))
    have hb : gs.b.one node row = row.foldl (fun b n => b.add [-n, node]) ((gs.b.add (-node :: row)).most row) := by unfold BS.one; rw [if_neg hz]
    rw [hb]
    obtain ⟨hgc, hgx⟩ := OneOK.good hl hg h0 h1 hnm
    have HGC := Aside0.mk hgc
    have HGX := Aside0.mk hgx
    have HGR := Aside0.mk hg
    have hn0 : ¬ node = 0 := by omega
    clear ho h hr hz hgc hgx hg hnm hb
    obtain ⟨h1', h2, tg, bg, Ai, cI, Arr, cR, hG, hT, hB, hI, hRl⟩ := H.out
    have HG0 := Aside0.mk hG
    have HP := Aside0.mk (And.intro hT (And.intro hI hRl))
    have HB0 := Aside0.mk hB
    have HE := Aside0.mk h1'
    clear h1' h2 hG hT hB hI hRl
    obtain ⟨x0, x1, x2, x3, x4, x5, x6⟩ := cells7 HG0.out
    clear x0 x1 x2 x3 x4 x5
    go_enter Tryz.func40, Tryz.ntmps40
    go_wp2_with fail
    refine (ContainsI_same _ _ _ _ _ (Kd.R_reads' HR.out).2.2).mono ?_
    rintro e w1 ⟨rfl, rfl⟩
    rw [hm]
    go_wp2_with fail
    have hwn : IntKind.i64.wrap (-node) = -node := IntWalk.i64_in _ (by omega)
    have HLit : Aside0 (OwnI ((w1.alloc (.cells #[.int .i64 (-node)] 3)).drew) w1.heap.size (.slice (some ⟨w1.heap.size, 0, none⟩) 1 1) [-node]) := ⟨OwnI.below (Kd.R_of_own (own_lit w1 w1.heap.size 3 .i64 [-node] (Nat.le_refl _) (by simp)) (fun _ _ => trivial)) (below_drew (Below.refl _ _))⟩
    have HBL : Aside0 (Below w1.heap.size w1 ((w1.alloc (.cells #[.int .i64 (-node)] 3)).drew)) := ⟨below_drew (below_alloc (Below.refl _ _) _)⟩
    have HRw : Aside0 (Kd.C (Kd.int .i64) ((w1.alloc (.cells #[.int .i64 (-node)] 3)).drew) Ar row.length row) := ⟨Kd.C_below (Kd.R_reads' HR.out).2.2 HBL.out⟩
    go_region_held3 (fun w' => w'.cell? ⟨g, 6, none⟩ = some (.pointer (some ⟨bg, 0, none⟩)))
      (first
        | go_keep
        | (apply Lib.cell?_alloc_some; assumption)
        | exact pw_cell_below hB3 x6
        | exact blk_cell (hk4.blk (blk_below HG0.out hB3) (BldO.not (by decide) (by decide))) 6)
      ((first
        | (refine Kd.R_append_rows_step (Kd.int .i64) (w0 := w1) (Rr := (Kd.int .i64).K w1) w1.heap.size (by rfl) (.tmp 20) (.tmp 21) 35 3 (.int .i64 0) 8 (by rfl) Tryz.underlying35 info_int rfl (by decide) (by omega) _ [-node] row Ar row.length cr (fun _ => True) (fun _ => False) (by rfl) (by rfl) HLit.out HRw.out (fun x cs hk => hk) (fun _ hk => hk.elim) (fun _ _ => trivial) HBL.out HBL.out.size (by simp; omega) ?_; intro v1 w3 hO3 hB3 hg3 hat3; obtain ⟨A1, c1, rfl, hc1, hC1⟩ := Kd.R_reads hO3)
        | (go_at_call 59; refine (Add_calls w3 _ bg gs.b _ _ (-node :: row) (HB0.out.below hB3) hC1 HGC.out).mono ?_; rintro e w4 ⟨rfl, hB4, hb4, hk4⟩)))
    have HB4 := Aside0.mk hB4
    have HK4 : Aside0 (Keep BldO w1 w4) := ⟨(Keep.of_below BldO hB3).trans hk4⟩
    have HF4 : Aside0 (Below w0.heap.size w1 w4) := ⟨(hB3.mono HE.out.size).trans hb4⟩
    have HR4 := Aside0.mk (HR.out.keepB HK4.out)
    have z6 := blk_cell (HK4.out.blk HG0.out (BldO.not (by decide) (by decide))) 6
    clear hB4 hb4 hk4 hB3 hO3 hg3 hat3 hC1 x6 HBL HRw HLit
    go_wp2_with fail
    refine (Most_calls w4 _ Br bg _ _ _ row HB4.out HR4.out HGR.out).mono ?_
    rintro e w5 ⟨rfl, hB5, hb5, hk5⟩
    have HB5 := Aside0.mk hB5
    have HK5 : Aside0 (Keep BldO w1 w5) := ⟨HK4.out.trans hk5⟩
    have HF5 : Aside0 (Below w0.heap.size w1 w5) := ⟨HF4.out.trans hb5⟩
    clear hB5 hb5 hk5 HB4 HK4 HF4 HR4 z6
    go_wp2_with fail
    go_loopw [32] (fun i W => ∃ (k : Nat) (b' : BS), k ≤ row.length ∧ i = .int .i64 k ∧ Aside0 (Bld W w0.heap.size bg b') ∧ Aside0 ((row.drop k).foldl (fun b n => b.add [-n, node]) b' = row.foldl (fun b n => b.add [-n, node]) ((gs.b.add (-node :: row)).most row)) ∧ Aside0 (Below w0.heap.size w1 W) ∧ Aside0 (Keep BldO w1 W)) (fun i _ => row.length - (intOf i).toNat)
    case atStart => exact ⟨0, _, by omega, rfl, HB5, ⟨by rw [List.drop_zero]⟩, HF5, HK5⟩
    case round =>
      clear HB5 HK5 HF5
      obtain ⟨k, b', hk, rfl, HB, HM, HF, HK⟩ := hrel
      have z6 := blk_cell (HK.out.blk HG0.out (BldO.not (by decide) (by decide))) 6
      by_cases hlt : k < row.length
      · obtain ⟨ad, e, y⟩ := at_i64 (Kd.R_reads' (HR.out.keepB HK.out)).2.2 k hlt
        subst e
        have hx := HGR.out.pos _ (List.getElem_mem hlt)
        have HGC2 := Aside0.mk (HGX.out _ (List.getElem_mem hlt))
        have HD : Aside0 (row.drop k = row[k] :: row.drop (k + 1)) := ⟨List.drop_eq_getElem_cons _⟩
        rw [HD.out] at HM
        clear HD
        generalize row[k] = x at *
        have hba := Aside0.mk (below_alloc (Below.refl wr.heap.size wr) (.cells #[.int .i64 (-x), .int .i64 node] 3))
        have HB1 := Aside0.mk (HB.out.below hba.out)
        have HC1 : Aside0 (Kd.C (Kd.int .i64) (wr.alloc (.cells #[.int .i64 (-x), .int .i64 node] 3)) (some ⟨wr.heap.size, 0, none⟩) 2 [-x, node]) := ⟨lit_C wr [-x, node] (by simp)⟩
        go_wp2_with fail
        refine (Add_calls _ _ bg b' _ _ [-x, node] HB1.out HC1.out HGC2.out).mono ?_
        rintro e w6 ⟨rfl, hB6, hb6, hk6⟩
        have HK1 : Aside0 (Keep BldO w1 w6) := ⟨HK.out.trans ((Keep.of_below _ hba.out).trans hk6)⟩
        have HF1 : Aside0 (Below w0.heap.size w1 w6) := ⟨HF.out.trans ((hba.out.mono (Nat.le_trans HE.out.size HF.out.size)).trans hb6)⟩
        have HB3 := Aside0.mk hB6
        clear hB6 hb6 hk6
        go_wp2_with fail
        go_roundw
        case rel => exact ⟨k + 1, _, by omega, by go_num, HB3, HM, HF1, HK1⟩
        case measure => simp [intOf] <;> omega
      · have hd : Aside0 (row.drop k = []) := ⟨List.drop_of_length_le (by omega)⟩
        rw [hd.out] at HM
        go_wp2_with fail
        go_end0
        have hBB : Bld wr w0.heap.size bg (row.foldl (fun b n => b.add [-n, node]) ((gs.b.add (-node :: row)).most row)) := by rw [← HM.out]; exact HB.out
        exact ⟨rfl, Gnd.mkB H.out HG0.out HP.out.1 HP.out.2.1 HP.out.2.2 HF.out HK.out hBB, HK.out⟩

end Go.Proofs.YtbahanlnkikpeaaGreat
