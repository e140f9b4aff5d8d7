import Derived.Test.YtbahanlnkikpeaaGreatChoO
namespace Go.Proofs.YtbahanlnkikpeaaGreat
open Go.RowKit Go.Proofs.YtbahanlnkikpeaaGreatW.PrintWords Go.Proofs.YtbahanlnkikpeaaGreatW.PrintLast
set_option linter.unusedVariables false
set_option linter.unusedSimpArgs false
open Go.RowKit Go.Maps
set_option maxRecDepth 100000
set_option maxHeartbeats 2000000
theorem mapT_empty {w : World} {m : Nat} (h : w.heap[m]? = some (.map #[] 0)) : MapT w m 0 (.map []) := ⟨#[], 0, h, ⟨by simp, ⟨by simp, by simp, by simp⟩, by simp⟩, Nat.le_refl _, rfl⟩
theorem NewG_calls (w : World) (a : Args) (hlim : a.lim ≤ 65536) (h : Kd.C kPackage w a.A a.ps.length a.ps) (hr : Kd.C kRoot w a.B a.rs.length a.rs) (hs : Small a.ps a.rs) :
    Calls Tryz.prog 9 #[.agg #[.slice a.A a.ps.length a.c, .slice a.A2 a.n2 a.c2], .agg #[.slice a.B a.rs.length a.d], .int .i64 a.lim] w (fun e w' => ∃ g, e = .returned (.pointer (some ⟨g, 0, none⟩)) ∧ Gnd w g a GS.start w') := by
  have HS := Aside0.mk hs
  have H := Aside0.mk h
  have H2 := Aside0.mk hr
  obtain ⟨A, c, ps, A2, n2, c2, B, d, rs, lim⟩ := a
  simp only at *
  clear h hr hs
  have HF0 := Aside0.mk (Fr2.mk0 w 25 #[.slice A ps.length c, .slice A2 n2 c2] 28 #[.slice B rs.length d])
  go_enter Tryz.func9, Tryz.ntmps9
  go_wp2_with fail
  refine (ClosureG_calls _ A c ps A2 n2 c2 B d rs (Kd.C_below H.out HF0.out.below) (Kd.C_below H2.out HF0.out.below) HS.out).mono ?_
  rintro e w1 ⟨v, rfl, hO, hb⟩
  obtain ⟨Ai, cI, rfl, hci, -⟩ := Kd.R_reads hO
  have HF1 := Aside0.mk (HF0.out.step hb)
  have HO1 := Aside0.mk (hO.lower HF0.out.below.size)
  obtain ⟨x0, x1⟩ := cells2 HF1.out.b0
  have x2 : w1.cell? ⟨w.heap.size + 1, 0, none⟩ = some (.slice B rs.length d) := blk_cell HF1.out.b1 0
  clear hO hb hci HF0
  go_wp2_with fail
  have HFd := Aside0.mk (HF1.out.step (below_drew (Below.refl _ _)))
  have HOd := Aside0.mk (HO1.out.below (below_drew (Below.refl _ _)))
  have hd0 : (0 : Int) ≤ (lim : Int) := by omega
  have hd1 : (lim : Int) ≤ 65536 := by omega
  go_region_held3 (fun w' => w'.cell? ⟨w.heap.size, 0, none⟩ = some (.slice A ps.length c) ∧ w'.cell? ⟨w.heap.size, 1, none⟩ = some (.slice A2 n2 c2) ∧ w'.cell? ⟨w.heap.size + 1, 0, none⟩ = some (.slice B rs.length d))
    (first
      | go_keep
      | (refine ⟨?_, ?_, ?_⟩ <;> (apply Lib.cell?_alloc_some; assumption))
      | exact ⟨pw_cell_below hb4 (pw_cell_below hb3 (pw_cell_below hb2 x0)), pw_cell_below hb4 (pw_cell_below hb3 (pw_cell_below hb2 x1)), pw_cell_below hb4 (pw_cell_below hb3 (pw_cell_below hb2 x2))⟩
      | exact ⟨pw_cell_below hb3 (pw_cell_below hb2 x0), pw_cell_below hb3 (pw_cell_below hb2 x1), pw_cell_below hb3 (pw_cell_below hb2 x2)⟩
      | exact ⟨pw_cell_below hb2 x0, pw_cell_below hb2 x1, pw_cell_below hb2 x2⟩)
    ((first
      | (go_at_call 34; refine (rulesG_calls w1.drew A c ps A2 n2 c2 B d rs Ai cI (Kd.C_below H.out HFd.out.below) (Kd.C_below H2.out HFd.out.below) (Kd.R_reads' HOd.out).2.2 HS.out).mono ?_; rintro e w2 ⟨v2, rfl, hR2, hb2⟩; obtain ⟨Ar, cR, rfl, -, -⟩ := Kd.R_reads hR2)
      | (go_at_call 35; refine (NewT_calls w2 lim hd0 hd1).mono ?_; rintro e w3 ⟨rfl, ⟨u, hT3, hm3, hb3⟩⟩)
      | (go_at_call 36; refine (NewB_calls w3).mono ?_; rintro e w4 ⟨rfl, hB4, hb4⟩)))
  go_wp2_with fail
  go_ret
  obtain ⟨A0, c0, e0, -, -⟩ := Kd.R_reads HOd.out
  have s1 := HF1.out.below.size
  have sd : w1.drew.heap.size = w1.heap.size := rfl
  have s2 := hb2.size
  have s3 := hb3.size
  have s4 := hb4.size
  have hba := below_alloc (Below.refl w4.heap.size w4) (.cells #[.slice A ps.length c, .slice A2 n2 c2, .slice B rs.length d, .slice Ai (clo ps rs).length cI, .slice Ar (rulesOf ps rs).length cR, .pointer (some ⟨w2.heap.size + 1, 0, none⟩), .pointer (some ⟨w3.heap.size, 0, none⟩)] 91)
  have hb24 := below_step hb3 hb4
  refine ⟨_, rfl, below_step (below_step (below_step HFd.out.below hb2) hb24) hba, by omega, w2.heap.size + 1, w3.heap.size, Ai, cI, Ar, cR, blk_new _ _, ?_, ?_, ?_, ?_⟩
  · refine Tab.below (w := w3) ⟨w2.heap.size, none, 0, .map [], u, hT3, by omega, by omega, mapT_empty hm3, numD_nil, OwnA.nil _ _, hlim, Nat.zero_le _⟩ (below_step hb4 hba)
  · exact (hB4 _ (by omega)).below hba
  · exact ((HOd.out.below hb2).below hb24).below hba
  · exact (OwnRl.below (OwnRl.below (Kd.R_lower hR2 (by omega)) hb24) hba)

end Go.Proofs.YtbahanlnkikpeaaGreat
