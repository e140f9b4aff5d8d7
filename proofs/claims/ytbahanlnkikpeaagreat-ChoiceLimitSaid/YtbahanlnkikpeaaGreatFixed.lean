import Derived.Test.YtbahanlnkikpeaaGreatChoW
import Derived.Test.YtbahanlnkikpeaaGreatRef12b
namespace Go.Proofs.YtbahanlnkikpeaaGreat
open Go.RowKit Go.Proofs.YtbahanlnkikpeaaGreatW.PrintWords Go.Proofs.YtbahanlnkikpeaaGreatW.PrintLast
set_option linter.unusedVariables false
set_option linter.unusedSimpArgs false
open Go.RowKit Go.Maps
set_option maxRecDepth 100000
set_option maxHeartbeats 4000000
theorem reads_blk {α : Type} {d : Kd α} {w : World} {b t : Nat} {xs : List α} {css : List Value} (hb : w.heap[b]? = some (.cells css.toArray t (0, 0))) (hR : Reps (d.K w) d.sz xs css) (hl : xs.length ≤ 100) : d.C w (some ⟨b, 0, none⟩) xs.length xs := by
  have h : w.ownsRow 0 t d.sz (.slice (some ⟨b, 0, none⟩) xs.length xs.length) xs.length css :=
    ⟨hR.1, .inr ⟨b, xs.length, css.toArray, rfl, Nat.zero_le _, hb, Nat.le_refl _, by simp only [maxLen]; omega, by simpa using hR.1, by rw [← hR.1]; simp⟩⟩
  obtain ⟨A, c, e, hr⟩ := own_reads_row h hR rfl
  injection e with e1 e2 e3
  subst e1
  exact hr
def sA : ByteArray := ⟨#[97]⟩
def fixP : DPackage := ⟨sA, 0, [⟨⟨#[49]⟩, false⟩, ⟨⟨#[50]⟩, false⟩], [], [], [], [], []⟩
def fixR : DRoot := ⟨⟨sA, [⟨⟨#[]⟩, ⟨#[]⟩⟩], []⟩, 0⟩
theorem fix_target : targets [fixP] sA = [0] := by
  have h : findI [fixP] sA = 0 := findI_yes (k := 0) (by simp) (by simp [fixP]) (fun j hj h0 => by omega)
  unfold targets
  rw [h, if_pos (by decide)]
theorem C_nil {α : Type} (d : Kd α) (w : World) (A : Option Addr) : d.C w A 0 [] := ⟨rfl, by simp, fun h => absurd h (by simp)⟩
theorem five (w : World) (a b c d e : Obj) : ((((((w.alloc a).alloc b).alloc c).alloc d).alloc e).heap[w.heap.size]? = some a ∧ (((((w.alloc a).alloc b).alloc c).alloc d).alloc e).heap[w.heap.size + 1]? = some b ∧
    (((((w.alloc a).alloc b).alloc c).alloc d).alloc e).heap[w.heap.size + 1 + 1]? = some c ∧ (((((w.alloc a).alloc b).alloc c).alloc d).alloc e).heap[w.heap.size + 1 + 1 + 1]? = some d ∧ (((((w.alloc a).alloc b).alloc c).alloc d).alloc e).heap[w.heap.size + 1 + 1 + 1 + 1]? = some e) ∧ Below w.heap.size w (((((w.alloc a).alloc b).alloc c).alloc d).alloc e) := by
  refine ⟨⟨blk_alloc (blk_alloc (blk_alloc (blk_alloc (blk_new _ _) _) _) _) _, blk_alloc (blk_alloc (blk_alloc (blk_new1 _ _ _) _) _) _, blk_alloc (blk_alloc (blk_new2 _ _ _ _) _) _, ?_, ?_⟩, below_alloc (below_alloc (below_alloc (below_alloc (below_alloc (Below.refl _ _) _) _) _) _) _⟩
  · have := blk_new (((w.alloc a).alloc b).alloc c) d
    simp only [World.size_alloc] at this
    exact blk_alloc this _
  · have := blk_new ((((w.alloc a).alloc b).alloc c).alloc d) e
    simp only [World.size_alloc] at this
    exact this
theorem fix_clo : cloN [fixP] [fixR] = [0] := by
  have h : Rch [fixP] [fixR] 0 := .root fixR 0 (by simp) (by show (0 : Int) ∈ targets [fixP] sA; rw [fix_target]; simp)
  unfold cloN
  simp [h]
theorem fix_small : Small [fixP] [fixR] := ⟨by simp, by
  intro p hp
  rw [List.mem_singleton] at hp
  subst hp
  exact ⟨by simp [fixP], by simp [fixP], by simp [fixP], by simp [fixP], by simp [fixP]⟩, by simp⟩
theorem fix_choices : (GS.choices 100 [fixP] GS.start [0]).b.l = [[-1, 2, 3], [-2, -3], [1, -2], [1, -3]] := by decide
def fixArgs (n : Nat) : Args := ⟨some ⟨n + 1, 0, none⟩, 1, [fixP], none, 0, 0, some ⟨n + 1 + 1 + 1 + 1, 0, none⟩, 1, [fixR], 100⟩
theorem fixed_calls (w : World) : Calls Tryz.prog 8 #[] w (fun e w' => e = .returned (.bool true) ∧ Below w.heap.size w w') := by
  go_enter Tryz.func8, Tryz.ntmps8
  go_wp2_with fail
  obtain ⟨⟨h0, h1, h2, h3, h4⟩, hb⟩ := five w (.cells #[.string ⟨#[49]⟩, .bool false, .string ⟨#[50]⟩, .bool false] 84) (.cells #[.string ⟨#[97]⟩, .int .i64 0, .slice (some ⟨w.heap.size, 0, none⟩) 2 2, .slice none 0 0, .slice none 0 0, .slice none 0 0, .slice none 0 0, .slice none 0 0] 43)
    (.cells #[.slice (some ⟨w.heap.size + 1, 0, none⟩) 1 1, .slice none 0 0] 25) (.cells #[.string ⟨#[]⟩, .string ⟨#[]⟩] 86) (.cells #[.string ⟨#[97]⟩, .slice (some ⟨w.heap.size + 1 + 1 + 1, 0, none⟩) 1 1, .slice none 0 0, .int .i64 0] 51)
  generalize ((((w.alloc (.cells #[.string ⟨#[49]⟩, .bool false, .string ⟨#[50]⟩, .bool false] 84)).alloc (.cells #[.string ⟨#[97]⟩, .int .i64 0, .slice (some ⟨w.heap.size, 0, none⟩) 2 2, .slice none 0 0, .slice none 0 0, .slice none 0 0, .slice none 0 0, .slice none 0 0] 43)).alloc
    (.cells #[.slice (some ⟨w.heap.size + 1, 0, none⟩) 1 1, .slice none 0 0] 25)).alloc (.cells #[.string ⟨#[]⟩, .string ⟨#[]⟩] 86)).alloc (.cells #[.string ⟨#[97]⟩, .slice (some ⟨w.heap.size + 1 + 1 + 1, 0, none⟩) 1 1, .slice none 0 0, .int .i64 0] 51) = w5 at *
  have hRel : Kd.C kRelease w5 (some ⟨w.heap.size, 0, none⟩) 2 fixP.releases := reads_blk (xs := fixP.releases) h0 (((Reps.none (kRelease.K w5) 2).snoc (kRelease_mk w5 ⟨⟨#[49]⟩, false⟩) rfl).snoc (kRelease_mk w5 ⟨⟨#[50]⟩, false⟩) rfl) (by decide)
  have hPk : Kd.C kPackage w5 (some ⟨w.heap.size + 1, 0, none⟩) 1 [fixP] := reads_blk (xs := [fixP]) h1 ((Reps.none (kPackage.K w5) 8).snoc (kPackage_mk w5 fixP (by decide) hRel (Nat.le_refl _) (C_nil _ _ none) (Nat.le_refl _) (C_nil _ _ none) (Nat.le_refl _) (C_nil _ _ none) (Nat.le_refl _) (C_nil _ _ none) (Nat.le_refl _) (C_nil _ _ none)) rfl) (by decide)
  have hSp : Kd.C kSpan w5 (some ⟨w.heap.size + 1 + 1 + 1, 0, none⟩) 1 fixR.spec.spans := reads_blk (xs := fixR.spec.spans) h3 ((Reps.none (kSpan.K w5) 2).snoc (kSpan_mk w5 ⟨⟨#[]⟩, ⟨#[]⟩⟩) rfl) (by decide)
  have hRt : Kd.C kRoot w5 (some ⟨w.heap.size + 1 + 1 + 1 + 1, 0, none⟩) 1 [fixR] := reads_blk (xs := [fixR]) h4 ((Reps.none (kRoot.K w5) 4).snoc (kRoot_mk w5 fixR (Nat.le_refl _) hSp (Nat.le_refl _) (C_nil _ _ none)) rfl) (by decide)
  have HB := Aside0.mk hb
  have HPk := Aside0.mk hPk
  have HRt := Aside0.mk hRt
  clear h0 h1 h2 h3 h4 hb hRel hPk hSp hRt
  have HN := Aside0.mk (NewG_calls w5 (fixArgs w.heap.size) (show (100 : Nat) ≤ 65536 by decide) HPk.out HRt.out fix_small)
  refine HN.out.mono ?_
  rintro e w6 ⟨g, rfl, hG⟩
  have HG := Aside0.mk hG
  clear hG HN
  go_wp2_with fail
  refine (Choices_calls w5 w6 g (fixArgs w.heap.size) GS.start HG.out HPk.out fix_small (show (100 : Nat) ≤ 65536 by decide)).mono ?_
  rintro e w7 ⟨rfl, hG⟩
  obtain ⟨h1, h2, tg, bg, Ai, cI, Ar, cR, hG7, hT, hB, hI, hR⟩ := hG
  have hcl : (GS.start.choices (fixArgs w.heap.size).lim (fixArgs w.heap.size).ps (cloN (fixArgs w.heap.size).ps (fixArgs w.heap.size).rs)).b.l = [[-1, 2, 3], [-2, -3], [1, -2], [1, -3]] := by
    show (GS.start.choices 100 [fixP] (cloN [fixP] [fixR])).b.l = _
    rw [fix_clo]
    exact fix_choices
  have HG7 := Aside0.mk hG7
  have HB7 := Aside0.mk hB
  have HE7 := Aside0.mk (HB.out.trans (h1.mono HB.out.size))
  clear h1 h2 hG7 hT hB hI hR HG HB
  go_wp2_with fail
  refine (BuilderG_same w7 g HG7.out).mono ?_
  rintro e w8 ⟨rfl, rfl⟩
  go_wp2_with fail
  refine (Clauses_calls w8 _ bg _ HB7.out (by rw [hcl]; decide)).mono ?_
  rintro e w9 ⟨v, rfl, hO, hb⟩
  rw [hcl] at hO
  obtain ⟨Av, cv, rfl, -, hC⟩ := Kd.R_reads hO
  have HE9 := Aside0.mk (below_step HE7.out hb)
  have HC9 := Aside0.mk hC
  clear hC hO hb HG7 HB7 HE7
  obtain ⟨⟨h0, h1, h2, h3, h4⟩, hb⟩ := five w9 (.cells #[.int .i64 (-1), .int .i64 2, .int .i64 3] 3) (.cells #[.int .i64 (-2), .int .i64 (-3)] 3) (.cells #[.int .i64 1, .int .i64 (-2)] 3) (.cells #[.int .i64 1, .int .i64 (-3)] 3)
    (.cells #[.slice (some ⟨w9.heap.size, 0, none⟩) 3 3, .slice (some ⟨w9.heap.size + 1, 0, none⟩) 2 2, .slice (some ⟨w9.heap.size + 1 + 1, 0, none⟩) 2 2, .slice (some ⟨w9.heap.size + 1 + 1 + 1, 0, none⟩) 2 2] 35)
  go_wp2_with fail
  generalize ((((w9.alloc (.cells #[.int .i64 (-1), .int .i64 2, .int .i64 3] 3)).alloc (.cells #[.int .i64 (-2), .int .i64 (-3)] 3)).alloc (.cells #[.int .i64 1, .int .i64 (-2)] 3)).alloc (.cells #[.int .i64 1, .int .i64 (-3)] 3)).alloc
    (.cells #[.slice (some ⟨w9.heap.size, 0, none⟩) 3 3, .slice (some ⟨w9.heap.size + 1, 0, none⟩) 2 2, .slice (some ⟨w9.heap.size + 1 + 1, 0, none⟩) 2 2, .slice (some ⟨w9.heap.size + 1 + 1 + 1, 0, none⟩) 2 2] 35) = w10 at *
  have i0 : Kd.C (Kd.int .i64) w10 (some ⟨w9.heap.size, 0, none⟩) 3 [-1, 2, 3] := reads_blk (xs := [-1, 2, 3]) h0 ((((Reps.none ((Kd.int .i64).K w10) 1).snoc (p := -1) (c := [.int .i64 (-1)]) rfl rfl).snoc (p := 2) (c := [.int .i64 2]) rfl rfl).snoc (p := 3) (c := [.int .i64 3]) rfl rfl) (by decide)
  have i1 : Kd.C (Kd.int .i64) w10 (some ⟨w9.heap.size + 1, 0, none⟩) 2 [-2, -3] := reads_blk (xs := [-2, -3]) h1 (((Reps.none ((Kd.int .i64).K w10) 1).snoc (p := -2) (c := [.int .i64 (-2)]) rfl rfl).snoc (p := -3) (c := [.int .i64 (-3)]) rfl rfl) (by decide)
  have i2 : Kd.C (Kd.int .i64) w10 (some ⟨w9.heap.size + 1 + 1, 0, none⟩) 2 [1, -2] := reads_blk (xs := [1, -2]) h2 (((Reps.none ((Kd.int .i64).K w10) 1).snoc (p := 1) (c := [.int .i64 1]) rfl rfl).snoc (p := -2) (c := [.int .i64 (-2)]) rfl rfl) (by decide)
  have i3 : Kd.C (Kd.int .i64) w10 (some ⟨w9.heap.size + 1 + 1 + 1, 0, none⟩) 2 [1, -3] := reads_blk (xs := [1, -3]) h3 (((Reps.none ((Kd.int .i64).K w10) 1).snoc (p := 1) (c := [.int .i64 1]) rfl rfl).snoc (p := -3) (c := [.int .i64 (-3)]) rfl rfl) (by decide)
  have i4 : Kd.C kRows w10 (some ⟨w9.heap.size + 1 + 1 + 1 + 1, 0, none⟩) 4 [[-1, 2, 3], [-2, -3], [1, -2], [1, -3]] := reads_blk (xs := [[-1, 2, 3], [-2, -3], [1, -2], [1, -3]]) h4
    (((((Reps.none (kRows.K w10) 1).snoc (p := [-1, 2, 3]) (c := [.slice (some ⟨w9.heap.size, 0, none⟩) 3 3]) ⟨_, 3, rfl, Nat.le_refl _, i0⟩ rfl).snoc (p := [-2, -3]) (c := [.slice (some ⟨w9.heap.size + 1, 0, none⟩) 2 2]) ⟨_, 2, rfl, Nat.le_refl _, i1⟩ rfl).snoc (p := [1, -2]) (c := [.slice (some ⟨w9.heap.size + 1 + 1, 0, none⟩) 2 2]) ⟨_, 2, rfl, Nat.le_refl _, i2⟩ rfl).snoc (p := [1, -3]) (c := [.slice (some ⟨w9.heap.size + 1 + 1 + 1, 0, none⟩) 2 2]) ⟨_, 2, rfl, Nat.le_refl _, i3⟩ rfl) (by decide)
  have HS := Aside0.mk (SameAll12_calls w10 Av cv [[-1, 2, 3], [-2, -3], [1, -2], [1, -3]] (some ⟨w9.heap.size + 1 + 1 + 1 + 1, 0, none⟩) 4 [[-1, 2, 3], [-2, -3], [1, -2], [1, -3]] (Kd.C_below HC9.out hb) i4)
  have HE10 := Aside0.mk (below_step HE9.out hb)
  clear h0 h1 h2 h3 h4 i0 i1 i2 i3 i4 hb HC9 HE9
  refine HS.out.mono ?_
  rintro e w11 ⟨rfl, hb⟩
  have HE11 := Aside0.mk (below_step HE10.out hb)
  clear hb
  go_wp2_with fail
  go_ret
  exact ⟨ret_bool (by simp), HE11.out⟩

end Go.Proofs.YtbahanlnkikpeaaGreat
