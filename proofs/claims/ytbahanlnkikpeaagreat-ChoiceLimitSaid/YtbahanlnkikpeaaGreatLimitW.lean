import Derived.Test.YtbahanlnkikpeaaGreatHoldsW
namespace Go.Proofs.YtbahanlnkikpeaaGreat
open Go.RowKit Go.Proofs.YtbahanlnkikpeaaGreatW.PrintWords Go.Proofs.YtbahanlnkikpeaaGreatW.PrintLast
set_option linter.unusedVariables false
set_option linter.unusedSimpArgs false
open Go.RowKit Go.Maps
set_option maxRecDepth 100000
set_option maxHeartbeats 1000000
/-! The law ChoiceLimit, walked. -/
theorem limit_calls (w : World) (A : Option Addr) (c : Nat) (ps : List DPackage) (A2 : Option Addr) (c2 : Nat) (fs : List DPrefer) (B : Option Addr) (d : Nat) (rs : List DRoot) (h : Kd.C kPackage w A ps.length ps) (h2 : Kd.C kPrefer w A2 fs.length fs) (hr : Kd.C kRoot w B rs.length rs)
    (By : Option Addr) (bc : Nat) (by_ : List Int) (hb : Kd.C (Kd.int .u8) w By by_.length by_) (hby : Bytes by_) (li : Int) (ht0 : 0 ≤ li) (ht1 : li ≤ 255) :
   Calls Tryz.prog 5 #[.agg #[.slice A ps.length c, .slice A2 fs.length c2], .agg #[.slice B rs.length d], .slice By by_.length bc, .int .u8 li] w (fun e w' => e = .returned (.bool true) ∧ Below w.heap.size w w') := by
  obtain ⟨L, rfl⟩ := Int.eq_ofNat_of_zero_le ht0
  have hL : L ≤ 255 := by omega
  have H := Aside0.mk h
  have H2 := Aside0.mk h2
  have H3 := Aside0.mk hr
  have H4 := Aside0.mk hb
  have H5 := Aside0.mk hby
  have HF := Aside0.mk (Fr2.mk0 w 25 #[.slice A ps.length c, .slice A2 fs.length c2] 28 #[.slice B rs.length d])
  clear h h2 hr hb hby ht0 ht1
  go_enter Tryz.func5, Tryz.ntmps5
  go_wp2_with fail
  refine (Great_any _ A c ps A2 c2 fs B d rs (Kd.C_below H.out HF.out.below) (Kd.C_below H2.out HF.out.below) (Kd.C_below H3.out HF.out.below)).mono ?_
  rintro e w1 ⟨b, hbs, rfl, hb⟩
  have HF1 := Aside0.mk (HF.out.step hb)
  clear hb HF
  obtain ⟨x0, x1⟩ := cells2 HF1.out.b0
  have x2 := cells1 HF1.out.b1
  cases b with
  | true =>
    clear hbs
    go_wp2_with fail
    refine (fixed_calls _).mono ?_
    rintro e w2 ⟨rfl, hb⟩
    have HF2 := Aside0.mk (HF1.out.step hb)
    clear hb
    go_wp2_with fail
    go_ret
    exact ⟨rfl, HF2.out.below⟩
  | false =>
    have hsm := hbs rfl
    have HSm := Aside0.mk hsm
    clear hsm hbs
    obtain ⟨a1, ha1⟩ : ∃ a, a = (⟨A, c, ps, A2, fs.length, c2, B, d, rs, 5000⟩ : Args) := ⟨_, rfl⟩
    obtain ⟨a, ha⟩ : ∃ a, a = (⟨A, c, ps, A2, fs.length, c2, B, d, rs, L⟩ : Args) := ⟨_, rfl⟩
    have HN1 : Aside0 (Calls Tryz.prog 9 #[.agg #[.slice A ps.length c, .slice A2 fs.length c2], .agg #[.slice B rs.length d], .int .i64 5000] w1 (fun e w' => ∃ g, e = .returned (.pointer (some ⟨g, 0, none⟩)) ∧ Gnd w1 g a1 GS.start w')) := ⟨by
      have := NewG_calls w1 ⟨A, c, ps, A2, fs.length, c2, B, d, rs, 5000⟩ (show (5000 : Nat) ≤ 65536 by decide) (Kd.C_below H.out HF1.out.below) (Kd.C_below H3.out HF1.out.below) HSm.out
      rw [ha1]
      exact this⟩
    have HN : Aside0 (∀ W : World, Below w1.heap.size w1 W → Calls Tryz.prog 9 #[.agg #[.slice A ps.length c, .slice A2 fs.length c2], .agg #[.slice B rs.length d], .int .i64 (L : Int)] W (fun e w' => ∃ g, e = .returned (.pointer (some ⟨g, 0, none⟩)) ∧ Gnd W g a GS.start w')) := ⟨fun W hW => by
      have := NewG_calls W ⟨A, c, ps, A2, fs.length, c2, B, d, rs, L⟩ (show L ≤ 65536 by omega) (Kd.C_below H.out (below_step HF1.out.below hW)) (Kd.C_below H3.out (below_step HF1.out.below hW)) HSm.out
      rw [ha]
      exact this⟩
    have HLim1 : Aside0 (a1.lim = 5000) := ⟨by rw [ha1]⟩
    have HLim : Aside0 (a.lim = L) := ⟨by rw [ha]⟩
    have HPk1 : Aside0 (Kd.C kPackage w1 a1.A a1.ps.length a1.ps) := ⟨by rw [ha1]; exact Kd.C_below H.out HF1.out.below⟩
    have HPk : Aside0 (Kd.C kPackage w1 a.A a.ps.length a.ps) := ⟨by rw [ha]; exact Kd.C_below H.out HF1.out.below⟩
    have HRt : Aside0 (Kd.C kRoot w1 a.B a.rs.length a.rs) := ⟨by rw [ha]; exact Kd.C_below H3.out HF1.out.below⟩
    have HSa1 : Aside0 (Small a1.ps a1.rs) := ⟨by rw [ha1]; exact HSm.out⟩
    have HSa : Aside0 (Small a.ps a.rs) := ⟨by rw [ha]; exact HSm.out⟩
    have HSame : Aside0 (a1.ps = a.ps ∧ a1.rs = a.rs) := ⟨by rw [ha1, ha]; exact ⟨rfl, rfl⟩⟩
    have HOf : Aside0 (∀ W : World, Below w1.heap.size w1 W → Calls Tryz.prog 14 #[.agg #[.slice A ps.length c, .slice A2 fs.length c2], .agg #[.slice B rs.length d], .slice By by_.length bc] W (RetG W a)) := ⟨fun W hW => by
      have := Of_calls W a (Kd.C_below HPk.out hW) (Kd.C_below HRt.out hW) HSa.out By bc by_ (Kd.C_below H4.out (below_step HF1.out.below hW)) H5.out
      rw [ha] at this ⊢
      exact this⟩
    clear ha ha1 HSm
    go_wp2_with fail
    refine HN1.out.mono ?_
    rintro e w2 ⟨g1, rfl, hG⟩
    have HG := Aside0.mk hG
    clear hG HN1
    go_wp2_with fail
    refine (Choices_calls w1 w2 g1 a1 GS.start HG.out HPk1.out HSa1.out (by rw [HLim1.out]; decide)).mono ?_
    rintro e w3 ⟨rfl, hG⟩
    have HG3 := Aside0.mk hG
    have HF3 := Aside0.mk (HF1.out.step hG.1)
    have HN3 := Aside0.mk (HN.out w3 hG.1)
    clear hG HG x0 x1 x2 HPk1 HN
    obtain ⟨x0, x1⟩ := cells2 HF3.out.b0
    have x2 := cells1 HF3.out.b1
    obtain ⟨hf1, htl1, htn1⟩ := part_full (lim := a1.lim) HSa1.out
    obtain ⟨hf2, htl2, htn2⟩ := part_full (lim := a.lim) HSa.out
    rw [HSame.out.1, HSame.out.2] at hf1 htl1 htn1
    rw [HLim1.out] at htl1
    rw [HLim.out] at htl2 hf2
    have HLen1 : Aside0 ((GS.start.choices a1.lim a1.ps (cloN a1.ps a1.rs)).t.l.length = ((cloN a.ps a.rs).flatMap (pkgAtoms a.ps)).length) := ⟨by rw [HSame.out.1, HSame.out.2, HLim1.out, htl1, List.take_of_length_le (by omega)]⟩
    have HFull : Aside0 ((GS.start.choices a.lim a.ps (cloN a.ps a.rs)).t.full = decide (L < ((cloN a.ps a.rs).flatMap (pkgAtoms a.ps)).length)) := ⟨by rw [HLim.out]; exact hf2⟩
    have hle : (GS.start.choices a.lim a.ps (cloN a.ps a.rs)).t.l.length ≤ L := by rw [HLim.out, htl2, List.length_take]; omega
    have HPart := Aside0.mk (part_short (lim := a.lim) HSa.out (by rw [HLim.out]; omega))
    have HFirst := Aside0.mk (choices_first (lim := a.lim) HSa.out)
    have HHold : Aside0 (∀ cs, ChOK a.ps cs → holds12 ((GS.start.choices a.lim a.ps (cloN a.ps a.rs)).t.l.map (soC cs)) (GS.start.choices a.lim a.ps (cloN a.ps a.rs)).b.l = true) := ⟨fun cs hc => part_holds HSa.out hc⟩
    clear hf1 htl1 hf2 htl2 htn2
    generalize ((cloN a.ps a.rs).flatMap (pkgAtoms a.ps)).length = N at *
    generalize GS.start.choices a1.lim a1.ps (cloN a1.ps a1.rs) = gs1 at *
    go_wp2_with fail
    refine HN3.out.mono ?_
    rintro e w4 ⟨g, rfl, hG⟩
    have HG4 := Aside0.mk hG
    clear hG HN3
    go_wp2_with fail
    refine (Choices_calls w3 w4 g a GS.start HG4.out (Kd.C_below HPk.out HG3.out.1) HSa.out (by rw [HLim.out]; omega)).mono ?_
    rintro e w5 ⟨rfl, hG⟩
    have HG5 := Aside0.mk hG
    have HF5 := Aside0.mk (HF3.out.step hG.1)
    have HG1 := Aside0.mk (HG3.out.below hG.1)
    have HPk5 := Aside0.mk (Kd.C_below (Kd.C_below HPk.out HG3.out.1) hG.1)
    have HRt5 := Aside0.mk (Kd.C_below (Kd.C_below HRt.out HG3.out.1) hG.1)
    have HOf5 := Aside0.mk (HOf.out w5 (below_step HG3.out.1 hG.1))
    clear hG HG4 HG3 HF3 x0 x1 x2 HPk HRt HOf
    obtain ⟨x0, x1⟩ := cells2 HF5.out.b0
    have x2 := cells1 HF5.out.b1
    generalize GS.start.choices a.lim a.ps (cloN a.ps a.rs) = gs at *
    go_wp2_with fail
    refine HOf5.out.mono ?_
    rintro e w6 ⟨Ac, cc, cs, rfl, hC, hlen, hall, hb⟩
    have HOK := Aside0.mk (hall.ok hlen)
    have HG6 := Aside0.mk (HG5.out.below hb)
    have HG16 := Aside0.mk (HG1.out.below hb)
    have HF6 := Aside0.mk (HF5.out.step hb)
    have HGK : Aside0 (GOK w6 a Ac cs none []) := ⟨⟨Kd.C_below HPk5.out hb, Kd.C_below HRt5.out hb, hC, Kd.C_nil _ _, HOK.out, HSa.out⟩⟩
    clear hC hlen hall hb HG5 HF5 HOf5 HG1
    have HMo := Aside0.mk (Model_calls w3 w6 g a gs HG6.out Ac cc cs none 0 [] HGK.out (fun x b => b = soC cs x) (by rw [HLim.out]; omega) (soLaw_first HGK.out HFirst.out))
    clear HGK HFirst
    unfold gcells at HMo ⊢
    go_wp2_with fail
    refine HMo.out.mono ?_
    rintro e w7 ⟨v, ms, rfl, hO, hM, hb⟩
    have HH := Aside0.mk (HHold.out cs HOK.out)
    rw [← hM.map] at HH
    obtain ⟨Am, cm, rfl, -, -⟩ := Kd.R_reads hO
    have HG7 := Aside0.mk (HG6.out.below hb)
    have HG17 := Aside0.mk (HG16.out.below hb)
    have HF7 := Aside0.mk (HF6.out.step hb)
    have HC7 := Aside0.mk (Kd.R_reads' hO).2.2
    clear hO hM hb HG6 HG16 HF6 HMo HHold HOK
    go_wp2_with fail
    refine (Table_of_gnd HG17.out).mono ?_
    rintro e w8 ⟨tg1, rfl, rfl, hT1⟩
    go_wp2_with fail
    refine (Len_of_gnd hT1).mono ?_
    rintro e w9 ⟨rfl, rfl⟩
    clear hT1 HG17
    rw [HLen1.out]
    go_wp2_with fail
    refine (fixed_calls _).mono ?_
    rintro e w10 ⟨rfl, hb⟩
    have HG10 := Aside0.mk (HG7.out.below hb)
    have HF10 := Aside0.mk (HF7.out.step hb)
    have HC10 := Aside0.mk (Kd.C_below HC7.out hb)
    clear hb HG7 HF7 HC7
    go_wp2_with fail
    refine (Table_of_gnd HG10.out).mono ?_
    rintro e w11 ⟨tg, rfl, rfl, hTb⟩
    have HTb := Aside0.mk hTb
    clear hTb
    go_wp2_with fail
    refine (Full_of_gnd HTb.out).mono ?_
    rintro e w12 ⟨rfl, rfl⟩
    rw [HFull.out]
    clear HFull HLen1
    go_wp2_with fail
    refine (Table_of_gnd HG10.out).mono ?_
    rintro e w13 ⟨tg', rfl, rfl, hTb'⟩
    go_wp2_with fail
    refine (Len_of_gnd hTb').mono ?_
    rintro e w14 ⟨rfl, rfl⟩
    have hdl : decide (gs.t.l.length ≤ L) = true := decide_eq_true hle
    clear hTb' HTb
    go_wp2_with fail
    refine (Builder_of_gnd HG10.out).mono ?_
    rintro e w15 ⟨bg, rfl, rfl, hB⟩
    go_wp2_with fail
    refine (Bad_same _ _ _ _ hB).mono ?_
    rintro e w16 ⟨rfl, rfl⟩
    clear hB
    go_wp2_with fail
    refine (Builder_of_gnd HG10.out).mono ?_
    rintro e w17 ⟨bg2, rfl, rfl, hB⟩
    have HB := Aside0.mk hB
    clear hB
    go_wp2_with fail
    refine (Clauses_calls _ _ bg2 _ HB.out HPart.out.1).mono ?_
    rintro e w18 ⟨v7, rfl, hO7, hb7⟩
    obtain ⟨A7, c7, rfl, -, hC7⟩ := Kd.R_reads hO7
    have HHs := Aside0.mk (Holds12_same w18 A7 c7 gs.b.l hC7 HPart.out.2 Am cm ms (Kd.C_below HC10.out hb7))
    have HF18 := Aside0.mk (HF10.out.step hb7)
    rw [HH.out] at HHs
    clear hO7 hC7 hb7 HB
    go_wp2_with fail
    refine HHs.out.mono ?_
    rintro e w19 ⟨rfl, rfl⟩
    go_wp2_with fail
    go_ret
    exact ⟨rfl, HF18.out.below⟩

end Go.Proofs.YtbahanlnkikpeaaGreat
