import Derived.Deep.RegionHeld3
import Derived.Test.YtbahanlnkikpeaaGreatChM
import Derived.Test.YtbahanlnkikpeaaGreatGndOf
namespace Go.Proofs.YtbahanlnkikpeaaGreat
open Go.RowKit Go.Proofs.YtbahanlnkikpeaaGreatW.PrintWords Go.Proofs.YtbahanlnkikpeaaGreatW.PrintLast
set_option linter.unusedVariables false
set_option linter.unusedSimpArgs false
open Go.RowKit Go.Maps
set_option maxRecDepth 100000
set_option maxHeartbeats 1000000
/-! The law ChoiceHolds, walked. -/
theorem C_bools_set {w : World} {B g n c : Nat} {ms : List Bool} (h : OwnB w B (.slice (some ⟨g, 0, none⟩) n c) ms) (k : Nat) (b : Bool) : OwnB (w.setCell ⟨g, k, none⟩ (.bool b)) B (.slice (some ⟨g, 0, none⟩) n c) (ms.set k b) := by
  obtain ⟨h1, -⟩ := Kd.R_putg (enc := Value.bool) (h1 := fun _ => rfl) h k b
  exact h1
theorem soLaw_first {w : World} {a : Args} {Ac : Option Addr} {cc : Nat} {cs : List DCh} {Ao : Option Addr} {co : Nat} {off : List Bool} (h : GOK w a Ac cs Ao off) {l : List DAtom} (hl : ∀ x ∈ l, FirstA a.ps.length x) : SoLaw w a (gcells a Ac cc cs Ao co off) (fun x b => b = soC cs x) l := by
  intro W hb x hx Ar cr
  refine (So_calls W a Ac cc cs Ao co off (h.below hb) x (hl x hx) Ar cr).mono ?_
  rintro e w' ⟨rfl, hb'⟩
  exact ⟨_, rfl, rfl, hb'⟩
theorem Full_of_gnd {w0 w : World} {tg : Nat} {lim : Nat} {t : TS} (h : Tab w w0.heap.size tg lim t) : Calls Tryz.prog 19 #[.pointer (some ⟨tg, 0, none⟩)] w (fun e w' => e = .returned (.bool t.full) ∧ w' = w) := by
  obtain ⟨m, A, c, D, u, hT, -⟩ := h
  exact FullG_same w tg m hT
theorem Len_of_gnd {w0 w : World} {tg : Nat} {lim : Nat} {t : TS} (h : Tab w w0.heap.size tg lim t) : Calls Tryz.prog 21 #[.pointer (some ⟨tg, 0, none⟩)] w (fun e w' => e = .returned (.int .i64 (t.l.length : Int)) ∧ w' = w) := by
  obtain ⟨m, A, c, D, u, hT, -⟩ := h
  exact LenG_same w tg m hT
theorem holds_calls (w : World) (A : Option Addr) (c : Nat) (ps : List DPackage) (A2 : Option Addr) (c2 : Nat) (fs : List DPrefer) (B : Option Addr) (d : Nat) (rs : List DRoot) (h : Kd.C kPackage w A ps.length ps) (h2 : Kd.C kPrefer w A2 fs.length fs) (hr : Kd.C kRoot w B rs.length rs)
    (By : Option Addr) (bc : Nat) (by_ : List Int) (hb : Kd.C (Kd.int .u8) w By by_.length by_) (hby : Bytes by_) (tu : Int) (ht0 : 0 ≤ tu) (ht1 : tu ≤ 65535) :
   Calls Tryz.prog 4 #[.agg #[.slice A ps.length c, .slice A2 fs.length c2], .agg #[.slice B rs.length d], .slice By by_.length bc, .int .u16 tu] w (fun e w' => e = .returned (.bool true) ∧ Below w.heap.size w w') := by
  have H := Aside0.mk h
  have H2 := Aside0.mk h2
  have H3 := Aside0.mk hr
  have H4 := Aside0.mk hb
  have H5 := Aside0.mk hby
  have HF := Aside0.mk (Fr2.mk0 w 25 #[.slice A ps.length c, .slice A2 fs.length c2] 28 #[.slice B rs.length d])
  clear h h2 hr hb hby
  go_enter Tryz.func4, Tryz.ntmps4
  go_wp2_with fail
  refine (Great_any _ A c ps A2 c2 fs B d rs (Kd.C_below H.out HF.out.below) (Kd.C_below H2.out HF.out.below) (Kd.C_below H3.out HF.out.below)).mono ?_
  rintro e w1 ⟨b, hbs, rfl, hb⟩
  have HF1 := Aside0.mk (HF.out.step hb)
  clear hb HF
  obtain ⟨x0, x1⟩ := cells2 HF1.out.b0
  have x2 := cells1 HF1.out.b1
  cases b with
  | true =>
    clear hbs
    go_wp2_with fail
    refine (fixed_calls _).mono ?_
    rintro e w2 ⟨rfl, hb⟩
    have HF2 := Aside0.mk (HF1.out.step hb)
    clear hb
    go_wp2_with fail
    go_ret
    exact ⟨rfl, HF2.out.below⟩
  | false =>
    have hsm := hbs rfl
    have HSm := Aside0.mk hsm
    clear hsm hbs
    obtain ⟨a, ha⟩ : ∃ a, a = (⟨A, c, ps, A2, fs.length, c2, B, d, rs, 5000⟩ : Args) := ⟨_, rfl⟩
    have HN : Aside0 (Calls Tryz.prog 9 #[.agg #[.slice A ps.length c, .slice A2 fs.length c2], .agg #[.slice B rs.length d], .int .i64 5000] w1 (fun e w' => ∃ g, e = .returned (.pointer (some ⟨g, 0, none⟩)) ∧ Gnd w1 g a GS.start w')) := ⟨by
      have := NewG_calls w1 ⟨A, c, ps, A2, fs.length, c2, B, d, rs, 5000⟩ (show (5000 : Nat) ≤ 65536 by decide) (Kd.C_below H.out HF1.out.below) (Kd.C_below H3.out HF1.out.below) HSm.out
      rw [ha]
      exact this⟩
    have HLim : Aside0 (a.lim = 5000) := ⟨by rw [ha]⟩
    have HPk : Aside0 (Kd.C kPackage w1 a.A a.ps.length a.ps) := ⟨by rw [ha]; exact Kd.C_below H.out HF1.out.below⟩
    have HRt : Aside0 (Kd.C kRoot w1 a.B a.rs.length a.rs) := ⟨by rw [ha]; exact Kd.C_below H3.out HF1.out.below⟩
    have HSa : Aside0 (Small a.ps a.rs) := ⟨by rw [ha]; exact HSm.out⟩
    have HOf : Aside0 (∀ W : World, Below w1.heap.size w1 W → Calls Tryz.prog 14 #[.agg #[.slice A ps.length c, .slice A2 fs.length c2], .agg #[.slice B rs.length d], .slice By by_.length bc] W (RetG W a)) := ⟨fun W hW => by
      have := Of_calls W a (Kd.C_below HPk.out hW) (Kd.C_below HRt.out hW) HSa.out By bc by_ (Kd.C_below H4.out (below_step HF1.out.below hW)) H5.out
      rw [ha] at this ⊢
      exact this⟩
    clear ha HSm
    go_wp2_with fail
    refine HN.out.mono ?_
    rintro e w2 ⟨g, rfl, hG⟩
    have HG := Aside0.mk hG
    clear hG HN
    go_wp2_with fail
    refine (Choices_calls w1 w2 g a GS.start HG.out HPk.out HSa.out (by rw [HLim.out]; decide)).mono ?_
    rintro e w3 ⟨rfl, hG⟩
    have HG3 := Aside0.mk hG
    have HF3 := Aside0.mk (HF1.out.step hG.1)
    clear hG HG x0 x1 x2
    obtain ⟨x0, x1⟩ := cells2 HF3.out.b0
    have x2 := cells1 HF3.out.b1
    have HPart := Aside0.mk (part_short (lim := a.lim) HSa.out (by rw [HLim.out]; decide))
    have HFirst := Aside0.mk (choices_first (lim := a.lim) HSa.out)
    have HHold : Aside0 (∀ cs, ChOK a.ps cs → holds12 ((GS.start.choices a.lim a.ps (cloN a.ps a.rs)).t.l.map (soC cs)) (GS.start.choices a.lim a.ps (cloN a.ps a.rs)).b.l = true) := ⟨fun cs hc => part_holds HSa.out hc⟩
    have HTurn : Aside0 (∀ cs, ChOK a.ps cs → ∀ n, (hn : n < ((GS.start.choices a.lim a.ps (cloN a.ps a.rs)).t.l.map (soC cs)).length) → holds12 (((GS.start.choices a.lim a.ps (cloN a.ps a.rs)).t.l.map (soC cs)).set n (!(((GS.start.choices a.lim a.ps (cloN a.ps a.rs)).t.l.map (soC cs))[n]))) (GS.start.choices a.lim a.ps (cloN a.ps a.rs)).b.l = false) := ⟨fun cs hc n hn => part_turned HSa.out (by rw [HLim.out]; decide) hc n hn⟩
    obtain ⟨hfull, htl, htn⟩ := part_full (lim := a.lim) HSa.out
    have HFull : Aside0 ((GS.start.choices a.lim a.ps (cloN a.ps a.rs)).t.full = false) := ⟨by rw [hfull, HLim.out]; exact decide_eq_false (by omega)⟩
    have hll : (GS.start.choices a.lim a.ps (cloN a.ps a.rs)).t.l.length ≤ 216 := by rw [htl, List.length_take]; omega
    clear hfull htl htn
    generalize GS.start.choices a.lim a.ps (cloN a.ps a.rs) = gs at *
    go_wp2_with fail
    refine (HOf.out w3 HG3.out.1).mono ?_
    rintro e w4 ⟨Ac, cc, cs, rfl, hC, hlen, hall, hb⟩
    have HOK := Aside0.mk (hall.ok hlen)
    have HG4 := Aside0.mk (HG3.out.below hb)
    have HF4 := Aside0.mk (HF3.out.step hb)
    have HGK : Aside0 (GOK w4 a Ac cs none []) := ⟨⟨Kd.C_below HPk.out HG4.out.1, Kd.C_below HRt.out HG4.out.1, hC, Kd.C_nil _ _, HOK.out, HSa.out⟩⟩
    clear hC hlen hall hb HG3 HF3 HOf
    have HMo := Aside0.mk (Model_calls w1 w4 g a gs HG4.out Ac cc cs none 0 [] HGK.out (fun x b => b = soC cs x) (by rw [HLim.out]; decide) (soLaw_first HGK.out HFirst.out))
    clear HGK HFirst
    unfold gcells at HMo ⊢
    go_wp2_with fail
    refine HMo.out.mono ?_
    rintro e w5 ⟨v, ms, rfl, hO, hM, hb⟩
    have HH := Aside0.mk (HHold.out cs HOK.out)
    have HT := Aside0.mk (HTurn.out cs HOK.out)
    rw [← hM.map] at HH HT
    have hmx : ms.length ≤ 216 := by rw [hM.1]; exact hll
    obtain ⟨Am, cm, rfl, -, -⟩ := Kd.R_reads hO
    have HG5 := Aside0.mk (HG4.out.below hb)
    have HF5 := Aside0.mk (HF4.out.step hb)
    have HO5 := Aside0.mk (Kd.R_lower hO HF4.out.below.size)
    clear hO hM hb HG4 HF4 HMo HHold HTurn HOK
    go_wp2_with fail
    refine (Builder_of_gnd HG5.out).mono ?_
    rintro e w6 ⟨bg, rfl, rfl, hB⟩
    have HB := Aside0.mk hB
    clear hB
    go_wp2_with fail
    refine (Clauses_calls _ _ bg _ HB.out HPart.out.1).mono ?_
    rintro e w7 ⟨v7, rfl, hO7, hb7⟩
    obtain ⟨A7, c7, rfl, -, hC7⟩ := Kd.R_reads hO7
    have HC7 := Aside0.mk hC7
    have HL7 := Aside0.mk hO7
    have HG7 := Aside0.mk (HG5.out.below hb7)
    have HF7 := Aside0.mk (HF5.out.step hb7)
    have HO7 : Aside0 (OwnB w7 w.heap.size (.slice Am ms.length cm) ms) := ⟨Kd.R_below HO5.out hb7⟩
    clear hO7 hC7 hb7 HG5 HF5 HO5 HB
    go_wp2_with fail
    refine (Builder_of_gnd HG7.out).mono ?_
    rintro e w8 ⟨bg2, rfl, rfl, hB⟩
    go_wp2_with fail
    refine (Bad_same _ _ _ _ hB).mono ?_
    rintro e w9 ⟨rfl, rfl⟩
    clear hB
    go_wp2_with fail
    refine (Table_of_gnd HG7.out).mono ?_
    rintro e w10 ⟨tg, rfl, rfl, hTb⟩
    go_wp2_with fail
    refine (Full_of_gnd hTb).mono ?_
    rintro e w11 ⟨rfl, rfl⟩
    clear hTb
    rw [HFull.out]
    go_wp2_with fail
    refine (Holds12_same _ _ _ _ HC7.out HPart.out.2 _ _ _ (Kd.R_reads' HO7.out).2.2).mono ?_
    rintro e w12 ⟨rfl, rfl⟩
    rw [HH.out]
    by_cases h0 : ms.length = 0
    · rw [h0]
      go_wp2_with fail
      refine (fixed_calls _).mono ?_
      rintro e w13 ⟨rfl, hb⟩
      have HFe := Aside0.mk (HF7.out.step hb)
      clear hb
      go_wp2_with fail
      go_ret
      exact ⟨rfl, HFe.out.below⟩
    · have hpos : 0 < ms.length := by omega
      obtain ⟨gm, cap, e, -, -, cells, hcell⟩ := Kd.R_form HO7.out hpos
      injection e with e1 e2 e3
      subst e1
      have hr0 := Int.emod_nonneg tu (show (ms.length : Int) ≠ 0 by omega)
      have hr1 := Int.emod_lt_of_pos tu (show (0 : Int) < (ms.length : Int) by omega)
      obtain ⟨n, hn⟩ := Int.eq_ofNat_of_zero_le hr0
      rw [hn] at hr0 hr1
      have hnl : n < ms.length := by omega
      obtain ⟨q0, q1⟩ := Kd.R_celln (enc := Value.bool) (h1 := fun _ => rfl) false HO7.out n (by omega) (by omega)
      replace q0 : w12.cell? ⟨gm, n, none⟩ = some (.bool (ms.getD n false)) := q0
      replace q1 : w12.frozen? ⟨gm, n, none⟩ = false := q1
      rw [getD_at _ _ hnl] at q0
      have hTn := HT.out n hnl
      have HTn := Aside0.mk hTn
      have hbase := Kd.R_base HO7.out gm rfl
      have HL13 : Aside0 (Kd.C kRows (w12.setCell ⟨gm, n, none⟩ (.bool (!ms[n]))) A7 gs.b.l.length gs.b.l) := ⟨(Kd.R_reads' (Kd.R_set HL7.out hcell (fun q hq => by rcases kInts_E hq with rfl | rfl <;> decide) n (.bool (!ms[n])))).2.2⟩
      have HM13 : Aside0 (Kd.C Kd.bool (w12.setCell ⟨gm, n, none⟩ (.bool (!ms[n]))) (some ⟨gm, 0, none⟩) (ms.set n (!ms[n])).length (ms.set n (!ms[n]))) := ⟨(Kd.R_reads' (C_bools_set HO7.out n (!ms[n]))).2.2⟩
      have HB13 : Aside0 (Below w.heap.size w (w12.setCell ⟨gm, n, none⟩ (.bool (!ms[n])))) := ⟨below_set HF7.out.below hbase⟩
      have hsl : Aside0 ((ms.set n (!ms[n])).length = ms.length) := ⟨List.length_set⟩
      rw [hsl.out] at HM13
      clear hTn e2 e3 hcell
      go_wp2_with fail
      generalize w12.setCell ⟨gm, n, none⟩ (.bool (!ms[n])) = w13 at *
      clear q0 q1 HL7 HC7 HG7 HF7 HO7
      refine (fixed_calls _).mono ?_
      rintro e w14 ⟨rfl, hb⟩
      have HF14 := Aside0.mk (below_step HB13.out hb)
      have HL14 := Aside0.mk (Kd.C_below HL13.out hb)
      have HM14 := Aside0.mk (Kd.C_below HM13.out hb)
      rw [← hsl.out] at HM14
      have HHs := Aside0.mk (Holds12_same w14 A7 c7 gs.b.l HL14.out HPart.out.2 (some ⟨gm, 0, none⟩) cm _ HM14.out)
      rw [hsl.out, HTn.out] at HHs
      clear hb HL13 HM13 HB13
      go_wp2_with fail
      refine HHs.out.mono ?_
      rintro e w15 ⟨rfl, rfl⟩
      go_wp2_with fail
      go_ret
      exact ⟨rfl, HF14.out⟩

end Go.Proofs.YtbahanlnkikpeaaGreat
