import Derived.StillTailTactics
import Derived.Test.YtbahanlnkikpeaaGreatRec9c
namespace Go.Proofs.YtbahanlnkikpeaaGreat
open Go.RowKit Go.Proofs.YtbahanlnkikpeaaGreatW.PrintWords Go.Proofs.YtbahanlnkikpeaaGreatW.PrintLast
set_option linter.unusedVariables false
set_option linter.unusedSimpArgs false
set_option maxRecDepth 100000
set_option maxHeartbeats 8000000
def AnyN (_ : Int) : Prop := True
theorem retN {w w1 : World} {n : Int} (h : Below w.heap.size w w1) : RetU8 w AnyN (.returned (.int .u8 n)) w1 := ⟨n, trivial, rfl, h⟩
theorem findI_lt (ps : List DPackage) (s : ByteArray) : findI ps s < ps.length := by
  unfold findI
  cases h : findIx ps s with
  | none => simp; omega
  | some i =>
    have := (List.findIdx?_eq_some_iff_getElem.1 h).1
    simp only
    omega
theorem findI_ge (ps : List DPackage) (s : ByteArray) : -1 ≤ findI ps s := by
  unfold findI
  cases h : findIx ps s <;> simp only <;> omega
theorem wish_any (w : World) (A : Option Addr) (c : Nat) (ps : List DPackage) (A2 : Option Addr) (n2 c2 : Nat) (x : DSpec) (B1 B2 : Option Addr) (d1 d2 : Nat) (h : Kd.C kPackage w A ps.length ps) (hps : ps.length < 1000000000000)
    (h1 : Kd.C kSpan w B1 x.spans.length x.spans) (h2 : Kd.C kSetting w B2 x.settings.length x.settings) :
   Calls Tryz.prog 78 #[.agg #[.slice A ps.length c, .slice A2 n2 c2], .agg #[.string x.name, .slice B1 x.spans.length d1, .slice B2 x.settings.length d2]] w (RetU8 w AnyN) := by
  have H := Aside0.mk h
  have H1 := Aside0.mk h1
  have H2 := Aside0.mk h2
  clear h h1 h2
  go_enter Tryz.func78, Tryz.ntmps78
  go_wp2_with fail
  refine (Find_calls _ _ _ _ _ _ _ _ (Kd.C_alloc (Kd.C_alloc H.out _) _)).mono ?_
  rintro e w1 ⟨rfl, hb⟩
  have HF := Aside0.mk ((Fr2.mk0 w _ _ _ _).step hb)
  have hge := findI_ge ps x.name
  have hlt := findI_lt ps x.name
  clear hb
  obtain ⟨x0, x1⟩ := cells2 HF.out.b0
  obtain ⟨p0, p1, p2⟩ := cells3 HF.out.b1
  by_cases hf : 0 ≤ findI ps x.name
  · obtain ⟨i, hi⟩ := Int.eq_ofNat_of_zero_le hf
    rw [hi] at hlt hge hf
    rw [hi]
    clear hi
    have hil : i < ps.length := by omega
    obtain ⟨ad, E2, f2, E3, f3, E4, f4, E5, f5, E6, f6, E7, f7, e, h0, h1, h2, h3, h4, h5, h6, h7, hK⟩ := at_Package_K (Kd.C_below H.out HF.out.below) i hil
    subst e
    have HK := Aside0.mk hK
    clear hK
    go_wp2_with fail
    go_still_tail 7, (by kernel_rfl)
    change wpList _ _ _ _ _ w1.drew
    have HK2 := Aside0.mk (kPackage.K_below (below_drew (Below.refl _ _)) HK.out)
    have HF2 := Aside0.mk (HF.out.step (below_drew (Below.refl _ _)))
    clear HF HK
    generalize w1.drew = w2 at HK2 HF2 ⊢
    go_wp2_with fail
    refine (settings_any _ _ _ HK2.out _ _ _ (Kd.C_below H2.out HF2.out.below)).mono ?_
    rintro e w3 ⟨b, -, rfl, hb⟩
    cases b
    all_goals
      go_wp2_with fail
      go_ret
      exact retN (below_step HF2.out.below hb)
  · go_wp2_with fail
    refine (Virtual_any _ _ _ _ _ _ _ _ (Kd.C_below H.out HF.out.below) hps).mono ?_
    rintro e w3 ⟨b, -, rfl, hb⟩
    replace HF := Aside0.mk (HF.out.step hb)
    clear hb x0 x1 p0 p1 p2
    obtain ⟨p0, p1, p2⟩ := cells3 HF.out.b1
    cases b
    · go_wp2_with fail
      go_ret
      exact retN HF.out.below
    · go_upto_region 8 with (fail)
      go_cut [1, 51] (fun _ v wc => ∃ b : Bool, v = .bool b ∧ wc = w3)
      case first =>
        by_cases hs : 0 < x.settings.length
        · go_wp2_with fail
          go_meet
          case rel => exact ⟨_, rfl, rfl⟩
        · by_cases h1 : x.spans.length = 1
          · have h1' : ((x.spans.length : Int) != 1) = false := by rw [h1]; rfl
            obtain ⟨ad, e, y0, y1⟩ := at_Span (Kd.C_below H1.out HF.out.below) 0 (by omega)
            subst e
            replace y0 : w3.cell? ad = some (.string x.spans[0].lo) := y0
            replace y1 : w3.cell? ⟨ad.block, ad.off + 1, none⟩ = some (.string x.spans[0].hi) := y1
            replace h1 : 0 < x.spans.length := by omega
            go_wp2_with fail
            all_goals
              go_meet
              case rel => exact ⟨_, rfl, rfl⟩
          · have h1' : ((x.spans.length : Int) != 1) = true := by rw [bne_iff_ne]; omega
            go_wp2_with fail
            go_meet
            case rel => exact ⟨_, rfl, rfl⟩
      case rest =>
        obtain ⟨b, rfl, rfl⟩ := hcut
        cases b
        all_goals
          go_wp2_with fail
          go_ret
          exact retN HF.out.below

end Go.Proofs.YtbahanlnkikpeaaGreat
