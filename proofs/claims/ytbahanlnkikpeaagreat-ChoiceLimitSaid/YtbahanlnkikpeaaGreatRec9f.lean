import Derived.StillTailTactics
import Derived.Deep.RegionHeld3
import Derived.Test.YtbahanlnkikpeaaGreatRec9e
namespace Go.Proofs.YtbahanlnkikpeaaGreat
open Go.RowKit Go.Proofs.YtbahanlnkikpeaaGreatW.PrintWords Go.Proofs.YtbahanlnkikpeaaGreatW.PrintLast
set_option linter.unusedVariables false
set_option linter.unusedSimpArgs false
set_option maxRecDepth 100000
set_option maxHeartbeats 8000000
theorem prefer_any (w : World) (A : Option Addr) (c : Nat) (ps : List DPackage) (A2 : Option Addr) (c2 : Nat) (fs : List DPrefer) (i : Nat) (h : Kd.C kPackage w A ps.length ps) (hps : ps.length < 1000000000000) (h2 : Kd.C kPrefer w A2 fs.length fs) (hi : i < fs.length) :
   Calls Tryz.prog 77 #[.agg #[.slice A ps.length c, .slice A2 fs.length c2], .int .i64 i] w (RetBool w Any) := by
  have m2 := Kd.C_max h2
  obtain ⟨ad, B1, d1, e, h0, h1, h2', l1, g1⟩ := at_Prefer h2 i hi
  have mf := Kd.C_max g1
  have H := Aside0.mk h
  have H2 := Aside0.mk h2
  have G1 := Aside0.mk g1
  clear h h2 g1
  subst e
  have q0 := World.block_lt_of_cell? w _ h0
  have bi : (i : Int) < (fs.length : Int) := by omega
  obtain ⟨y, -⟩ := bcell (below_alloc (Below.refl w.heap.size w) (.cells #[.slice A ps.length c, .slice (some ad) fs.length c2] 25 (0, 0)))
  have v0 := pw_cell_below (below_alloc (Below.refl w.heap.size w) (.cells #[.slice A ps.length c, .slice (some ad) fs.length c2] 25 (0, 0))) h0
  have v1 := pw_cell_below (below_alloc (Below.refl w.heap.size w) (.cells #[.slice A ps.length c, .slice (some ad) fs.length c2] 25 (0, 0))) h1
  have v2 := pw_cell_below (below_alloc (Below.refl w.heap.size w) (.cells #[.slice A ps.length c, .slice (some ad) fs.length c2] 25 (0, 0))) h2'
  clear y h0 h1 h2' q0
  go_enter Tryz.func77, Tryz.ntmps77
  go_wp2_with fail
  go_loopw [6] (fun n wr => ∃ k : Nat, k ≤ i ∧ n = .int .i64 k ∧ Aside0 (Fr2 w 25 #[.slice A ps.length c, .slice (some ad) fs.length c2] 118 #[.string fs[i].virt, .slice B1 fs[i].names.length d1, .int .i64 fs[i].line] wr)) (fun n _ => i - (intOf n).toNat)
  case atStart => exact ⟨0, by omega, rfl, ⟨Fr2.mk0 _ _ _ _ _⟩⟩
  case round =>
    clear v0 v1 v2
    obtain ⟨k, hk, rfl, HF⟩ := hrel
    obtain ⟨x0, x1⟩ := cells2 HF.out.b0
    obtain ⟨p0, p1, p2⟩ := cells3 HF.out.b1
    by_cases hlt : k < i
    · obtain ⟨ad', e, h0⟩ := at_Prefer_virt (Kd.C_below H2.out HF.out.below) k (by omega)
      cases e
      have bk : (k : Int) < (fs.length : Int) := by omega
      go_wp2
      go_quiet (fail)
      go_wp2
      · go_ret
        exact retAny (pw_below_drewN HF.out.below _)
      · go_roundw
        case rel => exact ⟨k + 1, by omega, by go_num, ⟨HF.out.drewN _⟩⟩
        case measure => simp [intOf] <;> omega
    · go_wp2_with fail
      clear x0 x1 p0 p1 p2
      go_loopw [8, 31] (fun _ n wr => ∃ k : Nat, k ≤ fs[i].names.length ∧ n = .int .i64 k ∧ Aside0 (Fr2 w 25 #[.slice A ps.length c, .slice (some ad) fs.length c2] 118 #[.string fs[i].virt, .slice B1 fs[i].names.length d1, .int .i64 fs[i].line] wr)) (fun _ n _ => fs[i].names.length - (intOf n).toNat)
      case atStart => exact ⟨0, by omega, rfl, HF⟩
      case round =>
        clear HF
        obtain ⟨k, hk, rfl, HF⟩ := hrel
        obtain ⟨x0, x1⟩ := cells2 HF.out.b0
        obtain ⟨p0, p1, p2⟩ := cells3 HF.out.b1
        by_cases hlt : k < fs[i].names.length
        · obtain ⟨ad', e, h0⟩ := at_str (Kd.C_below G1.out HF.out.below) k hlt
          cases e
          have bk : (k : Int) < (fs[i].names.length : Int) := by omega
          go_wp2
          go_still_tail 6, (by kernel_rfl)
          change wpList _ _ _ _ _ wr.drew
          replace HF := Aside0.mk (HF.out.step (below_drew (Below.refl _ _)))
          generalize wr.drew = w2 at HF ⊢
          clear x0 x1 p0 p1 p2 h0
          obtain ⟨x0, x1⟩ := cells2 HF.out.b0
          obtain ⟨p0, p1, p2⟩ := cells3 HF.out.b1
          go_wp2_with fail
          refine (Find_calls _ _ _ _ _ _ _ _ (Kd.C_below H.out HF.out.below)).mono ?_
          rintro e w3 ⟨rfl, hb⟩
          have hge := findI_ge ps fs[i].names[k]
          have hltI := findI_lt ps fs[i].names[k]
          replace HF := Aside0.mk (HF.out.step hb)
          clear hb x0 x1 p0 p1 p2
          obtain ⟨x0, x1⟩ := cells2 HF.out.b0
          obtain ⟨p0, p1, p2⟩ := cells3 HF.out.b1
          by_cases hneg : findI ps fs[i].names[k] < 0
          · go_wp2_with fail
            go_quiet (fail)
            go_wp2
            go_ret
            exact retAny (pw_below_drewN HF.out.below _)
          · obtain ⟨m, hm⟩ := Int.eq_ofNat_of_zero_le (show 0 ≤ findI ps fs[i].names[k] by omega)
            rw [hm] at hltI hneg
            rw [hm]
            clear hm hge
            have hml : m < ps.length := by omega
            obtain ⟨ad2, E4, f4, e, y4, l4, g4⟩ := at_Package_provides (Kd.C_below H.out HF.out.below) m hml
            have G4 := Aside0.mk g4
            subst e
            clear g4
            go_wp2_with fail
            go_quiet ((go_at_call 100; exact Calls.quiet_of_same (Has_same _ _ _ _ _ G4.out)))
            go_wp2
            all_goals first
              | (go_ret; exact retAny (pw_below_drewN HF.out.below _))
              | (go_roundw; (case rel => exact ⟨k + 1, by omega, by go_num, ⟨HF.out.drewN _⟩⟩); (case measure => simp [intOf] <;> omega))
        · go_wp2_with fail
          refine (Virtual_any _ _ _ _ _ _ _ _ (Kd.C_below H.out HF.out.below) hps).mono ?_
          rintro e w3 ⟨b, -, rfl, hb⟩
          replace HF := Aside0.mk (HF.out.step hb)
          clear hb x0 x1 p0 p1 p2
          obtain ⟨p0, p1, p2⟩ := cells3 HF.out.b1
          cases b
          · go_wp2_with fail
            go_ret
            exact retAny HF.out.below
          · go_wp2_with fail
            refine (twice_any _ _ _ _ (Kd.C_below G1.out HF.out.below)).mono ?_
            rintro e w4 ⟨b, -, rfl, hb⟩
            go_wp2_with fail
            go_ret
            exact retAny (below_step HF.out.below hb)

end Go.Proofs.YtbahanlnkikpeaaGreat
