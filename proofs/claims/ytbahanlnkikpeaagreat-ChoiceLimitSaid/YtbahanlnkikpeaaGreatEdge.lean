import Derived.Deep.RegionWith
import Derived.Deep.RegionHeld3
import Derived.Test.YtbahanlnkikpeaaGreatMeets
namespace Go.Proofs.YtbahanlnkikpeaaGreat
open Go.RowKit Go.Proofs.YtbahanlnkikpeaaGreatW.PrintWords Go.Proofs.YtbahanlnkikpeaaGreatW.PrintLast
set_option linter.unusedVariables false
set_option linter.unusedSimpArgs false
open Go.RowKit Go.Maps
set_option maxRecDepth 100000
set_option maxHeartbeats 8000000
theorem wpAny_put {P : Program} {md : Region.Mode} {ops : Array Oper} {Q : Exit → Act → World → Prop} {fuel : Nat} {listed : Array Bool} {a : Act} {w : World}
    (h : ∀ K : Act → World → Prop, (∀ a w, wpAny P md ops Q fuel listed a w → K a w) → K a w) : wpAny P md ops Q fuel listed a w := h _ (fun _ _ h => h)
/-- Where no rule counts the answer is no. -/
def QP (a : Args) (off : List Bool) (b : Bool) : Prop := (∀ k, k < (rulesOf a.ps a.rs).length → onB off k = false) → b = false
theorem retQF {a : Args} {off : List Bool} {w w1 : World} (h : Below w.heap.size w w1) : RetBool w (QP a off) (.returned (.bool false)) w1 := ⟨false, fun _ => rfl, rfl, h⟩
theorem Active_any (w : World) (a : Args) (Ac : Option Addr) (cc : Nat) (cs : List DCh) (Ao : Option Addr) (co : Nat) (off : List Bool) (h : GOK w a Ac cs Ao off) (p i : Nat) (hp : p < a.ps.length) (hi : i < a.ps[p].depends.length) :
    Calls Tryz.prog 66 #[.agg (gcells a Ac cc cs Ao co off), .int .i64 p, .int .i64 i] w (RetBool w (QP a off)) := by
  have H := Aside0.mk h
  have HF := Aside0.mk (Fr1.mk0 w 62 (gcells a Ac cc cs Ao co off))
  have HR := Aside0.mk (rule_calls _ a Ac cc cs Ao co off (h.below HF.out.below) 2 (p : Int) (i : Int))
  obtain ⟨adp, E5, f5, e, z5, l5, g5⟩ := at_Package_depends h.pk p hp
  obtain ⟨add, D1, d1, D2, d2, D4, d4, D5, d5, e', z0, z1, z2, z3, z4, z6, z7, -, k1, -, k2, -, k4, -, k5⟩ := at_Depend g5 i hi
  have HK4 := Aside0.mk k4
  have HK5 := Aside0.mk k5
  have bp : (p : Int) < (a.ps.length : Int) := by omega
  have bi : (i : Int) < (a.ps[p].depends.length : Int) := by omega
  generalize a.ps[p].depends[i] = dp at *
  generalize a.ps[p].depends.length = nd at *
  rw [e'] at z5
  clear h l5 g5 k1 k2 k4 k5 z0 z1 z2 z7 hi
  have HMeet := Aside0.mk (fun (wM : World) (hb : Below w.heap.size w wM) => Meets_any wM a Ac cc cs Ao co off (H.out.below hb) p dp.when_.name D4 d4 dp.when_.spans D5 d5 dp.when_.settings (Kd.C_below HK4.out hb) (Kd.C_below HK5.out hb))
  have HOn := Aside0.mk (fun (wM : World) (hb : Below w.heap.size w wM) (n : Nat) => On_calls wM a Ac cc cs Ao co off (H.out.below hb) n)
  unfold gcells at HF HR HMeet HOn ⊢
  have HE := Aside0.mk e
  have HE' := Aside0.mk e'
  clear e e'
  go_enter Tryz.func66, Tryz.ntmps66
  go_wp2_with fail
  refine HR.out.mono ?_
  rintro e1 w1 ⟨n, rfl, hn, hb⟩
  have HF1 := Aside0.mk (HF.out.step hb)
  clear hb HR HF
  obtain ⟨y0, y1, y2, y3, y4⟩ := cells5 HF1.out.b0
  rw [HE.out] at y0
  simp only [HE.out] at HMeet HOn
  replace z5 := pw_cell_below HF1.out.below z5
  replace z3 := pw_cell_below HF1.out.below z3
  replace z4 := pw_cell_below HF1.out.below z4
  replace z6 := pw_cell_below HF1.out.below z6
  rcases hn with rfl | ⟨k, hkl, rfl⟩
  · go_wp2_with fail
    go_quiet (fail)
    go_wp2_with fail
    go_ret
    exact retQF (pw_below_drewN HF1.out.below _)
  · have hon : Aside0 (onB off k = onB off k) := ⟨rfl⟩
    have HQ : Aside0 (onB off k = true → ∀ b, QP a off b) := ⟨fun h1 b h2 => by rw [h2 k hkl] at h1; cases h1⟩
    go_wp2_with fail
    have HFd := Aside0.mk (HF1.out.step (below_drew (Below.refl _ _)))
    have HM1 := Aside0.mk (HOn.out w1.drew HFd.out.below k)
    clear hon
    cases hon : onB off k with
    | false =>
      rw [hon] at HM1
      refine wp_region_any (by kernel_rfl) ?_
      change wpAny _ _ _ _ _ _ _ (World.drew _)
      refine wpAny_take (i := 0) (v := ?_) rfl (by kernel_rfl) (by kernel_rfl) (by kernel_rfl) (fun _ _ _ h => h) (Or.inl ⟨by kernel_rfl, ?_⟩) ?_
      rotate_left
      · intro w; go_simp; try with_reducible rfl
      refine wpAny_put (fun K hK => ?_)
      go_simp
      refine hK _ _ ?_
      clear hK K
      refine wpAny_take (i := 1) (v := ?_) rfl (by kernel_rfl) (by kernel_rfl) (by kernel_rfl) (fun _ _ _ h => h) (Or.inl ⟨by kernel_rfl, ?_⟩) ?_
      rotate_left
      · intro w; go_simp; try with_reducible rfl
      refine wpAny_put (fun K hK => ?_)
      go_simp
      refine hK _ _ ?_
      clear hK K
      refine wpAny_take (i := 2) (v := ?_) rfl (by kernel_rfl) (by kernel_rfl) (by kernel_rfl) (fun _ _ _ h => h) (Or.inl ⟨by kernel_rfl, ?_⟩) ?_
      rotate_left
      · intro w; go_simp; try with_reducible rfl
      refine wpAny_put (fun K hK => ?_)
      go_simp
      refine hK _ _ ?_
      clear hK K
      refine wpAny_take (i := 4) (v := ?_) rfl (by kernel_rfl) (by kernel_rfl) (by kernel_rfl) (fun _ _ _ h => h) (Or.inl ⟨by kernel_rfl, ?_⟩) ?_
      rotate_left
      · intro w; go_simp; try with_reducible rfl
      refine wpAny_put (fun K hK => ?_)
      go_simp
      refine hK _ _ ?_
      clear hK K
      refine wpAny_ready (rs := [3]) (by kernel_rfl) (by simp) ?_
      refine AllReady.cons rfl (fun K hK => ?_) AllReady.nil
      go_simp
      refine hK _ _ ?_
      clear hK K
      refine wpAny_ready (rs := [5]) (by kernel_rfl) (by simp) ?_
      refine AllReady.cons rfl (fun K hK => ?_) AllReady.nil
      go_simp
      refine HM1.out.mono ?_
      rintro e3 w3 ⟨rfl, hb3⟩
      refine hK _ _ ?_
      clear hK K
      refine wpAny_take (i := 6) (v := ?_) rfl (by kernel_rfl) (by kernel_rfl) (by kernel_rfl) (fun _ _ _ h => h) (Or.inl ⟨by kernel_rfl, ?_⟩) ?_
      rotate_left
      · intro w; go_simp; try with_reducible rfl
      refine wpAny_put (fun K hK => ?_)
      go_simp
      refine hK _ _ ?_
      clear hK K
      refine wpAny_take (i := 7) (v := ?_) rfl (by kernel_rfl) (by kernel_rfl) (by kernel_rfl) (fun _ _ _ h => h) (Or.inl ⟨by kernel_rfl, ?_⟩) ?_
      rotate_left
      · intro w; go_simp; try with_reducible rfl
      refine wpAny_put (fun K hK => ?_)
      go_simp
      refine hK _ _ ?_
      clear hK K
      refine wpAny_take (i := 8) (v := undef) rfl (by kernel_rfl) (by kernel_rfl) (by kernel_rfl) (fun _ _ _ h => h) (Or.inr ⟨by kernel_rfl, rfl⟩) ?_
      refine wpAny_put (fun K hK => ?_)
      go_simp
      refine hK _ _ ?_
      clear hK K
      refine wpAny_take (i := 9) (v := undef) rfl (by kernel_rfl) (by kernel_rfl) (by kernel_rfl) (fun _ _ _ h => h) (Or.inr ⟨by kernel_rfl, rfl⟩) ?_
      refine wpAny_put (fun K hK => ?_)
      go_simp
      refine hK _ _ ?_
      clear hK K
      refine wpAny_take (i := 10) (v := undef) rfl (by kernel_rfl) (by kernel_rfl) (by kernel_rfl) (fun _ _ _ h => h) (Or.inr ⟨by kernel_rfl, rfl⟩) ?_
      refine wpAny_put (fun K hK => ?_)
      go_simp
      refine hK _ _ ?_
      clear hK K
      refine wpAny_take (i := 11) (v := undef) rfl (by kernel_rfl) (by kernel_rfl) (by kernel_rfl) (fun _ _ _ h => h) (Or.inr ⟨by kernel_rfl, rfl⟩) ?_
      refine wpAny_put (fun K hK => ?_)
      go_simp
      refine hK _ _ ?_
      clear hK K
      refine wpAny_take (i := 12) (v := undef) rfl (by kernel_rfl) (by kernel_rfl) (by kernel_rfl) (fun _ _ _ h => h) (Or.inr ⟨by kernel_rfl, rfl⟩) ?_
      refine wpAny_put (fun K hK => ?_)
      go_simp
      refine hK _ _ ?_
      clear hK K
      refine wpAny_take (i := 13) (v := undef) rfl (by kernel_rfl) (by kernel_rfl) (by kernel_rfl) (fun _ _ _ h => h) (Or.inr ⟨by kernel_rfl, rfl⟩) ?_
      refine wpAny_put (fun K hK => ?_)
      go_simp
      refine hK _ _ ?_
      clear hK K
      refine wpAny_take (i := 14) (v := undef) rfl (by kernel_rfl) (by kernel_rfl) (by kernel_rfl) (fun _ _ _ h => h) (Or.inr ⟨by kernel_rfl, rfl⟩) ?_
      refine wpAny_put (fun K hK => ?_)
      go_simp
      refine hK _ _ ?_
      clear hK K
      refine wpAny_take (i := 15) (v := undef) rfl (by kernel_rfl) (by kernel_rfl) (by kernel_rfl) (fun _ _ _ h => h) (Or.inr ⟨by kernel_rfl, rfl⟩) ?_
      refine wpAny_put (fun K hK => ?_)
      go_simp
      refine hK _ _ ?_
      clear hK K
      refine wpAny_take (i := 16) (v := undef) rfl (by kernel_rfl) (by kernel_rfl) (by kernel_rfl) (fun _ _ _ h => h) (Or.inr ⟨by kernel_rfl, rfl⟩) ?_
      refine wpAny_put (fun K hK => ?_)
      go_simp
      refine hK _ _ ?_
      clear hK K
      refine wpAny_take (i := 17) (v := undef) rfl (by kernel_rfl) (by kernel_rfl) (by kernel_rfl) (fun _ _ _ h => h) (Or.inr ⟨by kernel_rfl, rfl⟩) ?_
      refine wpAny_put (fun K hK => ?_)
      go_simp
      refine hK _ _ ?_
      clear hK K
      refine wpAny_take (i := 18) (v := undef) rfl (by kernel_rfl) (by kernel_rfl) (by kernel_rfl) (fun _ _ _ h => h) (Or.inr ⟨by kernel_rfl, rfl⟩) ?_
      refine wpAny_put (fun K hK => ?_)
      go_simp
      refine hK _ _ ?_
      clear hK K
      refine wpAny_take (i := 19) (v := undef) rfl (by kernel_rfl) (by kernel_rfl) (by kernel_rfl) (fun _ _ _ h => h) (Or.inr ⟨by kernel_rfl, rfl⟩) ?_
      refine wpAny_put (fun K hK => ?_)
      go_simp
      refine hK _ _ ?_
      clear hK K
      refine wpAny_take (i := 20) (v := undef) rfl (by kernel_rfl) (by kernel_rfl) (by kernel_rfl) (fun _ _ _ h => h) (Or.inr ⟨by kernel_rfl, rfl⟩) ?_
      refine wpAny_put (fun K hK => ?_)
      go_simp
      refine hK _ _ ?_
      clear hK K
      refine wpAny_take (i := 21) (v := undef) rfl (by kernel_rfl) (by kernel_rfl) (by kernel_rfl) (fun _ _ _ h => h) (Or.inr ⟨by kernel_rfl, rfl⟩) ?_
      refine wpAny_put (fun K hK => ?_)
      go_simp
      refine hK _ _ ?_
      clear hK K
      refine wpAny_take (i := 22) (v := ?_) rfl (by kernel_rfl) (by kernel_rfl) (by kernel_rfl) (fun _ _ _ h => h) (Or.inl ⟨by kernel_rfl, ?_⟩) ?_
      rotate_left
      · intro w; go_simp; try with_reducible rfl
      refine wpAny_put (fun K hK => ?_)
      go_simp
      refine hK _ _ ?_
      clear hK K
      refine wpAny_take (i := 23) (v := ?_) rfl (by kernel_rfl) (by kernel_rfl) (by kernel_rfl) (fun _ _ _ h => h) (Or.inl ⟨by kernel_rfl, ?_⟩) ?_
      rotate_left
      · intro w; go_simp; try with_reducible rfl
      refine wpAny_put (fun K hK => ?_)
      go_simp
      refine hK _ _ ?_
      clear hK K
      refine wpAny_done (by kernel_rfl) ?_ _
      have HEnd := Aside0.mk (below_step HFd.out.below hb3)
      clear hb3
      go_wp2_with fail
      go_ret
      exact retQF HEnd.out
    | true =>
      rw [hon] at HM1
      replace HQ := Aside0.mk (HQ.out hon)
      go_region_held3 (fun w' => w'.cell? ⟨w.heap.size, 0, none⟩ = some (.slice (some adp) a.ps.length a.c) ∧ w'.cell? ⟨w.heap.size, 1, none⟩ = some (.slice a.A2 a.n2 a.c2) ∧ w'.cell? ⟨w.heap.size, 2, none⟩ = some (.slice a.B a.rs.length a.d) ∧ w'.cell? ⟨w.heap.size, 3, none⟩ = some (.slice Ac cs.length cc) ∧ w'.cell? ⟨w.heap.size, 4, none⟩ = some (.slice Ao off.length co) ∧ w'.cell? ⟨(adp.add (p * 8)).block, (adp.add (p * 8)).off + 5, none⟩ = some (.slice (some add) nd f5) ∧ w'.cell? ⟨(add.add (i * 7)).block, (add.add (i * 7)).off + 3, none⟩ = some (.string dp.when_.name) ∧ w'.cell? ⟨(add.add (i * 7)).block, (add.add (i * 7)).off + 4, none⟩ = some (.slice D4 dp.when_.spans.length d4) ∧ w'.cell? ⟨(add.add (i * 7)).block, (add.add (i * 7)).off + 5, none⟩ = some (.slice D5 dp.when_.settings.length d5))
        (first
          | go_keep
          | exact ⟨pw_cell_below (below_step hb3 hb4) y0, pw_cell_below (below_step hb3 hb4) y1, pw_cell_below (below_step hb3 hb4) y2, pw_cell_below (below_step hb3 hb4) y3, pw_cell_below (below_step hb3 hb4) y4, pw_cell_below (below_step hb3 hb4) z5, pw_cell_below (below_step hb3 hb4) z3, pw_cell_below (below_step hb3 hb4) z4, pw_cell_below (below_step hb3 hb4) z6⟩
          | exact ⟨pw_cell_below hb3 y0, pw_cell_below hb3 y1, pw_cell_below hb3 y2, pw_cell_below hb3 y3, pw_cell_below hb3 y4, pw_cell_below hb3 z5, pw_cell_below hb3 z3, pw_cell_below hb3 z4, pw_cell_below hb3 z6⟩)
      ((first
        | (go_at_call 64; refine HM1.out.mono ?_; rintro e3 w3 ⟨rfl, hb3⟩)
        | (go_at_call 68; refine (HMeet.out w3 (below_step HFd.out.below hb3)).mono ?_; rintro e4 w4 ⟨b4, -, rfl, hb4⟩)))
      have HEnd := Aside0.mk (below_step (below_step HFd.out.below hb3) hb4)
      clear hb3 hb4
      go_wp2_with fail
      go_ret
      exact ⟨_, HQ.out _, rfl, HEnd.out⟩
theorem Edge_any (w : World) (a : Args) (Ac : Option Addr) (cc : Nat) (cs : List DCh) (Ao : Option Addr) (co : Nat) (off : List Bool) (h : GOK w a Ac cs Ao off) (p t : Nat) (hp : p < a.ps.length) :
    Calls Tryz.prog 67 #[.agg (gcells a Ac cc cs Ao co off), .int .i64 p, .int .i64 t] w (RetBool w (QP a off)) := by
  have H := Aside0.mk h
  have hps := h.sm.n
  have hd16 : a.ps[p].depends.length ≤ 16 := (h.sm.pk _ (List.getElem_mem hp)).2.1
  have HF := Aside0.mk (Fr1.mk0 w 62 (gcells a Ac cc cs Ao co off))
  have HT := Aside0.mk (fun (wM : World) (hb : Below w.heap.size w wM) (q : Nat) => There_calls wM a Ac cc cs Ao co off (H.out.below hb) q)
  have HTg := Aside0.mk (fun (wM : World) (hb : Below w.heap.size w wM) (s : ByteArray) => Targets_calls wM a.A a.c a.ps a.A2 a.n2 a.c2 s (Kd.C_below H.out.pk hb) (by omega))
  have HAct := Aside0.mk (fun (wM : World) (hb : Below w.heap.size w wM) (i : Nat) (hi : i < a.ps[p].depends.length) => Active_any wM a Ac cc cs Ao co off (H.out.below hb) p i hp hi)
  obtain ⟨adp, E5, f5, e, z5, l5, g5⟩ := at_Package_depends h.pk p hp
  have HG5 := Aside0.mk g5
  have HE := Aside0.mk e
  have bp : (p : Int) < (a.ps.length : Int) := by omega
  clear h l5 g5 e
  unfold gcells at HF HT HAct ⊢
  go_enter Tryz.func67, Tryz.ntmps67
  go_wp2_with fail
  refine (HT.out _ HF.out.below p).mono ?_
  rintro e1 w1 ⟨rfl, hb⟩
  have HF1 := Aside0.mk (HF.out.step hb)
  clear hb HF
  cases thereN cs p with
  | false =>
    go_wp2_with fail
    go_ret
    exact retQF HF1.out.below
  | true =>
    obtain ⟨y0, y1, y2, y3, y4⟩ := cells5 HF1.out.b0
    go_wp2_with fail
    refine (HT.out _ HF1.out.below t).mono ?_
    rintro e2 w2 ⟨rfl, hb⟩
    have HF2 := Aside0.mk (HF1.out.step hb)
    clear hb HF1 y0 y1 y2 y3 y4
    cases thereN cs t with
    | false =>
      go_wp2_with fail
      go_ret
      exact retQF HF2.out.below
    | true =>
      obtain ⟨y0, y1, y2, y3, y4⟩ := cells5 HF2.out.b0
      rw [HE.out] at y0
      have z5' := pw_cell_below HF2.out.below z5
      go_wp2_with fail
      clear y0 y1 y2 y3 y4 z5'
      go_loopw [28] (fun i W => ∃ k : Nat, k ≤ a.ps[p].depends.length ∧ i = .int .i64 k ∧ Aside0 (Fr1 w 62 #[.slice a.A a.ps.length a.c, .slice a.A2 a.n2 a.c2, .slice a.B a.rs.length a.d, .slice Ac cs.length cc, .slice Ao off.length co] W)) (fun i _ => a.ps[p].depends.length - (intOf i).toNat)
      case atStart => exact ⟨0, by omega, rfl, HF2⟩
      case round =>
        clear HF2
        obtain ⟨k, hk, rfl, HF2⟩ := hrel
        by_cases hlt : k < a.ps[p].depends.length
        · obtain ⟨add, e', z0⟩ := at_Depend_on_name (Kd.C_below HG5.out HF2.out.below) k hlt
          have HA1 := Aside0.mk (HAct.out wr.drew (below_step HF2.out.below (below_drew (Below.refl _ _))) k hlt)
          have HB1 := Aside0.mk (below_step HF2.out.below (below_drew (Below.refl wr.heap.size wr)))
          obtain ⟨y0, y1, y2, y3, y4⟩ := cells5 HF2.out.b0
          have bk : (k : Int) < (a.ps[p].depends.length : Int) := by omega
          generalize a.ps[p].depends[k].on_.name = onm at *
          subst e'
          go_wp2_with fail
          have HTk := Aside0.mk (fun (wM : World) (hb : Below w.heap.size w wM) => HTg.out wM hb onm)
          refine wp_region_any (by kernel_rfl) ?_
          change wpAny _ _ _ _ _ _ _ (World.drew _)
          refine wpAny_take (i := 1) (v := ?_) rfl (by kernel_rfl) (by kernel_rfl) (by kernel_rfl) (fun _ _ _ h => h) (Or.inl ⟨by kernel_rfl, ?_⟩) ?_
          rotate_left
          · intro w; go_simp; try with_reducible rfl
          refine wpAny_put (fun K hK => ?_)
          go_simp
          refine hK _ _ ?_
          clear hK K
          refine wpAny_take (i := 2) (v := ?_) rfl (by kernel_rfl) (by kernel_rfl) (by kernel_rfl) (fun _ _ _ h => h) (Or.inl ⟨by kernel_rfl, ?_⟩) ?_
          rotate_left
          · intro w; go_simp; try with_reducible rfl
          refine wpAny_put (fun K hK => ?_)
          go_simp
          refine hK _ _ ?_
          clear hK K
          refine wpAny_ready (rs := [0]) (by kernel_rfl) (by simp) ?_
          refine AllReady.cons rfl (fun K hK => ?_) AllReady.nil
          go_simp
          refine hK _ _ ?_
          clear hK K
          refine wpAny_ready (rs := [3]) (by kernel_rfl) (by simp) ?_
          refine AllReady.cons rfl (fun K hK => ?_) AllReady.nil
          go_simp
          refine HA1.out.mono ?_
          rintro e4 w4 ⟨b4, hq4, rfl, hb4⟩
          have HQ4 := Aside0.mk hq4
          clear hq4
          have HF3 := Aside0.mk ((HF2.out.step (below_drew (Below.refl _ _))).step hb4)
          refine hK _ _ ?_
          clear hK K
          cases b4 with
          | false =>
            clear hb4
            refine wpAny_take (i := 4) (v := ?_) rfl (by kernel_rfl) (by kernel_rfl) (by kernel_rfl) (fun _ _ _ h => h) (Or.inl ⟨by kernel_rfl, ?_⟩) ?_
            rotate_left
            · intro w; go_simp; try with_reducible rfl
            refine wpAny_put (fun K hK => ?_)
            go_simp
            refine hK _ _ ?_
            clear hK K
            refine wpAny_take (i := 5) (v := undef) rfl (by kernel_rfl) (by kernel_rfl) (by kernel_rfl) (fun _ _ _ h => h) (Or.inr ⟨by kernel_rfl, rfl⟩) ?_
            refine wpAny_put (fun K hK => ?_)
            go_simp
            refine hK _ _ ?_
            clear hK K
            refine wpAny_take (i := 6) (v := undef) rfl (by kernel_rfl) (by kernel_rfl) (by kernel_rfl) (fun _ _ _ h => h) (Or.inr ⟨by kernel_rfl, rfl⟩) ?_
            refine wpAny_put (fun K hK => ?_)
            go_simp
            refine hK _ _ ?_
            clear hK K
            refine wpAny_take (i := 7) (v := undef) rfl (by kernel_rfl) (by kernel_rfl) (by kernel_rfl) (fun _ _ _ h => h) (Or.inr ⟨by kernel_rfl, rfl⟩) ?_
            refine wpAny_put (fun K hK => ?_)
            go_simp
            refine hK _ _ ?_
            clear hK K
            refine wpAny_take (i := 8) (v := undef) rfl (by kernel_rfl) (by kernel_rfl) (by kernel_rfl) (fun _ _ _ h => h) (Or.inr ⟨by kernel_rfl, rfl⟩) ?_
            refine wpAny_put (fun K hK => ?_)
            go_simp
            refine hK _ _ ?_
            clear hK K
            refine wpAny_take (i := 9) (v := undef) rfl (by kernel_rfl) (by kernel_rfl) (by kernel_rfl) (fun _ _ _ h => h) (Or.inr ⟨by kernel_rfl, rfl⟩) ?_
            refine wpAny_put (fun K hK => ?_)
            go_simp
            refine hK _ _ ?_
            clear hK K
            refine wpAny_take (i := 10) (v := undef) rfl (by kernel_rfl) (by kernel_rfl) (by kernel_rfl) (fun _ _ _ h => h) (Or.inr ⟨by kernel_rfl, rfl⟩) ?_
            refine wpAny_put (fun K hK => ?_)
            go_simp
            refine hK _ _ ?_
            clear hK K
            refine wpAny_take (i := 11) (v := undef) rfl (by kernel_rfl) (by kernel_rfl) (by kernel_rfl) (fun _ _ _ h => h) (Or.inr ⟨by kernel_rfl, rfl⟩) ?_
            refine wpAny_put (fun K hK => ?_)
            go_simp
            refine hK _ _ ?_
            clear hK K
            refine wpAny_take (i := 12) (v := undef) rfl (by kernel_rfl) (by kernel_rfl) (by kernel_rfl) (fun _ _ _ h => h) (Or.inr ⟨by kernel_rfl, rfl⟩) ?_
            refine wpAny_put (fun K hK => ?_)
            go_simp
            refine hK _ _ ?_
            clear hK K
            refine wpAny_take (i := 13) (v := undef) rfl (by kernel_rfl) (by kernel_rfl) (by kernel_rfl) (fun _ _ _ h => h) (Or.inr ⟨by kernel_rfl, rfl⟩) ?_
            refine wpAny_put (fun K hK => ?_)
            go_simp
            refine hK _ _ ?_
            clear hK K
            refine wpAny_take (i := 14) (v := undef) rfl (by kernel_rfl) (by kernel_rfl) (by kernel_rfl) (fun _ _ _ h => h) (Or.inr ⟨by kernel_rfl, rfl⟩) ?_
            refine wpAny_put (fun K hK => ?_)
            go_simp
            refine hK _ _ ?_
            clear hK K
            refine wpAny_take (i := 15) (v := undef) rfl (by kernel_rfl) (by kernel_rfl) (by kernel_rfl) (fun _ _ _ h => h) (Or.inr ⟨by kernel_rfl, rfl⟩) ?_
            refine wpAny_put (fun K hK => ?_)
            go_simp
            refine hK _ _ ?_
            clear hK K
            refine wpAny_take (i := 16) (v := ?_) rfl (by kernel_rfl) (by kernel_rfl) (by kernel_rfl) (fun _ _ _ h => h) (Or.inl ⟨by kernel_rfl, ?_⟩) ?_
            rotate_left
            · intro w; go_simp; try with_reducible rfl
            refine wpAny_put (fun K hK => ?_)
            go_simp
            refine hK _ _ ?_
            clear hK K
            refine wpAny_done (by kernel_rfl) ?_ _
            go_wp2_with fail
            go_roundw
            case rel => exact ⟨k + 1, by omega, by go_num, HF3⟩
            case measure => simp [intOf] <;> omega
          | true =>
            obtain ⟨v0, v1, v2, v3, v4⟩ := cells5 HF3.out.b0
            have x0 := pw_cell_below hb4 (show wr.drew.cell? _ = _ from z0)
            clear hb4
            refine wpAny_take (i := 4) (v := ?_) rfl (by kernel_rfl) (by kernel_rfl) (by kernel_rfl) (fun _ _ _ h => h) (Or.inl ⟨by kernel_rfl, ?_⟩) ?_
            rotate_left
            · intro w; go_simp; try with_reducible rfl
            refine wpAny_put (fun K hK => ?_)
            go_simp
            refine hK _ _ ?_
            clear hK K
            refine wpAny_take (i := 5) (v := ?_) rfl (by kernel_rfl) (by kernel_rfl) (by kernel_rfl) (fun _ _ _ h => h) (Or.inl ⟨by kernel_rfl, ?_⟩) ?_
            rotate_left
            · intro w; go_simp; try with_reducible rfl
            refine wpAny_put (fun K hK => ?_)
            go_simp
            refine hK _ _ ?_
            clear hK K
            refine wpAny_take (i := 7) (v := ?_) rfl (by kernel_rfl) (by kernel_rfl) (by kernel_rfl) (fun _ _ _ h => h) (Or.inl ⟨by kernel_rfl, ?_⟩) ?_
            rotate_left
            · intro w; go_simp; try with_reducible rfl
            refine wpAny_put (fun K hK => ?_)
            go_simp
            refine hK _ _ ?_
            clear hK K
            refine wpAny_take (i := 8) (v := ?_) rfl (by kernel_rfl) (by kernel_rfl) (by kernel_rfl) (fun _ _ _ h => h) (Or.inl ⟨by kernel_rfl, ?_⟩) ?_
            rotate_left
            · intro w; go_simp; try with_reducible rfl
            refine wpAny_put (fun K hK => ?_)
            go_simp
            refine hK _ _ ?_
            clear hK K
            refine wpAny_take (i := 9) (v := ?_) rfl (by kernel_rfl) (by kernel_rfl) (by kernel_rfl) (fun _ _ _ h => h) (Or.inl ⟨by kernel_rfl, ?_⟩) ?_
            rotate_left
            · intro w; go_simp; try with_reducible rfl
            refine wpAny_put (fun K hK => ?_)
            go_simp
            refine hK _ _ ?_
            clear hK K
            refine wpAny_take (i := 10) (v := ?_) rfl (by kernel_rfl) (by kernel_rfl) (by kernel_rfl) (fun _ _ _ h => h) (Or.inl ⟨by kernel_rfl, ?_⟩) ?_
            rotate_left
            · intro w; go_simp; try with_reducible rfl
            refine wpAny_put (fun K hK => ?_)
            go_simp
            refine hK _ _ ?_
            clear hK K
            refine wpAny_take (i := 11) (v := ?_) rfl (by kernel_rfl) (by kernel_rfl) (by kernel_rfl) (fun _ _ _ h => h) (Or.inl ⟨by kernel_rfl, ?_⟩) ?_
            rotate_left
            · intro w; go_simp; try with_reducible rfl
            refine wpAny_put (fun K hK => ?_)
            go_simp
            refine hK _ _ ?_
            clear hK K
            refine wpAny_take (i := 14) (v := ?_) rfl (by kernel_rfl) (by kernel_rfl) (by kernel_rfl) (fun _ _ _ h => h) (Or.inl ⟨by kernel_rfl, ?_⟩) ?_
            rotate_left
            · intro w; go_simp; try with_reducible rfl
            refine wpAny_put (fun K hK => ?_)
            go_simp
            refine hK _ _ ?_
            clear hK K
            refine wpAny_ready (rs := [6, 12]) (by kernel_rfl) (by simp) ?_
            refine AllReady.cons rfl (fun K hK => ?_) ?_
            · go_simp
              refine hK _ _ ?_
              clear hK K
              refine wpAny_ready (rs := [12]) (by kernel_rfl) (by simp) ?_
              refine AllReady.cons rfl (fun K hK => ?_) AllReady.nil
              go_simp
              refine hK _ _ ?_
              clear hK K
              refine wpAny_ready (rs := [13]) (by kernel_rfl) (by simp) ?_
              refine AllReady.cons rfl (fun K hK => ?_) AllReady.nil
              go_simp
              refine (HTk.out _ HF3.out.below).mono ?_
              rintro e5 w5 ⟨vt, rfl, hO, hb5⟩
              obtain ⟨At, ct, rfl, -, hC⟩ := hO.reads
              refine hK _ _ ?_
              clear hK K
              refine wpAny_ready (rs := [15]) (by kernel_rfl) (by simp) ?_
              refine AllReady.cons rfl (fun K hK => ?_) AllReady.nil
              go_simp
              refine (Has10_same _ _ _ _ _ hC).mono ?_
              rintro e6 w6 ⟨rfl, rfl⟩
              refine hK _ _ ?_
              clear hK K
              refine wpAny_take (i := 16) (v := ?_) rfl (by kernel_rfl) (by kernel_rfl) (by kernel_rfl) (fun _ _ _ h => h) (Or.inl ⟨by kernel_rfl, ?_⟩) ?_
              rotate_left
              · intro w; go_simp; try with_reducible rfl
              refine wpAny_put (fun K hK => ?_)
              go_simp
              refine hK _ _ ?_
              clear hK K
              refine wpAny_done (by kernel_rfl) ?_ _
              have HF4 := Aside0.mk (HF3.out.step hb5)
              clear hb5 HF3
              go_wp2_with fail
              all_goals first
                | (go_ret; exact ⟨_, HQ4.out, rfl, HF4.out.below⟩)
                | (go_roundw; (case rel => exact ⟨k + 1, by omega, by go_num, HF4⟩); (case measure => simp [intOf] <;> omega))
            refine AllReady.cons rfl (fun K hK => ?_) AllReady.nil
            go_simp
            refine hK _ _ ?_
            clear hK K
            refine wpAny_ready (rs := [6]) (by kernel_rfl) (by simp) ?_
            refine AllReady.cons rfl (fun K hK => ?_) AllReady.nil
            go_simp
            refine hK _ _ ?_
            clear hK K
            refine wpAny_ready (rs := [13]) (by kernel_rfl) (by simp) ?_
            refine AllReady.cons rfl (fun K hK => ?_) AllReady.nil
            go_simp
            refine (HTk.out _ HF3.out.below).mono ?_
            rintro e5 w5 ⟨vt, rfl, hO, hb5⟩
            obtain ⟨At, ct, rfl, -, hC⟩ := hO.reads
            refine hK _ _ ?_
            clear hK K
            refine wpAny_ready (rs := [15]) (by kernel_rfl) (by simp) ?_
            refine AllReady.cons rfl (fun K hK => ?_) AllReady.nil
            go_simp
            refine (Has10_same _ _ _ _ _ hC).mono ?_
            rintro e6 w6 ⟨rfl, rfl⟩
            refine hK _ _ ?_
            clear hK K
            refine wpAny_take (i := 16) (v := ?_) rfl (by kernel_rfl) (by kernel_rfl) (by kernel_rfl) (fun _ _ _ h => h) (Or.inl ⟨by kernel_rfl, ?_⟩) ?_
            rotate_left
            · intro w; go_simp; try with_reducible rfl
            refine wpAny_put (fun K hK => ?_)
            go_simp
            refine hK _ _ ?_
            clear hK K
            refine wpAny_done (by kernel_rfl) ?_ _
            have HF4 := Aside0.mk (HF3.out.step hb5)
            clear hb5 HF3
            go_wp2_with fail
            all_goals first
              | (go_ret; exact ⟨_, HQ4.out, rfl, HF4.out.below⟩)
              | (go_roundw; (case rel => exact ⟨k + 1, by omega, by go_num, HF4⟩); (case measure => simp [intOf] <;> omega))
        · go_wp2_with fail
          go_ret
          exact retQF HF2.out.below

end Go.Proofs.YtbahanlnkikpeaaGreat
