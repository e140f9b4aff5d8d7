import Derived.Deep.RegionHeld3
import Derived.Test.YtbahanlnkikpeaaGreatRef10a
namespace Go.Proofs.YtbahanlnkikpeaaGreat
open Go.RowKit Go.Proofs.YtbahanlnkikpeaaGreatW.PrintWords Go.Proofs.YtbahanlnkikpeaaGreatW.PrintLast
set_option linter.unusedVariables false
set_option linter.unusedSimpArgs false
set_option maxRecDepth 100000
set_option maxHeartbeats 8000000
def flag (inn : List Bool) (k : Nat) : Prop := inn.getD k false = true
def AskP (ps : List DPackage) (rs : List DRoot) (inn : List Bool) (x : Int) (b : Bool) : Prop := b = true ↔ Asked ps rs (flag inn) x
theorem asked_calls (w : World) (A : Option Addr) (c : Nat) (ps : List DPackage) (A2 : Option Addr) (n2 c2 : Nat) (B : Option Addr) (d : Nat) (rs : List DRoot) (C : Option Addr) (cc : Nat) (inn : List Bool) (x : Int)
    (h : Kd.C kPackage w A ps.length ps) (hps : ps.length < 1000000000000) (hr : Kd.C kRoot w B rs.length rs) (hi : Kd.C Kd.bool w C inn.length inn) (hl : inn.length = ps.length) :
   Calls Tryz.prog 38 #[.agg #[.slice A ps.length c, .slice A2 n2 c2], .agg #[.slice B rs.length d], .slice C ps.length cc, .int .i64 x] w (RetBool w (AskP ps rs inn x)) := by
  have m2 := Kd.C_max hr
  have H := Aside0.mk h
  have H2 := Aside0.mk hr
  have H3 := Aside0.mk hi
  have HL := Aside0.mk hl
  clear h hr hi hl
  go_enter Tryz.func38, Tryz.ntmps38
  go_wp2_with fail
  go_loopw [15] (fun i wr => ∃ k : Nat, k ≤ rs.length ∧ i = .int .i64 k ∧ Aside0 (∀ j, (hj : j < rs.length) → j < k → x ∉ targets ps rs[j].spec.name) ∧ Aside0 (Fr2 w 25 #[.slice A ps.length c, .slice A2 n2 c2] 28 #[.slice B rs.length d] wr)) (fun i _ => rs.length - (intOf i).toNat)
  case atStart => exact ⟨0, by omega, rfl, ⟨fun j _ hj => by omega⟩, ⟨Fr2.mk0 _ _ _ _ _⟩⟩
  case round =>
    obtain ⟨k, hk, rfl, hno, HF⟩ := hrel
    obtain ⟨x0, x1⟩ := cells2 HF.out.b0
    have p0 := cells1 HF.out.b1
    by_cases hlt : k < rs.length
    · obtain ⟨ad, e, y0⟩ := at_Root_spec_name (Kd.C_below H2.out HF.out.below) k hlt
      subst e
      have bk : (k : Int) < (rs.length : Int) := by omega
      go_upto_region 4 with (fail)
      go_cut [28] (fun z wc => z = .bool (hasI (targets ps rs[k].spec.name) x) ∧ Aside0 (Below wr.heap.size wr wc))
      case first =>
        go_region_held3 (fun w' => w'.cell? ⟨w.heap.size, 0, none⟩ = some (.slice A ps.length c) ∧ w'.cell? ⟨w.heap.size, 1, none⟩ = some (.slice A2 n2 c2) ∧ w'.cell? ⟨w.heap.size + 1, 0, none⟩ = some (.slice (some ad) rs.length d) ∧ w'.cell? (ad.add (k * 4)) = some (.string rs[k].spec.name))
          (first
            | go_keep
            | (go_split_ands
               refine ⟨?_, ?_, ?_, ?_⟩ <;> (apply pw_cell_below hb; assumption)))
          ((first | (go_at_call 57; refine (Targets_calls _ _ _ _ _ _ _ _ (Kd.C_below H.out ?cA) hps).mono ?_; (case cA => repeat (first | exact HF.out.below | apply below_drew | apply pw_below_drewN)); rintro e w1 ⟨v, rfl, hO, hb⟩; obtain ⟨Av, cv, rfl, -, hC⟩ := hO.reads) | (go_at_call 24; refine (Has10_same _ _ _ _ _ hC).mono ?_; rintro e w2 ⟨rfl, rfl⟩)))
        go_wp2_with fail
        go_meet
        case rel => exact ⟨rfl, ⟨below_step (below_drew (Below.refl _ _)) hb⟩⟩
      case rest =>
        obtain ⟨rfl, hb⟩ := hcut
        cases hq : hasI (targets ps rs[k].spec.name) x
        · have hq' : x ∉ targets ps rs[k].spec.name := fun h => by rw [hasI_iff.2 h] at hq; cases hq
          have HQ := Aside0.mk hq'
          clear hq hq'
          go_wp2_with fail
          go_roundw
          case rel => exact ⟨k + 1, by omega, by go_num, ⟨fun j hj hjk => by
            by_cases e : j = k
            · subst e; exact HQ.out
            · exact hno.out j hj (by omega)⟩, ⟨HF.out.step hb.out⟩⟩
          case measure => simp [intOf] <;> omega
        · have HQ := Aside0.mk (hasI_iff.1 hq)
          clear hq
          go_wp2_with fail
          go_ret
          exact ⟨true, ⟨fun _ => .inl ⟨_, List.getElem_mem hlt, HQ.out⟩, fun _ => rfl⟩, rfl, below_step HF.out.below hb.out⟩
    · have HR : Aside0 (∀ r ∈ rs, x ∉ targets ps r.spec.name) := ⟨fun r hr => by
        obtain ⟨j, hj, rfl⟩ := List.getElem_of_mem hr
        exact hno.out j hj (by omega)⟩
      go_wp2_with fail
      clear x0 x1 p0 hlt hk hno
      go_loopw [33] (fun i wr => ∃ k : Nat, k ≤ ps.length ∧ i = .int .i64 k ∧ Aside0 (∀ j, (hj : j < ps.length) → j < k → flag inn j → ∀ e ∈ ps[j].depends, x ∉ targets ps e.on_.name) ∧ Aside0 (Fr2 w 25 #[.slice A ps.length c, .slice A2 n2 c2] 28 #[.slice B rs.length d] wr)) (fun i _ => ps.length - (intOf i).toNat)
      case atStart => exact ⟨0, by omega, rfl, ⟨fun j _ hj => by omega⟩, HF⟩
      case round =>
        clear HF
        obtain ⟨k, hk, rfl, hno, HF⟩ := hrel
        obtain ⟨x0, x1⟩ := cells2 HF.out.b0
        by_cases hlt : k < ps.length
        · obtain ⟨ad, e, y0⟩ := at_boo (Kd.C_below H3.out HF.out.below) k (by rw [HL.out]; exact hlt)
          subst e
          have hkl : k < inn.length := by rw [HL.out]; exact hlt
          have bkl : (k : Int) < (inn.length : Int) := by omega
          have bk : (k : Int) < (ps.length : Int) := by omega
          cases hfl : inn[k]
          · have HFL : Aside0 (¬ flag inn k) := ⟨fun h => by unfold flag at h; rw [getD_at _ _ hkl, hfl] at h; cases h⟩
            rw [hfl] at y0
            clear hfl
            go_wp2_with fail
            go_roundw
            case rel => exact ⟨k + 1, by omega, by go_num, ⟨fun j hj hjk hf => by
              by_cases e : j = k
              · subst e; exact absurd hf HFL.out
              · exact hno.out j hj (by omega) hf⟩, HF⟩
            case measure => simp [intOf] <;> omega
          · have HFL : Aside0 (flag inn k) := ⟨by unfold flag; rw [getD_at _ _ hkl, hfl]⟩
            rw [hfl] at y0
            clear hfl
            obtain ⟨ad2, E5, f5, e, y5, l5, g5⟩ := at_Package_depends (Kd.C_below H.out HF.out.below) k hlt
            have m5 := Kd.C_max g5
            subst e
            clear l5 g5
            go_wp2_with fail
            obtain ⟨wo, rfl⟩ : ∃ wo : World, wo = wr := ⟨_, rfl⟩
            go_loopw [48] (fun i wr => ∃ j : Nat, j ≤ ps[k].depends.length ∧ i = .int .i64 j ∧ Aside0 (∀ n, (hn : n < ps[k].depends.length) → n < j → x ∉ targets ps ps[k].depends[n].on_.name) ∧ Aside0 (Below wo.heap.size wo wr)) (fun i _ => ps[k].depends.length - (intOf i).toNat)
            case atStart => exact ⟨0, by omega, rfl, ⟨fun j _ hj => by omega⟩, ⟨Below.refl _ _⟩⟩
            case round =>
              obtain ⟨j, hj, rfl, hno2, hb⟩ := hrel
              have HF2 := Aside0.mk (HF.out.step hb.out)
              obtain ⟨x0, x1⟩ := cells2 HF2.out.b0
              by_cases hjt : j < ps[k].depends.length
              · obtain ⟨ad3, E6, f6, e, z5, l6, g6⟩ := at_Package_depends (Kd.C_below H.out HF2.out.below) k hlt
                cases e
                obtain ⟨ad4, e, z6⟩ := at_Depend_on_name g6 j hjt
                subst e
                clear l6 g6 y0 y5
                have bj : (j : Int) < (ps[k].depends.length : Int) := by omega
                go_upto_region 14 with (fail)
                go_cut [65] (fun z wc => z = .bool (hasI (targets ps ps[k].depends[j].on_.name) x) ∧ Aside0 (Below wr.heap.size wr wc))
                case first =>
                  go_region_held3 (fun w' => w'.cell? ⟨w.heap.size, 0, none⟩ = some (.slice (some ad2) ps.length c) ∧ w'.cell? ⟨w.heap.size, 1, none⟩ = some (.slice A2 n2 c2) ∧ w'.cell? ⟨(ad2.add (k * 8)).block, (ad2.add (k * 8)).off + 5, none⟩ = some (.slice (some ad4) ps[k].depends.length f6) ∧ w'.cell? (ad4.add (j * 7)) = some (.string ps[k].depends[j].on_.name))
                    (first
                      | go_keep
                      | (go_split_ands
                         refine ⟨?_, ?_, ?_, ?_⟩ <;> (apply pw_cell_below hb; assumption)))
                    ((first | (go_at_call 57; refine (Targets_calls _ _ _ _ _ _ _ _ (Kd.C_below H.out ?cA) hps).mono ?_; (case cA => repeat (first | exact HF2.out.below | apply below_drew | apply pw_below_drewN)); clear hb; rintro e w1 ⟨v, rfl, hO, hb⟩; obtain ⟨Av, cv, rfl, -, hC⟩ := hO.reads) | (go_at_call 24; refine (Has10_same _ _ _ _ _ hC).mono ?_; rintro e w2 ⟨rfl, rfl⟩)))
                  go_wp2_with fail
                  go_meet
                  case rel => exact ⟨rfl, ⟨below_step (below_drew (Below.refl _ _)) hb⟩⟩
                case rest =>
                  obtain ⟨rfl, hb2⟩ := hcut
                  cases hq : hasI (targets ps ps[k].depends[j].on_.name) x
                  · have hq' : x ∉ targets ps ps[k].depends[j].on_.name := fun h => by rw [hasI_iff.2 h] at hq; cases hq
                    have HQ := Aside0.mk hq'
                    clear hq hq'
                    go_wp2_with fail
                    go_roundw
                    case rel => exact ⟨j + 1, by omega, by go_num, ⟨fun n hn hnk => by
                      by_cases e : n = j
                      · subst e; exact HQ.out
                      · exact hno2.out n hn (by omega)⟩, ⟨below_step hb.out hb2.out⟩⟩
                    case measure => simp [intOf] <;> omega
                  · have HQ := Aside0.mk (hasI_iff.1 hq)
                    clear hq
                    go_wp2_with fail
                    go_ret
                    exact ⟨true, ⟨fun _ => .inr ⟨k, hlt, HFL.out, _, List.getElem_mem hjt, HQ.out⟩, fun _ => rfl⟩, rfl, below_step HF2.out.below hb2.out⟩
              · go_wp2_with fail
                go_roundw
                case rel => exact ⟨k + 1, by omega, by go_num, ⟨fun n hn hnk hf => by
                  by_cases e : n = k
                  · subst e
                    intro e he
                    obtain ⟨i, hi, rfl⟩ := List.getElem_of_mem he
                    exact hno2.out i hi (by omega)
                  · exact hno.out n hn (by omega) hf⟩, HF2⟩
                case measure => simp [intOf] <;> omega
        · go_wp2_with fail
          go_ret
          refine ⟨false, ⟨(fun h => nomatch h), fun h => ?_⟩, rfl, HF.out.below⟩
          rcases h with ⟨r, hr, h⟩ | ⟨k', hk', hf, e, he, h⟩
          · exact absurd h (HR.out r hr)
          · exact absurd h (hno.out k' hk' (by omega) hf e he)

end Go.Proofs.YtbahanlnkikpeaaGreat
