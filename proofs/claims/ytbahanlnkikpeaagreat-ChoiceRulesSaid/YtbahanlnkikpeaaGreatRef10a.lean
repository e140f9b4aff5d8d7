import Derived.StillTailTactics
import Derived.Deep.RegionHeld3
import Derived.Test.YtbahanlnkikpeaaGreatSpec
import Derived.Test.YtbahanlnkikpeaaGreatFr
namespace Go.Proofs.YtbahanlnkikpeaaGreat
open Go.RowKit Go.Proofs.YtbahanlnkikpeaaGreatW.PrintWords Go.Proofs.YtbahanlnkikpeaaGreatW.PrintLast
set_option linter.unusedVariables false
set_option linter.unusedSimpArgs false
set_option maxRecDepth 100000
set_option maxHeartbeats 8000000
theorem OwnI.lit1 (w : World) (B : Nat) (hB : B ≤ w.heap.size) (p : Int) : OwnI (w.alloc (.cells #[.int .i64 p] 3)) B (.slice (some ⟨w.heap.size, 0, none⟩) 1 1) [p] :=
  Kd.R_of_own (own_lit_of (enc := Value.int .i64) w B 3 [p] hB (by simp)) (fun _ _ => trivial)
theorem OwnI.lower {w : World} {B B' : Nat} {v : Value} {xs : List Int} (h : OwnI w B v xs) (hb : B' ≤ B) : OwnI w B' v xs := Kd.R_lower h hb
def hasI (l : List Int) (x : Int) : Bool := l.any (fun y => y == x)
theorem hasI_iff {l : List Int} {x : Int} : hasI l x = true ↔ x ∈ l := by
  unfold hasI
  rw [List.any_eq_true]
  exact ⟨fun ⟨y, hy, e⟩ => by rw [beq_iff_eq] at e; subst e; exact hy, fun h => ⟨x, h, by simp⟩⟩
theorem Has10_same (w : World) (A : Option Addr) (c : Nat) (l : List Int) (s : Int) (h : Kd.C (Kd.int .i64) w A l.length l) :
   Calls Tryz.prog 24 #[.slice A l.length c, .int .i64 s] w (fun e w' => e = .returned (.bool (hasI l s)) ∧ w' = w) := by
  have hm := Kd.C_max h
  have H := Aside0.mk h
  clear h
  go_enter Tryz.func24, Tryz.ntmps24
  go_wp2
  go_loop [8] (fun i => ∃ k : Nat, k ≤ l.length ∧ i = .int .i64 k ∧ Aside0 (∀ j, (hj : j < l.length) → j < k → (l[j] == s) = false)) (fun i => l.length - (intOf i).toNat)
  case atStart => exact ⟨0, by omega, rfl, ⟨fun j _ hj => by omega⟩⟩
  case round =>
    obtain ⟨k, hk, rfl, hno⟩ := hrel
    by_cases hlt : k < l.length
    · obtain ⟨ad, e, h0⟩ := at_i64 H.out k hlt
      subst e
      cases he : (l[k] == s)
      · have HE := Aside0.mk he
        go_wp2
        go_round
        case rel => exact ⟨k + 1, by omega, by go_num, ⟨fun j hj hjk => by
          by_cases e : j = k
          · subst e; exact HE.out
          · exact hno.out j hj (by omega)⟩⟩
        case measure => simp [intOf] <;> omega
      · have HE := Aside0.mk he
        go_wp2
        go_ret
        exact ⟨ret_bool (List.any_eq_true.2 ⟨l[k], List.getElem_mem hlt, HE.out⟩).symm, rfl⟩
    · go_wp2
      go_ret
      refine ⟨ret_bool (Eq.symm ?_), rfl⟩
      rw [hasI, List.any_eq_false]
      intro x hx
      obtain ⟨j, hj, rfl⟩ := List.getElem_of_mem hx
      rw [hno.out j hj (by omega)]
      simp
theorem Targets_calls (w : World) (A : Option Addr) (c : Nat) (ps : List DPackage) (A2 : Option Addr) (n2 c2 : Nat) (s : ByteArray) (h : Kd.C kPackage w A ps.length ps) (hps : ps.length < 1000000000000) :
   Calls Tryz.prog 57 #[.agg #[.slice A ps.length c, .slice A2 n2 c2], .string s] w (RetI w (targets ps s)) := by
  have H := Aside0.mk h
  clear h
  have HF := Aside0.mk (Fr1.mk0 w 25 #[.slice A ps.length c, .slice A2 n2 c2])
  have HT : Aside0 (targets ps s = if 0 ≤ findI ps s then [findI ps s] else prov ps s) := ⟨rfl⟩
  go_enter Tryz.func57, Tryz.ntmps57
  go_wp2_with fail
  refine (Find_calls _ _ _ _ _ _ _ _ (Kd.C_alloc H.out _)).mono ?_
  rintro e w1 ⟨rfl, hb⟩
  replace HF := Aside0.mk (HF.out.step hb)
  clear hb
  obtain ⟨x0, x1⟩ := cells2 HF.out.b0
  by_cases hf : 0 ≤ findI ps s
  · go_wp2_with fail
    go_ret
    refine ⟨_, rfl, ?_, below_alloc HF.out.below _⟩
    rw [HT.out, if_pos hf]
    exact OwnI.lit1 w1 _ HF.out.below.size _
  · go_wp2_with fail
    refine (Providers_calls _ _ _ _ _ _ _ _ (Kd.C_below H.out HF.out.below) hps).mono ?_
    rintro e w2 ⟨v, rfl, hO, hb⟩
    go_wp2_with fail
    go_ret
    refine ⟨_, rfl, ?_, below_step HF.out.below hb⟩
    rw [HT.out, if_neg (by omega)]
    exact hO.lower HF.out.below.size

end Go.Proofs.YtbahanlnkikpeaaGreat
