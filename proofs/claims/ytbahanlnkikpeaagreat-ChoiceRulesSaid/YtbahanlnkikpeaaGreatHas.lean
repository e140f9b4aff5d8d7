import Derived.Test.YtbahanlnkikpeaaGreatBase
namespace Go.Proofs.YtbahanlnkikpeaaGreat
open Go.RowKit Go.Proofs.YtbahanlnkikpeaaGreatW.PrintWords Go.Proofs.YtbahanlnkikpeaaGreatW.PrintLast
set_option linter.unusedVariables false
set_option linter.unusedSimpArgs false
def hasS (l : List ByteArray) (s : ByteArray) : Bool := l.any (fun x => eqS x s)
theorem hasS_yes {l : List ByteArray} {s : ByteArray} {k : Nat} (hk : k < l.length) (h : (l[k].toList == s.toList) = true) : hasS l s = true :=
  List.any_eq_true.2 ⟨l[k], List.getElem_mem hk, h⟩
theorem hasS_no {l : List ByteArray} {s : ByteArray} (h : ∀ j, (hj : j < l.length) → eqS l[j] s = false) : hasS l s = false := by
  rw [hasS, List.any_eq_false]
  intro x hx
  obtain ⟨j, hj, rfl⟩ := List.getElem_of_mem hx
  rw [h j hj]
  simp
set_option maxRecDepth 100000 in
theorem Has_same (w : World) (A : Option Addr) (c : Nat) (l : List ByteArray) (s : ByteArray) (h : Kd.C Kd.string w A l.length l) :
   Calls Tryz.prog 100 #[.slice A l.length c, .string s] w (fun e w' => e = .returned (.bool (hasS l s)) ∧ w' = w) := by
  have hm := Kd.C_max h
  have H := Aside0.mk h
  clear h
  go_enter Tryz.func100, Tryz.ntmps100
  go_wp2
  go_loop [8] (fun i => ∃ k : Nat, k ≤ l.length ∧ i = .int .i64 k ∧ Aside0 (∀ j, (hj : j < l.length) → j < k → eqS l[j] s = false)) (fun i => l.length - (intOf i).toNat)
  case atStart => exact ⟨0, by omega, rfl, ⟨fun j _ hj => by omega⟩⟩
  case round =>
    obtain ⟨k, hk, rfl, hno⟩ := hrel
    by_cases hlt : k < l.length
    · obtain ⟨ad, e, h0⟩ := at_str H.out k hlt
      subst e
      go_wp2
      · have he : (l[k].toList == s.toList) = true := by assumption
        go_ret
        exact ⟨ret_bool (hasS_yes hlt he).symm, rfl⟩
      · have he : (l[k].toList == s.toList) = false := by assumption
        go_round
        case rel => exact ⟨k + 1, by omega, by go_num, ⟨fun j hj hjk => by
          by_cases e : j = k
          · subst e; exact he
          · exact hno.out j hj (by omega)⟩⟩
        case measure => simp [intOf]; omega
    · go_wp2
      go_ret
      exact ⟨ret_bool (hasS_no fun j hj => hno.out j hj (by omega)).symm, rfl⟩
theorem Has_calls (w : World) (A : Option Addr) (c : Nat) (l : List ByteArray) (s : ByteArray) (h : Kd.C Kd.string w A l.length l) :
   Calls Tryz.prog 100 #[.slice A l.length c, .string s] w (RetB w (.bool (hasS l s))) := by
  refine (Has_same w A c l s h).mono ?_
  rintro e w' ⟨rfl, rfl⟩
  exact ⟨rfl, Below.refl _ _⟩

end Go.Proofs.YtbahanlnkikpeaaGreat
