import Derived.Test.YtbahanlnkikpeaaGreatCloG
import Derived.Test.YtbahanlnkikpeaaGreatCloneG
namespace Go.Proofs.YtbahanlnkikpeaaGreat
open Go.RowKit Go.Proofs.YtbahanlnkikpeaaGreatW.PrintWords Go.Proofs.YtbahanlnkikpeaaGreatW.PrintLast
set_option linter.unusedVariables false
set_option linter.unusedSimpArgs false
set_option maxRecDepth 100000
set_option maxHeartbeats 2000000
/-! The ground: seven cells, behind a pointer. -/
def GroundAt (w : World) (g : Nat) (A : Option Addr) (n c : Nat) (A2 : Option Addr) (n2 c2 : Nat) (B : Option Addr) (nB d : Nat) (Ai : Option Addr) (nI cI : Nat) (Ar : Option Addr) (nR cR : Nat) (tb bb : Value) : Prop :=
  w.heap[g]? = some (.cells #[.slice A n c, .slice A2 n2 c2, .slice B nB d, .slice Ai nI cI, .slice Ar nR cR, tb, bb] 91 (0, 0))
theorem Places_calls (w : World) (g : Nat) {A : Option Addr} {n c : Nat} {A2 : Option Addr} {n2 c2 : Nat} {B : Option Addr} {nB d : Nat} {Ai : Option Addr} {cI : Nat} {Ar : Option Addr} {nR cR : Nat} {tb bb : Value} (xs : List Int)
    (h : GroundAt w g A n c A2 n2 c2 B nB d Ai xs.length cI Ar nR cR tb bb) (hx : Kd.C (Kd.int .i64) w Ai xs.length xs) (hl : xs.length < 1000000000000) :
   Calls Tryz.prog 26 #[.pointer (some ⟨g, 0, none⟩)] w (RetI w xs) := by
  have H := Aside0.mk hx
  clear hx
  obtain ⟨x0, x1, x2, x3, x4, x5, x6⟩ := cells7 h
  clear h
  go_enter Tryz.func26, Tryz.ntmps26
  go_wp2_with fail
  refine (CloneI_calls _ _ _ _ H.out hl).mono ?_
  rintro e w1 ⟨v, rfl, hO, hb⟩
  go_wp2_with fail
  go_ret
  exact ⟨_, rfl, hO, hb⟩
theorem RulesOf_calls (w : World) (g : Nat) {A : Option Addr} {n c : Nat} {A2 : Option Addr} {n2 c2 : Nat} {B : Option Addr} {nB d : Nat} {Ai : Option Addr} {nI cI : Nat} {Ar : Option Addr} {cR : Nat} {tb bb : Value} (xs : List DRule)
    (h : GroundAt w g A n c A2 n2 c2 B nB d Ai nI cI Ar xs.length cR tb bb) (hx : Kd.C kRule w Ar xs.length xs) (hl : xs.length < 1000000000000) :
   Calls Tryz.prog 10 #[.pointer (some ⟨g, 0, none⟩)] w (fun e w' => ∃ v, e = .returned v ∧ OwnRl w' w.heap.size v xs ∧ Below w.heap.size w w') := by
  have H := Aside0.mk hx
  clear hx
  obtain ⟨x0, x1, x2, x3, x4, x5, x6⟩ := cells7 h
  clear h
  go_enter Tryz.func10, Tryz.ntmps10
  go_wp2_with fail
  refine (CloneRl_calls _ _ _ _ H.out hl).mono ?_
  rintro e w1 ⟨v, rfl, hO, hb⟩
  go_wp2_with fail
  go_ret
  exact ⟨_, rfl, hO, hb⟩
theorem HasG_same (w : World) (g : Nat) {A : Option Addr} {n c : Nat} {A2 : Option Addr} {n2 c2 : Nat} {B : Option Addr} {nB d : Nat} {Ai : Option Addr} {cI : Nat} {Ar : Option Addr} {nR cR : Nat} {tb bb : Value} (xs : List Int) (p : Int)
    (h : GroundAt w g A n c A2 n2 c2 B nB d Ai xs.length cI Ar nR cR tb bb) (hx : Kd.C (Kd.int .i64) w Ai xs.length xs) :
   Calls Tryz.prog 23 #[.pointer (some ⟨g, 0, none⟩), .int .i64 p] w (fun e w' => e = .returned (.bool (hasI xs p)) ∧ w' = w) := by
  have H := Aside0.mk hx
  clear hx
  obtain ⟨x0, x1, x2, x3, x4, x5, x6⟩ := cells7 h
  clear h
  go_enter Tryz.func23, Tryz.ntmps23
  go_wp2_with fail
  refine (ContainsI_same _ _ _ _ _ H.out).mono ?_
  rintro e w1 ⟨rfl, rfl⟩
  go_wp2_with fail
  go_ret
  exact ⟨rfl, rfl⟩
theorem TableG_same (w : World) (g : Nat) {A : Option Addr} {n c : Nat} {A2 : Option Addr} {n2 c2 : Nat} {B : Option Addr} {nB d : Nat} {Ai : Option Addr} {nI cI : Nat} {Ar : Option Addr} {nR cR : Nat} {tb bb : Value}
    (h : GroundAt w g A n c A2 n2 c2 B nB d Ai nI cI Ar nR cR tb bb) :
   Calls Tryz.prog 18 #[.pointer (some ⟨g, 0, none⟩)] w (fun e w' => e = .returned tb ∧ w' = w) := by
  obtain ⟨x0, x1, x2, x3, x4, x5, x6⟩ := cells7 h
  clear h
  go_enter Tryz.func18, Tryz.ntmps18
  go_wp2_with fail
  go_ret
  exact ⟨rfl, rfl⟩
theorem BuilderG_same (w : World) (g : Nat) {A : Option Addr} {n c : Nat} {A2 : Option Addr} {n2 c2 : Nat} {B : Option Addr} {nB d : Nat} {Ai : Option Addr} {nI cI : Nat} {Ar : Option Addr} {nR cR : Nat} {tb bb : Value}
    (h : GroundAt w g A n c A2 n2 c2 B nB d Ai nI cI Ar nR cR tb bb) :
   Calls Tryz.prog 15 #[.pointer (some ⟨g, 0, none⟩)] w (fun e w' => e = .returned bb ∧ w' = w) := by
  obtain ⟨x0, x1, x2, x3, x4, x5, x6⟩ := cells7 h
  clear h
  go_enter Tryz.func15, Tryz.ntmps15
  go_wp2_with fail
  go_ret
  exact ⟨rfl, rfl⟩
theorem RecipeG_calls (w : World) (g : Nat) {A : Option Addr} {n c : Nat} {A2 : Option Addr} {n2 c2 : Nat} {B : Option Addr} {nB d : Nat} {Ai : Option Addr} {nI cI : Nat} {Ar : Option Addr} {nR cR : Nat} {tb bb : Value}
    (h : GroundAt w g A n c A2 n2 c2 B nB d Ai nI cI Ar nR cR tb bb) :
   Calls Tryz.prog 28 #[.pointer (some ⟨g, 0, none⟩)] w (RetB w (.agg #[.slice A n c, .slice A2 n2 c2])) := by
  obtain ⟨x0, x1, x2, x3, x4, x5, x6⟩ := cells7 h
  have hlt : g < w.heap.size := blk_lt h
  clear h
  go_enter Tryz.func28, Tryz.ntmps28
  go_wp2_with fail
  refine bodyPost_ret (v := .agg #[.slice A n c, .slice A2 n2 c2]) (by simp [results, Tryz.results28, go_sem]) rfl ?_
  exact ⟨rfl, below_alloc (Below.refl _ _) _⟩
theorem RequestG_calls (w : World) (g : Nat) {A : Option Addr} {n c : Nat} {A2 : Option Addr} {n2 c2 : Nat} {B : Option Addr} {nB d : Nat} {Ai : Option Addr} {nI cI : Nat} {Ar : Option Addr} {nR cR : Nat} {tb bb : Value}
    (h : GroundAt w g A n c A2 n2 c2 B nB d Ai nI cI Ar nR cR tb bb) :
   Calls Tryz.prog 27 #[.pointer (some ⟨g, 0, none⟩)] w (RetB w (.agg #[.slice B nB d])) := by
  obtain ⟨x0, x1, x2, x3, x4, x5, x6⟩ := cells7 h
  have hlt : g < w.heap.size := blk_lt h
  clear h
  go_enter Tryz.func27, Tryz.ntmps27
  go_wp2_with fail
  refine bodyPost_ret (v := .agg #[.slice B nB d]) (by simp [results, Tryz.results27, go_sem]) rfl ?_
  exact ⟨rfl, below_alloc (Below.refl _ _) _⟩

end Go.Proofs.YtbahanlnkikpeaaGreat
