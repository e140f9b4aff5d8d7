import Derived.Test.YtbahanlnkikpeaaGreatRec9a
namespace Go.Proofs.YtbahanlnkikpeaaGreat
open Go.RowKit Go.Proofs.YtbahanlnkikpeaaGreatW.PrintWords Go.Proofs.YtbahanlnkikpeaaGreatW.PrintLast
set_option linter.unusedVariables false
set_option linter.unusedSimpArgs false
set_option maxRecDepth 100000
set_option maxHeartbeats 8000000
theorem settings_any (w : World) (x : DPackage) (cs : List Value) (h : kPackage.K w x cs) (A : Option Addr) (c : Nat) (l : List DSetting) (hl : Kd.C kSetting w A l.length l) :
   Calls Tryz.prog 99 #[.agg cs.toArray, .slice A l.length c] w (RetBool w Any) := by
  obtain ⟨A2, c2, A3, c3, A4, c4, A5, c5, A6, c6, A7, c7, rfl, -, -, -, g3, -, -, -, -, -, -, -, -⟩ := kPackage_open h
  have m3 := Kd.C_max g3
  have ml := Kd.C_max hl
  have H3 := Aside0.mk g3
  have HL := Aside0.mk hl
  clear h g3 hl
  go_enter Tryz.func99, Tryz.ntmps99
  go_wp2
  go_loopw [10] (fun i wr => ∃ k : Nat, k ≤ l.length ∧ i = .int .i64 k ∧ Aside0 (Below w.heap.size w wr) ∧ Aside0 (wr.heap[w.heap.size]? = some (.cells #[.string x.name, .int .i64 x.line, .slice A2 x.releases.length c2, .slice A3 x.variants.length c3, .slice A4 x.provides.length c4, .slice A5 x.depends.length c5, .slice A6 x.conflicts.length c6, .slice A7 x.files.length c7] 43 (0, 0)))) (fun i _ => l.length - (intOf i).toNat)
  case atStart => exact ⟨0, by omega, rfl, ⟨below_alloc (Below.refl _ _) _⟩, ⟨blk_new _ _⟩⟩
  case round =>
    obtain ⟨k, hk, rfl, HB, BK⟩ := hrel
    have z3 : wr.cell? ⟨w.heap.size, 3, none⟩ = some (.slice A3 x.variants.length c3) := blk_cell BK.out 3
    by_cases hlt : k < l.length
    · go_wp2
      obtain ⟨wo, rfl⟩ : ∃ wo : World, wo = wr := ⟨_, rfl⟩
      go_loopw [6, 16] (fun f i wq => ∃ (b : Bool) (j : Nat), j ≤ x.variants.length ∧ i = .int .i64 j ∧ f = .bool b ∧ Aside0 (Below wo.heap.size wo wq)) (fun _ i _ => x.variants.length - (intOf i).toNat)
      case atStart => exact ⟨false, 0, by omega, rfl, rfl, ⟨Below.refl _ _⟩⟩
      case round =>
        obtain ⟨b, j, hj, rfl, rfl, hb⟩ := hrel
        have y3 := pw_cell_below hb.out z3
        by_cases hjt : j < x.variants.length
        · obtain ⟨ad, e, h0, h1⟩ := at_Setting (Kd.C_below HL.out (below_step HB.out hb.out)) k hlt
          obtain ⟨ad2, B1, d1, e2, v0, v1, l1, g1⟩ := at_Variant (Kd.C_below H3.out (below_step HB.out hb.out)) j hjt
          have G1 := Aside0.mk g1
          clear g1
          cases e
          cases e2
          have bk : (k : Int) < (l.length : Int) := by omega
          have bj : (j : Int) < (x.variants.length : Int) := by omega
          cases b
          · cases hq : (x.variants[j].name.toList == l[k].name.toList)
            · go_wp2
              go_quiet (fail)
              go_wp2
              go_roundw
              case rel => exact ⟨_, j + 1, by omega, by go_num, rfl, ⟨pw_below_drewN hb.out _⟩⟩
              case measure => simp [intOf] <;> omega
            · go_wp2
              go_quiet ((go_at_call 100; exact Calls.quiet_of_same (Has_same _ _ _ _ _ G1.out)))
              go_wp2
              go_roundw
              case rel => exact ⟨_, j + 1, by omega, by go_num, rfl, ⟨pw_below_drewN hb.out _⟩⟩
              case measure => simp [intOf] <;> omega
          · go_wp2
            go_quiet (fail)
            go_wp2
            go_roundw
            case rel => exact ⟨_, j + 1, by omega, by go_num, rfl, ⟨pw_below_drewN hb.out _⟩⟩
            case measure => simp [intOf] <;> omega
        · cases b
          · go_wp2
            go_ret
            exact retAny (below_step HB.out hb.out)
          · go_wp2
            go_roundw
            case rel => exact ⟨k + 1, by omega, by go_num, ⟨below_step HB.out hb.out⟩, ⟨blk_below BK.out hb.out⟩⟩
            case measure => simp [intOf] <;> omega
    · go_wp2
      go_ret
      exact retAny HB.out
theorem Virtual_any (w : World) (A : Option Addr) (c : Nat) (ps : List DPackage) (A2 : Option Addr) (n2 c2 : Nat) (s : ByteArray) (h : Kd.C kPackage w A ps.length ps) (hps : ps.length < 1000000000000) :
   Calls Tryz.prog 90 #[.agg #[.slice A ps.length c, .slice A2 n2 c2], .string s] w (RetBool w Any) := by
  have H := Aside0.mk h
  clear h
  go_enter Tryz.func90, Tryz.ntmps90
  go_wp2_with fail
  refine (Find_calls _ _ _ _ _ _ _ _ (Kd.C_alloc H.out _)).mono ?_
  rintro e w1 ⟨rfl, hb⟩
  have HB := Aside0.mk (below_then (below_alloc (Below.refl _ _) _) (by simp) hb)
  have y0 : w1.cell? ⟨w.heap.size, 0, none⟩ = some (.slice A ps.length c) := blk_cell (blk_below (blk_new w _) hb) 0
  have y1 : w1.cell? ⟨w.heap.size, 1, none⟩ = some (.slice A2 n2 c2) := blk_cell (blk_below (blk_new w _) hb) 1
  by_cases hf : findI ps s < 0
  · go_wp2_with fail
    refine (Providers_calls _ _ _ _ _ _ _ _ (Kd.C_below H.out HB.out) hps).mono ?_
    rintro e w2 ⟨v, rfl, hO, hb2⟩
    obtain ⟨A', c', rfl, hc', hC⟩ := hO.reads
    go_wp2_with fail
    go_ret
    exact retAny (below_step HB.out hb2)
  · have hf' : decide (findI ps s < 0) = false := decide_eq_false hf
    go_wp2_with fail
    go_ret
    exact retAny HB.out

end Go.Proofs.YtbahanlnkikpeaaGreat
