import Derived.Test.YtbahanlnkikpeaaGreatGreat7
namespace Go.Proofs.YtbahanlnkikpeaaGreat
open Go.RowKit Go.Proofs.YtbahanlnkikpeaaGreatW.PrintWords Go.Proofs.YtbahanlnkikpeaaGreatW.PrintLast
set_option linter.unusedVariables false
set_option linter.unusedSimpArgs false
set_option maxRecDepth 100000
set_option maxHeartbeats 8000000
def SzR (ps : List DPackage) : Prop := ∀ p ∈ ps, SzP p
def RcP (ps : List DPackage) (b : Bool) : Prop := b = false → SzR ps
theorem retRc {ps : List DPackage} {w w1 : World} (h : Below w.heap.size w w1) : RetBool w (RcP ps) (.returned (.bool true)) w1 := ⟨true, (fun h => nomatch h), rfl, h⟩
theorem ref7Great_any (w : World) (A : Option Addr) (c : Nat) (ps : List DPackage) (A2 : Option Addr) (c2 : Nat) (fs : List DPrefer) (h : Kd.C kPackage w A ps.length ps) (h2 : Kd.C kPrefer w A2 fs.length fs) :
   Calls Tryz.prog 29 #[.agg #[.slice A ps.length c, .slice A2 fs.length c2]] w (RetBool w (RcP ps)) := by
  have hm := Kd.C_max h
  have hm2 := Kd.C_max h2
  have H := Aside0.mk h
  have H2 := Aside0.mk h2
  clear h h2
  go_enter Tryz.func29, Tryz.ntmps29
  go_upto_region 1 with (fail)
  go_cut [14] (fun v wc => ∃ b : Bool, v = .bool b ∧ Aside0 (Below w.heap.size w wc) ∧ Aside0 (wc.heap[w.heap.size]? = some (.cells #[.slice A ps.length c, .slice A2 fs.length c2] 25 (0, 0))))
  case first =>
    go_wp2_with fail
    all_goals
      go_meet
      case rel => exact ⟨_, rfl, ⟨below_alloc (Below.refl _ _) _⟩, ⟨blk_new _ _⟩⟩
  case rest =>
    obtain ⟨b, rfl, HB, BK⟩ := hcut
    have z0 : wc.cell? ⟨w.heap.size, 0, none⟩ = some (.slice A ps.length c) := blk_cell BK.out 0
    cases b
    · go_wp2
      go_loopw [18] (fun i wr => ∃ k : Nat, k ≤ ps.length ∧ i = .int .i64 k ∧ Aside0 (∀ j, (hj : j < ps.length) → j < k → SzP ps[j]) ∧ Aside0 (Below w.heap.size w wr) ∧ Aside0 (wr.heap[w.heap.size]? = some (.cells #[.slice A ps.length c, .slice A2 fs.length c2] 25 (0, 0)))) (fun i _ => ps.length - (intOf i).toNat)
      case atStart => exact ⟨0, by omega, rfl, ⟨fun j _ hj => by omega⟩, HB, BK⟩
      case round =>
        clear z0 HB BK
        obtain ⟨k, hk, rfl, hno, HB, BK⟩ := hrel
        have z0 : wr.cell? ⟨w.heap.size, 0, none⟩ = some (.slice A ps.length c) := blk_cell BK.out 0
        have z1 : wr.cell? ⟨w.heap.size, 1, none⟩ = some (.slice A2 fs.length c2) := blk_cell BK.out 1
        by_cases hlt : k < ps.length
        · obtain ⟨ad, A2', c2', A3, c3, A4, c4, A5, c5, A6, c6, A7, c7, e, h0, h1, h2, h3, h4, h5, h6, h7, hK⟩ := at_Package_K (Kd.C_below H.out HB.out) k hlt
          subst e
          have HK := Aside0.mk hK
          clear hK
          go_wp2_with fail
          refine (greatPackage_any _ _ _ HK.out).mono ?_
          rintro e w1 ⟨b, hq, rfl, hb⟩
          have HQ := Aside0.mk hq
          clear hq
          cases b
          · go_wp2_with fail
            go_roundw
            case rel => exact ⟨k + 1, by omega, by go_num, ⟨fun j hj hjk => by
              by_cases e : j = k
              · subst e; exact HQ.out rfl
              · exact hno.out j hj (by omega)⟩, ⟨below_step HB.out hb⟩, ⟨blk_below BK.out hb⟩⟩
            case measure => simp [intOf] <;> omega
          · go_wp2_with fail
            go_ret
            exact retRc (below_step HB.out hb)
        · have HZ : Aside0 (SzR ps) := ⟨fun y hy => by
            obtain ⟨j, hj, rfl⟩ := List.getElem_of_mem hy
            exact hno.out j hj (by omega)⟩
          go_wp2_with fail
          clear hlt hk z0 z1
          go_loopw [31] (fun i wr => ∃ k : Nat, k ≤ fs.length ∧ i = .int .i64 k ∧ Aside0 (Below w.heap.size w wr) ∧ Aside0 (wr.heap[w.heap.size]? = some (.cells #[.slice A ps.length c, .slice A2 fs.length c2] 25 (0, 0)))) (fun i _ => fs.length - (intOf i).toNat)
          case atStart => exact ⟨0, by omega, rfl, HB, BK⟩
          case round =>
            clear HB BK
            obtain ⟨k, hk, rfl, HB, BK⟩ := hrel
            have z1 : wr.cell? ⟨w.heap.size, 1, none⟩ = some (.slice A2 fs.length c2) := blk_cell BK.out 1
            by_cases hlt : k < fs.length
            · obtain ⟨ad, A1, c1, e, h0, h1, h2, hl, hC⟩ := at_Prefer (Kd.C_below H2.out HB.out) k hlt
              subst e
              have HC := Aside0.mk hC
              clear hC
              go_wp2_with (first | (go_at_call 49; refine (greatTexts_any _ _ _ _ HC.out).mono ?_; rintro e w' ⟨b, -, rfl, hb⟩; cases b))
              · go_roundw
                case rel => exact ⟨k + 1, by omega, by go_num, ⟨below_step HB.out hb⟩, ⟨blk_below BK.out hb⟩⟩
                case measure => simp [intOf] <;> omega
              · go_ret
                exact retRc (below_step HB.out hb)
              · go_ret
                exact retRc HB.out
            · go_wp2_with fail
              go_ret
              exact ⟨_, fun _ => HZ.out, rfl, HB.out⟩
    · go_wp2
      go_ret
      exact retRc HB.out
theorem GreatSpec_K (w : World) (x : DSpec) (cs : List Value) (h : kSpec.K w x cs) :
   Calls Tryz.prog 50 #[.agg cs.toArray] w (RetBool w Any) := by
  obtain ⟨A1, c1, A2, c2, rfl, l1, g1, l2, g2⟩ := kSpec_open h
  exact GreatSpec_any w x A1 A2 c1 c2 g1 g2
theorem ref8Great_any (w : World) (A : Option Addr) (c : Nat) (rs : List DRoot) (h : Kd.C kRoot w A rs.length rs) :
   Calls Tryz.prog 30 #[.agg #[.slice A rs.length c]] w (RetBool w Any) := by
  have hm := Kd.C_max h
  have H := Aside0.mk h
  clear h
  by_cases h40 : 40 < rs.length
  · go_enter Tryz.func30, Tryz.ntmps30
    go_wp2
    go_ret
    exact retAny (below_alloc (Below.refl _ _) _)
  · have h40' : decide (40 < rs.length) = false := decide_eq_false h40
    go_enter Tryz.func30, Tryz.ntmps30
    go_wp2
    go_loopw [11] (fun i wr => ∃ k : Nat, k ≤ rs.length ∧ i = .int .i64 k ∧ Aside0 (Below w.heap.size w wr) ∧ Aside0 (wr.heap[w.heap.size]? = some (.cells #[.slice A rs.length c] 28 (0, 0)))) (fun i _ => rs.length - (intOf i).toNat)
    case atStart => exact ⟨0, by omega, rfl, ⟨below_alloc (Below.refl _ _) _⟩, ⟨blk_new _ _⟩⟩
    case round =>
      obtain ⟨k, hk, rfl, HB, BK⟩ := hrel
      have z0 : wr.cell? ⟨w.heap.size, 0, none⟩ = some (.slice A rs.length c) := blk_cell BK.out 0
      by_cases hlt : k < rs.length
      · obtain ⟨ad, A1, c1, A2, c2, e, h0, h1, h2, h3, l1, g1, l2, g2⟩ := at_Root (Kd.C_below H.out HB.out) k hlt
        subst e
        have S1 := Aside0.mk (kSpec_mk wr rs[k].spec l1 g1 l2 g2)
        clear l1 g1 l2 g2
        go_wp2_with fail
        refine (GreatSpec_K _ _ _ S1.out).mono ?_
        rintro e w1 ⟨b, -, rfl, hb⟩
        cases b
        · go_wp2_with fail
          go_roundw
          case rel => exact ⟨k + 1, by omega, by go_num, ⟨below_step HB.out hb⟩, ⟨blk_below BK.out hb⟩⟩
          case measure => simp [intOf] <;> omega
        · go_wp2_with fail
          go_ret
          exact retAny (below_step HB.out hb)
      · go_wp2_with fail
        go_ret
        exact retAny HB.out

end Go.Proofs.YtbahanlnkikpeaaGreat
