import Derived.Test.YtbahanlnkikpeaaGreatRules
import Derived.Test.YtbahanlnkikpeaaGreatCont1
namespace Go.Proofs.YtbahanlnkikpeaaGreat
open Go.RowKit Go.Proofs.YtbahanlnkikpeaaGreatW.PrintWords Go.Proofs.YtbahanlnkikpeaaGreatW.PrintLast
set_option linter.unusedVariables false
set_option linter.unusedSimpArgs false
set_option maxRecDepth 100000
set_option maxHeartbeats 2000000
section
variable {ops : Array Oper} {rest : List Oper} {o : Oper} {a : Act} {Q : Exit → Act → World → Prop}
theorem app_rule_at {w0 W : World} (base : Nat) (hgd : o.guard = none) (s x : Operand) (ho : o.op = .call { callee := .builtin .append, args := #[s, x], argTypes := #[31, 31] })
    (n : Nat) (v : Value) (xs : List DRule) (p : DRule) (hs : a.eval s = v) (hx : a.eval x = .slice (some ⟨n, 0, none⟩) 1 1) (hn : n = W.heap.size) (HO : OwnRl W base v xs) (HB : Below base w0 W) (hbase : base ≤ W.heap.size) (hl : xs.length < 1000000000000)
    (h : ∀ v1 w1, OwnRl w1 base v1 (xs ++ [p]) → Below base w0 w1 → W.grownBy w1 v.ownBlock → wpList Tryz.prog ops Q rest (a.put o.dst v1) w1) :
    wpList Tryz.prog ops Q (o :: rest) a (W.alloc (.cells (ruleCells p).toArray 45)) := by
  subst hn
  exact app_rule base hgd s x ho v xs p hs hx HO HB hbase hl h
end
theorem size_alloc1 (w : World) (b : Obj) : w.heap.size + 1 = (w.alloc b).heap.size := (World.size_alloc w b).symm
theorem OwnRl.nil (w : World) (B : Nat) : OwnRl w B (.slice none 0 0) [] := Kd.R_nil _ _ _ _ _
theorem rulesG_calls (w : World) (A : Option Addr) (c : Nat) (ps : List DPackage) (A2 : Option Addr) (n2 c2 : Nat) (B : Option Addr) (d : Nat) (rs : List DRoot) (Al : Option Addr) (cl : Nat)
    (h : Kd.C kPackage w A ps.length ps) (hr : Kd.C kRoot w B rs.length rs) (hl : Kd.C (Kd.int .i64) w Al (clo ps rs).length (clo ps rs)) (hs : Small ps rs) :
   Calls Tryz.prog 34 #[.agg #[.slice A ps.length c, .slice A2 n2 c2], .agg #[.slice B rs.length d], .slice Al (clo ps rs).length cl] w (fun e w' => ∃ v, e = .returned v ∧ OwnRl w' w.heap.size v (rulesOf ps rs) ∧ Below w.heap.size w w') := by
  have hps := hs.n
  have hrs := hs.rq
  have hcl := clo_len ps rs
  have HSm := Aside0.mk hs
  have H := Aside0.mk h
  have H2 := Aside0.mk hr
  have H3 := Aside0.mk hl
  clear h hr hs hl
  go_enter Tryz.func34, Tryz.ntmps34
  go_wp2_with fail
  go_loopw [7, 19] (fun v i wr => ∃ k : Nat, k ≤ rs.length ∧ i = .int .i64 k ∧ Aside0 (OwnRl wr w.heap.size v ((rs.take k).mapIdx rootRule)) ∧ Aside0 (Fr2 w 25 #[.slice A ps.length c, .slice A2 n2 c2] 28 #[.slice B rs.length d] wr)) (fun _ i _ => rs.length - (intOf i).toNat)
  case atStart => exact ⟨0, by omega, rfl, ⟨OwnRl.nil _ _⟩, ⟨Fr2.mk0 _ _ _ _ _⟩⟩
  case round =>
    obtain ⟨k, hk, rfl, HO, HF⟩ := hrel
    by_cases hlt : k < rs.length
    · obtain ⟨ad, A1, c1, A2', c2', e, y0, y1, y2, y3, -⟩ := at_Root (Kd.C_below H2.out HF.out.below) k hlt
      subst e
      have hsucc := Aside0.mk (mapIdx_take_succ (f := rootRule) hlt)
      have hlen : ((rs.take k).mapIdx rootRule).length < 1000000000000 := by rw [List.length_mapIdx, List.length_take]; omega
      have HO1 := Aside0.mk (HO.out.below (below_alloc (Below.refl _ _) (.cells #[.string rs[k].spec.name, .slice A1 rs[k].spec.spans.length c1, .slice A2' rs[k].spec.settings.length c2', .int .i64 rs[k].line] 51)))
      have HF1 := Aside0.mk (HF.out.alloc (.cells #[.string rs[k].spec.name, .slice A1 rs[k].spec.spans.length c1, .slice A2' rs[k].spec.settings.length c2', .int .i64 rs[k].line] 51))
      go_wp2_with (first | (at_builtin; refine app_rule_at (w0 := w) w.heap.size rfl (.tmp 24) (.tmp 29) rfl _ _ ((rs.take k).mapIdx rootRule) (rootRule k rs[k]) rfl rfl (size_alloc1 _ _) HO1.out HF1.out.below HF1.out.below.size hlen ?_; intro v1 w2 hO hB hg))
      go_roundw
      case rel => exact ⟨k + 1, by omega, by go_num, ⟨by rw [hsucc.out]; exact hO⟩, ⟨hB, HO1.out.other hg HF1.out.b0 (by decide), HO1.out.other hg HF1.out.b1 (by decide)⟩⟩
      case measure => simp [intOf] <;> omega
    · have hkn : Aside0 ((rs.take k).mapIdx rootRule = rs.mapIdx rootRule) := ⟨by rw [List.take_of_length_le (by omega)]⟩
      rw [hkn.out] at HO
      go_wp2_with fail
      clear hlt hk hkn
      go_loopw [7, 34] (fun v i wr => ∃ k : Nat, k ≤ (clo ps rs).length ∧ i = .int .i64 k ∧ Aside0 (OwnRl wr w.heap.size v (rs.mapIdx rootRule ++ ((cloN ps rs).take k).flatMap (pkgRules ps))) ∧ Aside0 (Fr2 w 25 #[.slice A ps.length c, .slice A2 n2 c2] 28 #[.slice B rs.length d] wr)) (fun _ i _ => (clo ps rs).length - (intOf i).toNat)
      case atStart => exact ⟨0, by omega, rfl, ⟨by simpa using HO.out⟩, HF⟩
      case round =>
        clear HO HF
        obtain ⟨k, hk, rfl, HO, HF⟩ := hrel
        obtain ⟨x0, x1⟩ := cells2 HF.out.b0
        by_cases hlt : k < (clo ps rs).length
        · have hkn : k < (cloN ps rs).length := by have : (clo ps rs).length = (cloN ps rs).length := by unfold clo; rw [List.length_map]
                                                   omega
          obtain ⟨q, hq⟩ : ∃ q, q = (cloN ps rs)[k] := ⟨_, rfl⟩
          have HQ : Aside0 ((clo ps rs)[k] = (q : Int)) := ⟨by subst hq; simp [clo]⟩
          have hql : q < ps.length := by rw [hq]; exact rch_lt (mem_cloN.1 (List.getElem_mem hkn))
          have hsuccK : Aside0 (((cloN ps rs).take (k + 1)).flatMap (pkgRules ps) = ((cloN ps rs).take k).flatMap (pkgRules ps) ++ (ps[q].depends.mapIdx (depRule q) ++ ps[q].conflicts.mapIdx (conRule q))) := ⟨by rw [flatMap_take_succ hkn, ← hq, pkgRules, getD_at _ _ hql]⟩
          have hfl : (((cloN ps rs).take k).flatMap (pkgRules ps)).length ≤ ((cloN ps rs).take k).length * 24 := flatMap_len_le _ (fun x _ => pkgRules_len HSm.out.pk x)
          rw [List.length_take] at hfl
          have hok := HSm.out.pk _ (List.getElem_mem hql)
          have hd16 := hok.2.1
          have hc8 := hok.2.2.1
          have hbl : (rs.mapIdx rootRule ++ ((cloN ps rs).take k).flatMap (pkgRules ps)).length ≤ 8 + 8 * 24 := by rw [List.length_append, List.length_mapIdx]; omega
          clear hq hok
          obtain ⟨ad, e, y1⟩ := at_i64 (Kd.C_below H3.out HF.out.below) k hlt
          subst e
          rw [HQ.out] at y1
          obtain ⟨adp, E5, f5, e, h5, l5, g5⟩ := at_Package_depends H.out q hql
          obtain ⟨adp', E6, f6, e', h6, l6, g6⟩ := at_Package_conflicts H.out q hql
          subst e
          cases e'
          generalize hpk : ps[q] = pk at h5 h6 g5 g6 l5 l6 hsuccK hd16 hc8
          have H5 := Aside0.mk g5
          have H6 := Aside0.mk g6
          have Y5 := Aside0.mk h5
          have Y6 := Aside0.mk h6
          have q5 := pw_cell_below HF.out.below h5
          clear hpk g5 g6 l5 l6 h5 h6
          have bq : (q : Int) < (ps.length : Int) := by omega
          go_wp2_with fail
          clear q5 y1
          go_loopw [7, 45] (fun v i wr => ∃ j : Nat, j ≤ pk.depends.length ∧ i = .int .i64 j ∧ Aside0 (OwnRl wr w.heap.size v ((rs.mapIdx rootRule ++ ((cloN ps rs).take k).flatMap (pkgRules ps)) ++ (pk.depends.take j).mapIdx (depRule q))) ∧ Aside0 (Fr2 w 25 #[.slice (some adp) ps.length c, .slice A2 n2 c2] 28 #[.slice B rs.length d] wr)) (fun _ i _ => pk.depends.length - (intOf i).toNat)
          case atStart => exact ⟨0, by omega, rfl, ⟨by simpa using HO.out⟩, HF⟩
          case round =>
            clear HO HF x0 x1
            obtain ⟨j, hj, rfl, HO, HF⟩ := hrel
            by_cases hjt : j < pk.depends.length
            · obtain ⟨ade, A1, c1, A2', c2', A4, c4, A5', c5, e, y0, y1, y2, y3, y4, y5, y6, -⟩ := at_Depend (Kd.C_below H5.out HF.out.below) j hjt
              subst e
              have hsucc := Aside0.mk (mapIdx_take_succ (f := depRule q) hjt)
              have hlen : ((rs.mapIdx rootRule ++ ((cloN ps rs).take k).flatMap (pkgRules ps)) ++ (pk.depends.take j).mapIdx (depRule q)).length < 1000000000000 := by rw [List.length_append, List.length_mapIdx, List.length_take]; omega
              have HO1 := Aside0.mk (HO.out.below (below_alloc (Below.refl _ _) (.cells #[.string pk.depends[j].on_.name, .slice A1 pk.depends[j].on_.spans.length c1, .slice A2' pk.depends[j].on_.settings.length c2', .string pk.depends[j].when_.name, .slice A4 pk.depends[j].when_.spans.length c4, .slice A5' pk.depends[j].when_.settings.length c5, .int .i64 pk.depends[j].line] 53)))
              have HF1 := Aside0.mk (HF.out.alloc (.cells #[.string pk.depends[j].on_.name, .slice A1 pk.depends[j].on_.spans.length c1, .slice A2' pk.depends[j].on_.settings.length c2', .string pk.depends[j].when_.name, .slice A4 pk.depends[j].when_.spans.length c4, .slice A5' pk.depends[j].when_.settings.length c5, .int .i64 pk.depends[j].line] 53))
              go_wp2_with (first | (at_builtin; refine app_rule_at (w0 := w) w.heap.size rfl (.tmp 50) (.tmp 56) rfl _ _ _ (depRule q j pk.depends[j]) rfl rfl (size_alloc1 _ _) HO1.out HF1.out.below HF1.out.below.size hlen ?_; intro v1 w2 hO hB hg))
              go_roundw
              case rel => exact ⟨j + 1, by omega, by go_num, ⟨by rw [hsucc.out, ← List.append_assoc]; exact hO⟩, ⟨hB, HO1.out.other hg HF1.out.b0 (by decide), HO1.out.other hg HF1.out.b1 (by decide)⟩⟩
              case measure => simp [intOf] <;> omega
            · have hfull : Aside0 ((pk.depends.take j).mapIdx (depRule q) = pk.depends.mapIdx (depRule q)) := ⟨by rw [List.take_of_length_le (by omega)]⟩
              rw [hfull.out] at HO
              obtain ⟨x0, x1⟩ := cells2 HF.out.b0
              have q6 := pw_cell_below HF.out.below Y6.out
              go_wp2_with fail
              clear q6 hjt hj
              go_loopw [7, 66] (fun v i wr => ∃ j : Nat, j ≤ pk.conflicts.length ∧ i = .int .i64 j ∧ Aside0 (OwnRl wr w.heap.size v ((rs.mapIdx rootRule ++ ((cloN ps rs).take k).flatMap (pkgRules ps) ++ pk.depends.mapIdx (depRule q)) ++ (pk.conflicts.take j).mapIdx (conRule q))) ∧ Aside0 (Fr2 w 25 #[.slice (some adp) ps.length c, .slice A2 n2 c2] 28 #[.slice B rs.length d] wr)) (fun _ i _ => pk.conflicts.length - (intOf i).toNat)
              case atStart => exact ⟨0, by omega, rfl, ⟨by simpa using HO.out⟩, HF⟩
              case round =>
                clear HO HF x0 x1
                obtain ⟨j, hj, rfl, HO, HF⟩ := hrel
                by_cases hjt : j < pk.conflicts.length
                · obtain ⟨ade, A1, c1, A2', c2', A4, c4, A5', c5, e, y0, y1, y2, y3, y4, y5, y6, -⟩ := at_Conflict (Kd.C_below H6.out HF.out.below) j hjt
                  subst e
                  have hsucc := Aside0.mk (mapIdx_take_succ (f := conRule q) hjt)
                  have hlen : ((rs.mapIdx rootRule ++ ((cloN ps rs).take k).flatMap (pkgRules ps) ++ pk.depends.mapIdx (depRule q)) ++ (pk.conflicts.take j).mapIdx (conRule q)).length < 1000000000000 := by rw [List.length_append, List.length_append, List.length_mapIdx, List.length_mapIdx, List.length_take]; omega
                  have HO1 := Aside0.mk (HO.out.below (below_alloc (Below.refl _ _) (.cells #[.string pk.conflicts[j].when_.name, .slice A1 pk.conflicts[j].when_.spans.length c1, .slice A2' pk.conflicts[j].when_.settings.length c2', .string pk.conflicts[j].with_.name, .slice A4 pk.conflicts[j].with_.spans.length c4, .slice A5' pk.conflicts[j].with_.settings.length c5, .int .i64 pk.conflicts[j].line] 55)))
                  have HF1 := Aside0.mk (HF.out.alloc (.cells #[.string pk.conflicts[j].when_.name, .slice A1 pk.conflicts[j].when_.spans.length c1, .slice A2' pk.conflicts[j].when_.settings.length c2', .string pk.conflicts[j].with_.name, .slice A4 pk.conflicts[j].with_.spans.length c4, .slice A5' pk.conflicts[j].with_.settings.length c5, .int .i64 pk.conflicts[j].line] 55))
                  go_wp2_with (first | (at_builtin; refine app_rule_at (w0 := w) w.heap.size rfl (.tmp 71) (.tmp 77) rfl _ _ _ (conRule q j pk.conflicts[j]) rfl rfl (size_alloc1 _ _) HO1.out HF1.out.below HF1.out.below.size hlen ?_; intro v1 w2 hO hB hg))
                  go_roundw
                  case rel => exact ⟨j + 1, by omega, by go_num, ⟨by rw [hsucc.out, ← List.append_assoc]; exact hO⟩, ⟨hB, HO1.out.other hg HF1.out.b0 (by decide), HO1.out.other hg HF1.out.b1 (by decide)⟩⟩
                  case measure => simp [intOf] <;> omega
                · have hfull : Aside0 ((pk.conflicts.take j).mapIdx (conRule q) = pk.conflicts.mapIdx (conRule q)) := ⟨by rw [List.take_of_length_le (by omega)]⟩
                  rw [hfull.out] at HO
                  go_wp2_with fail
                  go_roundw
                  case rel => exact ⟨k + 1, by omega, by go_num, ⟨by rw [hsuccK.out, ← List.append_assoc, ← List.append_assoc]; exact HO.out⟩, HF⟩
                  case measure => simp [intOf] <;> omega
        · have hfin : Aside0 (rs.mapIdx rootRule ++ ((cloN ps rs).take k).flatMap (pkgRules ps) = rulesOf ps rs) := ⟨by
            have : (clo ps rs).length = (cloN ps rs).length := by unfold clo; rw [List.length_map]
            rw [List.take_of_length_le (by omega)]; rfl⟩
          rw [hfin.out] at HO
          go_wp2_with fail
          go_ret
          exact ⟨_, rfl, HO.out, HF.out.below⟩

end Go.Proofs.YtbahanlnkikpeaaGreat
