import Derived.Deep.RegionHeld3
import Derived.Test.YtbahanlnkikpeaaGreatRef10c
import Derived.Test.YtbahanlnkikpeaaGreatRec9h
namespace Go.Proofs.YtbahanlnkikpeaaGreat
open Go.RowKit Go.Proofs.YtbahanlnkikpeaaGreatW.PrintWords Go.Proofs.YtbahanlnkikpeaaGreatW.PrintLast
set_option linter.unusedVariables false
set_option linter.unusedSimpArgs false
set_option maxRecDepth 100000
set_option maxHeartbeats 2000000
/-! The rules, in plain Lean. -/
def rootRule (i : Nat) (r : DRoot) : DRule := ⟨1, -1, i, r.line⟩
def depRule (p : Nat) (i : Nat) (d : DDepend) : DRule := ⟨2, p, i, d.line⟩
def conRule (p : Nat) (i : Nat) (c : DConflict) : DRule := ⟨3, p, i, c.line⟩
def pkgRules (ps : List DPackage) (p : Nat) : List DRule := (ps.getD p zPackage).depends.mapIdx (depRule p) ++ (ps.getD p zPackage).conflicts.mapIdx (conRule p)
noncomputable def rulesOf (ps : List DPackage) (rs : List DRoot) : List DRule := rs.mapIdx rootRule ++ (cloN ps rs).flatMap (pkgRules ps)
theorem mapIdx_take_succ {α β : Type} {f : Nat → α → β} {l : List α} {k : Nat} (hk : k < l.length) : (l.take (k + 1)).mapIdx f = (l.take k).mapIdx f ++ [f k l[k]] := by
  rw [List.take_succ_eq_append_getElem hk, List.mapIdx_append]
  simp [List.length_take, Nat.min_eq_left (Nat.le_of_lt hk)]
theorem flatMap_take_succ {α β : Type} {f : α → List β} {l : List α} {k : Nat} (hk : k < l.length) : (l.take (k + 1)).flatMap f = (l.take k).flatMap f ++ f l[k] := by
  rw [List.take_succ_eq_append_getElem hk, List.flatMap_append]
  simp
theorem flatMap_len_le {α β : Type} {f : α → List β} {M : Nat} : ∀ (l : List α), (∀ x ∈ l, (f x).length ≤ M) → (l.flatMap f).length ≤ l.length * M
  | [], _ => by simp
  | x :: l, h => by
    rw [List.flatMap_cons, List.length_append, List.length_cons, Nat.add_mul]
    have h1 := h x (by simp)
    have h2 := flatMap_len_le l (fun y hy => h y (by simp [hy]))
    omega
theorem pkgRules_len {ps : List DPackage} (h : RcOK ps) (p : Nat) : (pkgRules ps p).length ≤ 24 := by
  unfold pkgRules
  rw [List.length_append, List.length_mapIdx, List.length_mapIdx]
  by_cases hp : p < ps.length
  · rw [getD_at _ _ hp]
    have := h _ (List.getElem_mem hp)
    have := this.2.1
    have := (h _ (List.getElem_mem hp)).2.2.1
    omega
  · rw [List.getD_eq_getElem?_getD, List.getElem?_eq_none (by omega)]
    simp [zPackage]
theorem info_rule : (Tryz.prog.info? 45).map (fun i => (i.zero, i.size, i.bytes)) = some (some (.agg #[(.int .u8 0), (.int .i64 0), (.int .i64 0), (.int .i64 0)]), 4, 32) := by kernel_rfl
/-- A row of rules of the call's own. -/
def OwnRl (w : World) (B : Nat) (v : Value) (xs : List DRule) : Prop := Kd.R kRule 45 w B (fun _ => True) v xs
theorem OwnRl.below {w w1 : World} {B : Nat} {v : Value} {xs : List DRule} (h : OwnRl w B v xs) (hb : Below w.heap.size w w1) : OwnRl w1 B v xs := Kd.R_below h hb
theorem OwnRl.reads {w : World} {B : Nat} {v : Value} {xs : List DRule} (h : OwnRl w B v xs) : ∃ A c, v = .slice A xs.length c ∧ xs.length ≤ c ∧ Kd.C kRule w A xs.length xs := Kd.R_reads h
theorem OwnRl.other {w w1 : World} {B : Nat} {v : Value} {xs : List DRule} (h : OwnRl w B v xs) (hg : w.grownBy w1 v.ownBlock) {g t : Nat} {cs : Array Value} (hb : w.heap[g]? = some (.cells cs t (0, 0))) (ht : 45 ≠ t) : w1.heap[g]? = some (.cells cs t (0, 0)) :=
  blk_grown hb hg (Kd.R_ne h hb ht)
theorem OwnRl.lit0 (w : World) (B : Nat) (hB : B ≤ w.heap.size) : OwnRl (w.alloc (.cells #[] 45)) B (.slice (some ⟨w.heap.size, 0, none⟩) 0 0) [] := by
  have h := World.ownsRow_lit (base := B) (e := 45) (size := 4) w #[] 0 hB (by simp [maxLen]) (by simp)
  have h' : (w.alloc (.cells #[] 45)).ownsRow B 45 4 (.slice (some ⟨w.heap.size, 0, none⟩) 0 0) 0 [] := by simpa using h
  exact ⟨fun _ _ => trivial, [], h', Reps.none _ _⟩
theorem OwnI.rule {w w1 : World} {B B' : Nat} {v u : Value} {xs : List Int} {ys : List DRule} (h : OwnI w B v xs) (h' : OwnRl w B' u ys) (hg : w.grownBy w1 u.ownBlock) : OwnI w1 B v xs :=
  Kd.R_over' h (Kd.R_typed h') (by intro q hq; simp [Kd.int, Kd.scalar] at hq; subst hq; decide) hg
def ruleCells (x : DRule) : List Value := [.int .u8 x.kind, .int .i64 x.pack, .int .i64 x.idx, .int .i64 x.line]
section
variable {ops : Array Oper} {rest : List Oper} {o : Oper} {a : Act} {Q : Exit → Act → World → Prop}
theorem app_rule {w0 W : World} (base : Nat) (hgd : o.guard = none) (s x : Operand) (ho : o.op = .call { callee := .builtin .append, args := #[s, x], argTypes := #[31, 31] })
    (v : Value) (xs : List DRule) (p : DRule) (hs : a.eval s = v) (hx : a.eval x = .slice (some ⟨W.heap.size, 0, none⟩) 1 1) (HO : OwnRl W base v xs) (HB : Below base w0 W) (hbase : base ≤ W.heap.size) (hl : xs.length < 1000000000000)
    (h : ∀ v1 w1, OwnRl w1 base v1 (xs ++ [p]) → Below base w0 w1 → W.grownBy w1 v.ownBlock → wpList Tryz.prog ops Q rest (a.put o.dst v1) w1) :
    wpList Tryz.prog ops Q (o :: rest) a (W.alloc (.cells (ruleCells p).toArray 45)) :=
  Kd.R_append kRule (w0 := w0) base hgd s x 31 45 (.agg #[(.int .u8 0), (.int .i64 0), (.int .i64 0), (.int .i64 0)]) 32 ho Tryz.underlying31 info_rule rfl (by decide) (by omega) v xs p (ruleCells p) (fun _ => True) (fun _ => False) hs hx (by exact kRule_mkM _ _ _ _) (fun _ hk => hk.elim) (fun _ _ => trivial) HO HB hbase (by omega) (fun v1 w1 h1 h2 h3 _ => h v1 w1 h1 h2 h3)
theorem app_rule_step {Kc : Act → World → Prop} {w0 W : World} (base : Nat) (hw : Region.wanted o (yielded ops a.tmps) = true) (s x : Operand) (ho : o.op = .call { callee := .builtin .append, args := #[s, x], argTypes := #[31, 31] })
    (v : Value) (xs : List DRule) (p : DRule) (hs : a.eval s = v) (hx : a.eval x = .slice (some ⟨W.heap.size, 0, none⟩) 1 1) (HO : OwnRl W base v xs) (HB : Below base w0 W) (hbase : base ≤ W.heap.size) (hl : xs.length < 1000000000000)
    (h : ∀ v1 w1, OwnRl w1 base v1 (xs ++ [p]) → Below base w0 w1 → W.grownBy w1 v.ownBlock → Kc (a.put o.dst v1) w1) :
    if Region.wanted o (yielded ops a.tmps) = true then Oper.wp Tryz.prog o a (W.alloc (.cells (ruleCells p).toArray 45)) Kc Q else Kc (a.put o.dst undef) (W.alloc (.cells (ruleCells p).toArray 45)) :=
  Kd.R_append_step kRule (w0 := w0) base hw s x 31 45 (.agg #[(.int .u8 0), (.int .i64 0), (.int .i64 0), (.int .i64 0)]) 32 ho Tryz.underlying31 info_rule rfl (by decide) (by omega) v xs p (ruleCells p) (fun _ => True) (fun _ => False) hs hx (by exact kRule_mkM _ _ _ _) (fun _ hk => hk.elim) (fun _ _ => trivial) HO HB hbase (by omega) (fun v1 w1 h1 h2 h3 _ => h v1 w1 h1 h2 h3)
end
/-- ref13.Rules -/
theorem Rules13_calls (w : World) (A : Option Addr) (c : Nat) (ps : List DPackage) (A2 : Option Addr) (n2 c2 : Nat) (B : Option Addr) (d : Nat) (rs : List DRoot)
    (h : Kd.C kPackage w A ps.length ps) (hr : Kd.C kRoot w B rs.length rs) (hs : Small ps rs) :
   Calls Tryz.prog 22 #[.agg #[.slice A ps.length c, .slice A2 n2 c2], .agg #[.slice B rs.length d]] w (fun e w' => ∃ v, e = .returned v ∧ OwnRl w' w.heap.size v (rulesOf ps rs) ∧ Below w.heap.size w w') := by
  have hps := hs.n
  have hrs := hs.rq
  have HSm := Aside0.mk hs
  have H := Aside0.mk h
  have H2 := Aside0.mk hr
  clear h hr hs
  go_enter Tryz.func22, Tryz.ntmps22
  go_wp2_with fail
  go_loopw [5, 16] (fun v i wr => ∃ k : Nat, k ≤ rs.length ∧ i = .int .i64 k ∧ Aside0 (OwnRl wr w.heap.size v ((rs.take k).mapIdx rootRule)) ∧ Aside0 (Fr2 w 25 #[.slice A ps.length c, .slice A2 n2 c2] 28 #[.slice B rs.length d] wr)) (fun _ i _ => rs.length - (intOf i).toNat)
  case atStart => exact ⟨0, by omega, rfl, ⟨by have := OwnRl.lit0 ((w.alloc (.cells #[.slice A ps.length c, .slice A2 n2 c2] 25)).alloc (.cells #[.slice B rs.length d] 28)) w.heap.size (below_alloc (below_alloc (Below.refl _ _) _) _).size; simpa using this⟩, ⟨(Fr2.mk0 _ _ _ _ _).alloc _⟩⟩
  case round =>
    obtain ⟨k, hk, rfl, HO, HF⟩ := hrel
    obtain ⟨x0, x1⟩ := cells2 HF.out.b0
    have p0 := cells1 HF.out.b1
    by_cases hlt : k < rs.length
    · obtain ⟨ad, e, y0⟩ := at_Root_line (Kd.C_below H2.out HF.out.below) k hlt
      subst e
      have hsucc := Aside0.mk (mapIdx_take_succ (f := rootRule) hlt)
      have hlen : ((rs.take k).mapIdx rootRule).length < 1000000000000 := by rw [List.length_mapIdx, List.length_take]; omega
      go_wp2_with (first | (at_builtin; refine app_rule (w0 := w) w.heap.size rfl (.tmp 19) (.tmp 28) rfl _ ((rs.take k).mapIdx rootRule) (rootRule k rs[k]) rfl rfl HO.out HF.out.below HF.out.below.size hlen ?_; intro v1 w2 hO hB hg))
      go_roundw
      case rel => exact ⟨k + 1, by omega, by go_num, ⟨by rw [hsucc.out]; exact hO⟩, ⟨hB, HO.out.other hg HF.out.b0 (by decide), HO.out.other hg HF.out.b1 (by decide)⟩⟩
      case measure => simp [intOf] <;> omega
    · have hkn : Aside0 ((rs.take k).mapIdx rootRule = rs.mapIdx rootRule) := ⟨by rw [List.take_of_length_le (by omega)]⟩
      rw [hkn.out] at HO
      go_wp2_with fail
      refine (Closure10_calls _ _ _ _ _ _ _ _ _ _ (Kd.C_below H.out HF.out.below) (by omega) (Kd.C_below H2.out HF.out.below)).mono ?_
      rintro e w1 ⟨lv, rfl, hI, hb⟩
      have HI := Aside0.mk (hI.lower HF.out.below.size)
      replace HF := Aside0.mk (HF.out.step hb)
      replace HO := Aside0.mk (HO.out.below hb)
      clear hI hb x0 x1 p0 hkn
      obtain ⟨Al, cl, rfl, -, -⟩ := HI.out.reads
      have hcl := clo_len ps rs
      go_wp2_with fail
      clear hlt hk
      go_loopw [5, 36] (fun v i wr => ∃ k : Nat, k ≤ (clo ps rs).length ∧ i = .int .i64 k ∧ Aside0 (OwnRl wr w.heap.size v (rs.mapIdx rootRule ++ ((cloN ps rs).take k).flatMap (pkgRules ps))) ∧ Aside0 (OwnI wr w.heap.size (.slice Al (clo ps rs).length cl) (clo ps rs)) ∧ Aside0 (Fr2 w 25 #[.slice A ps.length c, .slice A2 n2 c2] 28 #[.slice B rs.length d] wr)) (fun _ i _ => (clo ps rs).length - (intOf i).toNat)
      case atStart => exact ⟨0, by omega, rfl, ⟨by simpa using HO.out⟩, HI, HF⟩
      case round =>
        clear HO HI HF
        obtain ⟨k, hk, rfl, HO, HI, HF⟩ := hrel
        obtain ⟨x0, x1⟩ := cells2 HF.out.b0
        by_cases hlt : k < (clo ps rs).length
        · have hkn : k < (cloN ps rs).length := by have : (clo ps rs).length = (cloN ps rs).length := by unfold clo; rw [List.length_map]
                                                   omega
          obtain ⟨q, hq⟩ : ∃ q, q = (cloN ps rs)[k] := ⟨_, rfl⟩
          have HQ : Aside0 ((clo ps rs)[k] = (q : Int)) := ⟨by subst hq; simp [clo]⟩
          have hql : q < ps.length := by rw [hq]; exact rch_lt (mem_cloN.1 (List.getElem_mem hkn))
          have hsuccK : Aside0 (((cloN ps rs).take (k + 1)).flatMap (pkgRules ps) = ((cloN ps rs).take k).flatMap (pkgRules ps) ++ (ps[q].depends.mapIdx (depRule q) ++ ps[q].conflicts.mapIdx (conRule q))) := ⟨by rw [flatMap_take_succ hkn, ← hq, pkgRules, getD_at _ _ hql]⟩
          have hfl : (((cloN ps rs).take k).flatMap (pkgRules ps)).length ≤ ((cloN ps rs).take k).length * 24 := flatMap_len_le _ (fun x _ => pkgRules_len HSm.out.pk x)
          rw [List.length_take] at hfl
          have hok := HSm.out.pk _ (List.getElem_mem hql)
          have hd16 := hok.2.1
          have hc8 := hok.2.2.1
          have hbl : (rs.mapIdx rootRule ++ ((cloN ps rs).take k).flatMap (pkgRules ps)).length ≤ 8 + 8 * 24 := by rw [List.length_append, List.length_mapIdx]; omega
          clear hq hok
          obtain ⟨ad, e, y1⟩ := at_i64 (Kd.R_reads' HI.out).2.2 k hlt
          subst e
          rw [HQ.out] at y1
          obtain ⟨adp, E2, f2, E3, f3, E4, f4, E5, f5, E6, f6, E7, f7, e, h0, h1, h2, h3, h4, h5, h6, h7, l2, g2, l3, g3, l4, g4, l5, g5, l6, g6, l7, g7⟩ := at_Package H.out q hql
          generalize hpk : ps[q] = pk at h0 h1 h2 h3 h4 h5 h6 h7 g5 g6 l2 l3 l4 l5 l6 l7 hsuccK hd16 hc8
          have H5 := Aside0.mk g5
          have H6 := Aside0.mk g6
          clear hpk g2 g3 g4 g5 g6 g7 l2 l3 l4 l5 l6 l7
          have q0 := pw_cell_below HF.out.below h0
          have q1 := pw_cell_below HF.out.below h1
          have q2 := pw_cell_below HF.out.below h2
          have q3 := pw_cell_below HF.out.below h3
          have q4 := pw_cell_below HF.out.below h4
          have q5 := pw_cell_below HF.out.below h5
          have q6 := pw_cell_below HF.out.below h6
          have q7 := pw_cell_below HF.out.below h7
          subst e
          clear h0 h1 h2 h3 h4 h5 h6 h7
          have bq : (q : Int) < (ps.length : Int) := by omega
          go_upto_region 11 with (fail)
          go_cut [9] (fun z wc => ∃ g : Nat, z = .pointer (some ⟨g, 0, none⟩) ∧ Aside0 (Below wr.heap.size wr wc) ∧ Aside0 (wc.heap[g]? = some (.cells #[.string pk.name, .int .i64 pk.line, .slice E2 pk.releases.length f2, .slice E3 pk.variants.length f3, .slice E4 pk.provides.length f4, .slice E5 pk.depends.length f5, .slice E6 pk.conflicts.length f6, .slice E7 pk.files.length f7] 43 (0, 0))))
          case first =>
            have n0 := World.new_ne wr _ x0
            have n1 := World.new_ne wr _ y1
            have n2 := World.new_ne wr _ q0
            go_region_held3 (fun w' => w'.cell? ⟨w.heap.size, 0, none⟩ = some (.slice (some adp) ps.length c) ∧ w'.cell? (ad.add k) = some (.int .i64 q) ∧
                w'.cell? (adp.add (q * 8)) = some (.string pk.name) ∧ w'.cell? ⟨(adp.add (q * 8)).block, (adp.add (q * 8)).off + 1, none⟩ = some (.int .i64 pk.line) ∧ w'.cell? ⟨(adp.add (q * 8)).block, (adp.add (q * 8)).off + 2, none⟩ = some (.slice E2 pk.releases.length f2) ∧ w'.cell? ⟨(adp.add (q * 8)).block, (adp.add (q * 8)).off + 3, none⟩ = some (.slice E3 pk.variants.length f3) ∧ w'.cell? ⟨(adp.add (q * 8)).block, (adp.add (q * 8)).off + 4, none⟩ = some (.slice E4 pk.provides.length f4) ∧ w'.cell? ⟨(adp.add (q * 8)).block, (adp.add (q * 8)).off + 5, none⟩ = some (.slice E5 pk.depends.length f5) ∧ w'.cell? ⟨(adp.add (q * 8)).block, (adp.add (q * 8)).off + 6, none⟩ = some (.slice E6 pk.conflicts.length f6) ∧ w'.cell? ⟨(adp.add (q * 8)).block, (adp.add (q * 8)).off + 7, none⟩ = some (.slice E7 pk.files.length f7))
              (first
                | go_keep
                | (refine ⟨?_, ?_, ?_, ?_, ?_, ?_, ?_, ?_, ?_, ?_⟩ <;> (apply Lib.cell?_alloc_some; assumption)))
              ((fail))
            go_wp2_with fail
            go_meet
            case rel => exact ⟨_, rfl, ⟨below_alloc (below_drew (Below.refl _ _)) _⟩, ⟨blk_new _ _⟩⟩
          case rest =>
            obtain ⟨g, rfl, hb, BG⟩ := hcut
            replace HF := Aside0.mk (HF.out.step hb.out)
            replace HO := Aside0.mk (HO.out.below hb.out)
            replace HI := Aside0.mk (HI.out.below hb.out)
            clear hb q0 q1 q2 q3 q4 q5 q6 q7 x0 x1 y1
            have z5 : wc.cell? ⟨g, 5, none⟩ = some (.slice E5 pk.depends.length f5) := blk_cell BG.out 5
            go_wp2_with fail
            clear z5
            go_loopw [5, 50] (fun v i wr => ∃ j : Nat, j ≤ pk.depends.length ∧ i = .int .i64 j ∧ Aside0 (OwnRl wr w.heap.size v ((rs.mapIdx rootRule ++ ((cloN ps rs).take k).flatMap (pkgRules ps)) ++ (pk.depends.take j).mapIdx (depRule q))) ∧ Aside0 (OwnI wr w.heap.size (.slice (some ad) (clo ps rs).length cl) (clo ps rs)) ∧ Aside0 (Fr2 w 25 #[.slice (some adp) ps.length c, .slice A2 n2 c2] 28 #[.slice B rs.length d] wr) ∧ Aside0 (wr.heap[g]? = some (.cells #[.string pk.name, .int .i64 pk.line, .slice E2 pk.releases.length f2, .slice E3 pk.variants.length f3, .slice E4 pk.provides.length f4, .slice E5 pk.depends.length f5, .slice E6 pk.conflicts.length f6, .slice E7 pk.files.length f7] 43 (0, 0)))) (fun _ i _ => pk.depends.length - (intOf i).toNat)
            case atStart => exact ⟨0, by omega, rfl, ⟨by simpa using HO.out⟩, HI, HF, BG⟩
            case round =>
              clear HO HI HF BG
              obtain ⟨j, hj, rfl, HO, HI, HF, BG⟩ := hrel
              have z5 : wr.cell? ⟨g, 5, none⟩ = some (.slice E5 pk.depends.length f5) := blk_cell BG.out 5
              by_cases hjt : j < pk.depends.length
              · obtain ⟨ade, e, y0⟩ := at_Depend_line (Kd.C_below H5.out HF.out.below) j hjt
                subst e
                obtain ⟨ad2, e, y1⟩ := at_i64 (Kd.R_reads' HI.out).2.2 k hlt
                cases e
                rw [HQ.out] at y1
                have hsucc := Aside0.mk (mapIdx_take_succ (f := depRule q) hjt)
                have hlen : ((rs.mapIdx rootRule ++ ((cloN ps rs).take k).flatMap (pkgRules ps)) ++ (pk.depends.take j).mapIdx (depRule q)).length < 1000000000000 := by rw [List.length_append, List.length_mapIdx, List.length_take]; omega
                have bj : (j : Int) < (pk.depends.length : Int) := by omega
                go_wp2
                have HB0 := below_drew (Below.refl wr.heap.size wr)
                replace HO := Aside0.mk (HO.out.below HB0)
                replace HI := Aside0.mk (HI.out.below HB0)
                replace HF := Aside0.mk (HF.out.step HB0)
                replace BG := Aside0.mk (blk_below BG.out HB0)
                clear HB0
                go_region_held3 (fun w' => w'.cell? ⟨g, 5, none⟩ = some (.slice (some ade) pk.depends.length f5) ∧ w'.cell? (ad.add k) = some (.int .i64 q) ∧ w'.cell? ⟨(ade.add (j * 7)).block, (ade.add (j * 7)).off + 6, none⟩ = some (.int .i64 pk.depends[j].line))
                  (first
                    | go_keep
                    | (refine ⟨?_, ?_, ?_⟩ <;> (apply Lib.cell?_alloc_some; assumption))
                    | (refine ⟨blk_cell (HO.out.other hg BG.out (by decide)) 5, ?_, ?_⟩; (· obtain ⟨ad', e, y⟩ := at_i64 (Kd.R_reads' (HI.out.rule HO.out hg)).2.2 k hlt; cases e; rw [HQ.out] at y; exact y); (· obtain ⟨ad', e, y⟩ := at_Depend_line H5.out j hjt; cases e; exact pw_cell_below hB y)))
                  ((refine app_rule_step (W := wr.drew) (w0 := w) w.heap.size (by rfl) (.tmp 53) (.tmp 66) (by rfl) _ ((rs.mapIdx rootRule ++ ((cloN ps rs).take k).flatMap (pkgRules ps)) ++ (pk.depends.take j).mapIdx (depRule q)) (depRule q j pk.depends[j]) (by rfl) (by rfl) HO.out HF.out.below HF.out.below.size hlen ?_; intro v1 w3 hO hB hg))
                go_wp2_with fail
                go_roundw
                case rel => exact ⟨j + 1, by omega, by go_num, ⟨by rw [hsucc.out, ← List.append_assoc]; exact hO⟩, ⟨HI.out.rule HO.out hg⟩, ⟨hB, HO.out.other hg HF.out.b0 (by decide), HO.out.other hg HF.out.b1 (by decide)⟩, ⟨HO.out.other hg BG.out (by decide)⟩⟩
                case measure => simp [intOf] <;> omega
              · have hfull : Aside0 ((pk.depends.take j).mapIdx (depRule q) = pk.depends.mapIdx (depRule q)) := ⟨by rw [List.take_of_length_le (by omega)]⟩
                rw [hfull.out] at HO
                have z6 : wr.cell? ⟨g, 6, none⟩ = some (.slice E6 pk.conflicts.length f6) := blk_cell BG.out 6
                go_wp2_with fail
                clear z5 z6 hjt hj
                go_loopw [5, 72] (fun v i wr => ∃ j : Nat, j ≤ pk.conflicts.length ∧ i = .int .i64 j ∧ Aside0 (OwnRl wr w.heap.size v ((rs.mapIdx rootRule ++ ((cloN ps rs).take k).flatMap (pkgRules ps) ++ pk.depends.mapIdx (depRule q)) ++ (pk.conflicts.take j).mapIdx (conRule q))) ∧ Aside0 (OwnI wr w.heap.size (.slice (some ad) (clo ps rs).length cl) (clo ps rs)) ∧ Aside0 (Fr2 w 25 #[.slice (some adp) ps.length c, .slice A2 n2 c2] 28 #[.slice B rs.length d] wr) ∧ Aside0 (wr.heap[g]? = some (.cells #[.string pk.name, .int .i64 pk.line, .slice E2 pk.releases.length f2, .slice E3 pk.variants.length f3, .slice E4 pk.provides.length f4, .slice E5 pk.depends.length f5, .slice E6 pk.conflicts.length f6, .slice E7 pk.files.length f7] 43 (0, 0)))) (fun _ i _ => pk.conflicts.length - (intOf i).toNat)
                case atStart => exact ⟨0, by omega, rfl, ⟨by simpa using HO.out⟩, HI, HF, BG⟩
                case round =>
                  clear HO HI HF BG
                  obtain ⟨j, hj, rfl, HO, HI, HF, BG⟩ := hrel
                  have z6 : wr.cell? ⟨g, 6, none⟩ = some (.slice E6 pk.conflicts.length f6) := blk_cell BG.out 6
                  by_cases hjt : j < pk.conflicts.length
                  · obtain ⟨adf, e, y0⟩ := at_Conflict_line (Kd.C_below H6.out HF.out.below) j hjt
                    subst e
                    obtain ⟨ad2, e, y1⟩ := at_i64 (Kd.R_reads' HI.out).2.2 k hlt
                    cases e
                    rw [HQ.out] at y1
                    have hsucc := Aside0.mk (mapIdx_take_succ (f := conRule q) hjt)
                    have hlen : ((rs.mapIdx rootRule ++ ((cloN ps rs).take k).flatMap (pkgRules ps) ++ pk.depends.mapIdx (depRule q)) ++ (pk.conflicts.take j).mapIdx (conRule q)).length < 1000000000000 := by rw [List.length_append, List.length_append, List.length_mapIdx, List.length_mapIdx, List.length_take]; omega
                    have bj : (j : Int) < (pk.conflicts.length : Int) := by omega
                    go_wp2
                    have HB0 := below_drew (Below.refl wr.heap.size wr)
                    replace HO := Aside0.mk (HO.out.below HB0)
                    replace HI := Aside0.mk (HI.out.below HB0)
                    replace HF := Aside0.mk (HF.out.step HB0)
                    replace BG := Aside0.mk (blk_below BG.out HB0)
                    clear HB0
                    go_region_held3 (fun w' => w'.cell? ⟨g, 6, none⟩ = some (.slice (some adf) pk.conflicts.length f6) ∧ w'.cell? (ad.add k) = some (.int .i64 q) ∧ w'.cell? ⟨(adf.add (j * 7)).block, (adf.add (j * 7)).off + 6, none⟩ = some (.int .i64 pk.conflicts[j].line))
                      (first
                        | go_keep
                        | (refine ⟨?_, ?_, ?_⟩ <;> (apply Lib.cell?_alloc_some; assumption))
                        | (refine ⟨blk_cell (HO.out.other hg BG.out (by decide)) 6, ?_, ?_⟩; (· obtain ⟨ad', e, y⟩ := at_i64 (Kd.R_reads' (HI.out.rule HO.out hg)).2.2 k hlt; cases e; rw [HQ.out] at y; exact y); (· obtain ⟨ad', e, y⟩ := at_Conflict_line H6.out j hjt; cases e; exact pw_cell_below hB y)))
                      ((refine app_rule_step (W := wr.drew) (w0 := w) w.heap.size (by rfl) (.tmp 75) (.tmp 88) (by rfl) _ ((rs.mapIdx rootRule ++ ((cloN ps rs).take k).flatMap (pkgRules ps) ++ pk.depends.mapIdx (depRule q)) ++ (pk.conflicts.take j).mapIdx (conRule q)) (conRule q j pk.conflicts[j]) (by rfl) (by rfl) HO.out HF.out.below HF.out.below.size hlen ?_; intro v1 w3 hO hB hg))
                    go_wp2_with fail
                    go_roundw
                    case rel => exact ⟨j + 1, by omega, by go_num, ⟨by rw [hsucc.out, ← List.append_assoc]; exact hO⟩, ⟨HI.out.rule HO.out hg⟩, ⟨hB, HO.out.other hg HF.out.b0 (by decide), HO.out.other hg HF.out.b1 (by decide)⟩, ⟨HO.out.other hg BG.out (by decide)⟩⟩
                    case measure => simp [intOf] <;> omega
                  · have hfull : Aside0 ((pk.conflicts.take j).mapIdx (conRule q) = pk.conflicts.mapIdx (conRule q)) := ⟨by rw [List.take_of_length_le (by omega)]⟩
                    rw [hfull.out] at HO
                    go_wp2_with fail
                    go_roundw
                    case rel => exact ⟨k + 1, by omega, by go_num, ⟨by rw [hsuccK.out, ← List.append_assoc, ← List.append_assoc]; exact HO.out⟩, HI, HF⟩
                    case measure => simp [intOf] <;> omega
        · have hfin : Aside0 (rs.mapIdx rootRule ++ ((cloN ps rs).take k).flatMap (pkgRules ps) = rulesOf ps rs) := ⟨by
            have : (clo ps rs).length = (cloN ps rs).length := by unfold clo; rw [List.length_map]
            rw [List.take_of_length_le (by omega)]; rfl⟩
          rw [hfin.out] at HO
          go_wp2_with fail
          go_ret
          exact ⟨_, rfl, HO.out, HF.out.below⟩

end Go.Proofs.YtbahanlnkikpeaaGreat
