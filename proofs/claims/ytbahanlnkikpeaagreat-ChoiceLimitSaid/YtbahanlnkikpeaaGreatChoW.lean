import Derived.Test.YtbahanlnkikpeaaGreatChoS
namespace Go.Proofs.YtbahanlnkikpeaaGreat
open Go.RowKit Go.Proofs.YtbahanlnkikpeaaGreatW.PrintWords Go.Proofs.YtbahanlnkikpeaaGreatW.PrintLast
set_option linter.unusedVariables false
set_option linter.unusedSimpArgs false
open Go.RowKit Go.Maps
set_option maxRecDepth 100000
set_option maxHeartbeats 4000000
theorem Choices_calls (w0 w : World) (g : Nat) (a : Args) (gs : GS) (h : Gnd w0 g a gs w) (hk : Kd.C kPackage w0 a.A a.ps.length a.ps) (hs : Small a.ps a.rs) (hlim : a.lim ≤ 65536) :
    Calls Tryz.prog 12 #[.pointer (some ⟨g, 0, none⟩)] w (fun e w' => e = .returned (.tuple #[]) ∧ Gnd w0 g a (gs.choices a.lim a.ps (cloN a.ps a.rs)) w') := by
  have H := Aside0.mk h
  have HK := Aside0.mk hk
  have HS := Aside0.mk hs
  have hps := hs.n
  have HCL : Aside0 ((clo a.ps a.rs).length = (cloN a.ps a.rs).length) := ⟨by unfold clo; rw [List.length_map]⟩
  have hcn := clo_len a.ps a.rs
  have HPl : Aside0 (∃ Ai cI, OwnI w w0.heap.size (.slice Ai (clo a.ps a.rs).length cI) (clo a.ps a.rs) ∧ ∃ A n c A2 n2 c2 B nB d Ar nR cR tb bb, GroundAt w g A n c A2 n2 c2 B nB d Ai (clo a.ps a.rs).length cI Ar nR cR tb bb) := ⟨by
    obtain ⟨h1, h2, tg, bg, Ai, cI, Ar, cR, hG, hT, hB, hI, hR⟩ := h
    exact ⟨Ai, cI, hI, _, _, _, _, _, _, _, _, _, _, _, _, _, _, hG⟩⟩
  clear h hk hs
  obtain ⟨Ai, cI, hI, A, n, c, A2, n2, c2, B, nB, d, Ar, nR, cR, tb, bb, hG⟩ := HPl.out
  have HPc := Aside0.mk (Places_calls w g (clo a.ps a.rs) hG (Kd.R_reads' hI).2.2 (by omega))
  clear hI hG HPl
  go_enter Tryz.func12, Tryz.ntmps12
  go_wp2_with fail
  refine HPc.out.mono ?_
  rintro e w1 ⟨v, rfl, hO, hb⟩
  obtain ⟨Ap, cp, rfl, -, -⟩ := Kd.R_reads hO
  have H1 := Aside0.mk (H.out.below hb)
  have HO1 := Aside0.mk hO
  clear hb hO HPc H
  go_wp2_with fail
  go_loopw [15] (fun i W => ∃ k : Nat, k ≤ (clo a.ps a.rs).length ∧ i = .int .i64 k ∧ Aside0 (Gnd w0 g a (gs.choices a.lim a.ps ((cloN a.ps a.rs).take k)) W) ∧ Aside0 (OwnI W w.heap.size (.slice Ap (clo a.ps a.rs).length cp) (clo a.ps a.rs))) (fun i _ => (clo a.ps a.rs).length - (intOf i).toNat)
  case atStart => exact ⟨0, by omega, rfl, ⟨by simpa [GS.choices] using H1.out⟩, HO1⟩
  case round =>
    clear H1 HO1
    obtain ⟨k, hk, rfl, HG, HP⟩ := hrel
    by_cases hlt : k < (clo a.ps a.rs).length
    · have hkn : k < (cloN a.ps a.rs).length := by have := HCL.out; omega
      obtain ⟨q, hq⟩ : ∃ q, q = (cloN a.ps a.rs)[k] := ⟨_, rfl⟩
      have HQ : Aside0 ((clo a.ps a.rs)[k] = (q : Int)) := ⟨by subst hq; simp [clo]⟩
      have hql : q < a.ps.length := by rw [hq]; exact rch_lt (mem_cloN.1 (List.getElem_mem hkn))
      have hsucc : Aside0 (gs.choices a.lim a.ps ((cloN a.ps a.rs).take (k + 1)) = GS.pkg a.lim a.ps (gs.choices a.lim a.ps ((cloN a.ps a.rs).take k)) q) := ⟨by rw [List.take_succ_eq_append_getElem hkn, choices_snoc, ← hq]⟩
      clear hq
      obtain ⟨ad, e, y⟩ := at_i64 (Kd.R_reads' HP.out).2.2 k hlt
      subst e
      rw [HQ.out] at y
      obtain ⟨adp, E2, f2, E3, f3, E4, f4, E5, f5, E6, f6, E7, f7, e, p0, p1, p2, p3, p4, p5, p6, p7, l2, g2, l3, g3, -⟩ := at_Package HK.out q hql
      replace p0 := pw_cell_below HG.out.1 p0
      replace p1 := pw_cell_below HG.out.1 p1
      replace p2 := pw_cell_below HG.out.1 p2
      replace p3 := pw_cell_below HG.out.1 p3
      replace p4 := pw_cell_below HG.out.1 p4
      replace p5 := pw_cell_below HG.out.1 p5
      replace p6 := pw_cell_below HG.out.1 p6
      replace p7 := pw_cell_below HG.out.1 p7
      have HVr := Aside0.mk g3
      clear l2 g2 l3 g3
      generalize gs.choices a.lim a.ps ((cloN a.ps a.rs).take k) = g1 at *
      obtain ⟨x0, x1⟩ : (wr.cell? ⟨g, 0, none⟩ = some (.slice a.A a.ps.length a.c)) ∧ wr.cell? ⟨g, 1, none⟩ = some (.slice a.A2 a.n2 a.c2) := by
        obtain ⟨h1, h2, tg, bg, Ai, cI, Ar, cR, hG, -⟩ := HG.out
        exact ⟨blk_cell hG 0, blk_cell hG 1⟩
      have hok := HS.out.pk _ (List.getElem_mem hql)
      have hr10 := hok.1
      have hv4 := hok.2.2.2.1
      have HV4 := Aside0.mk hok.2.2.2.2
      have HGD : Aside0 (a.ps.getD q zPackage = a.ps[q]) := ⟨getD_at _ _ hql⟩
      have HPKG : Aside0 (GS.pkg a.lim a.ps g1 q = GS.vars a.lim (g1.t.num a.lim (nodeA q) : Nat) q ((⟨g1.t.put a.lim (nodeA q), g1.b⟩ : GS).rowOne a.lim (g1.t.num a.lim (nodeA q) : Nat) (relAs q a.ps[q].releases.length)) a.ps[q].variants a.ps[q].variants.length) := ⟨by unfold GS.pkg; rw [HGD.out]⟩
      rw [HPKG.out] at hsucc
      have HTL : Aside0 (g1.t.l.length ≤ a.lim) := ⟨by obtain ⟨h1, h2, tg, bg, Ai, cI, Ar, cR, hG, ⟨m', A', c', D', u', hT1, hT2, hT3, hT4, hT5, hT6, hT7, hT8⟩, -⟩ := HG.out; exact hT8⟩
      clear hok HGD HPKG
      generalize a.ps[q] = pk at *
      rw [e] at x0
      have b1 : (q : Int) < (a.ps.length : Int) := by omega
      have HBX := Aside0.mk (blk_new wr (.cells #[.string pk.name, .int .i64 pk.line, .slice E2 pk.releases.length f2, .slice E3 pk.variants.length f3, .slice E4 pk.provides.length f4, .slice E5 pk.depends.length f5, .slice E6 pk.conflicts.length f6, .slice E7 pk.files.length f7] 43 (0, 0)))
      have hba := Aside0.mk (below_alloc (Below.refl wr.heap.size wr) (.cells #[.string pk.name, .int .i64 pk.line, .slice E2 pk.releases.length f2, .slice E3 pk.variants.length f3, .slice E4 pk.provides.length f4, .slice E5 pk.depends.length f5, .slice E6 pk.conflicts.length f6, .slice E7 pk.files.length f7] 43))
      have HNC := Aside0.mk (NumberG_calls w0 _ g a g1 (nodeA q) (HG.out.below hba.out) (nodeA_ok (by omega)))
      unfold atomV nodeA at HNC
      go_wp2_with fail
      refine HNC.out.mono ?_
      rintro e w2 ⟨rfl, hG2, hk2⟩
      have HP2 := Aside0.mk ((HP.out.below hba.out).keepT hk2)
      have HX2 := Aside0.mk (hk2.blk HBX.out (TabO.not (by decide) (by decide)))
      have HG2 := Aside0.mk hG2
      clear hG2 hk2 HNC HG HP HBX hba y p0 p1 p2 p3 p4 p5 p6 p7 x0 x1
      have x2 := blk_cell HX2.out 2
      have HNI : Aside0 (NodeIn (g1.t.num a.lim (nodeA q)) q (g1.t.put a.lim (nodeA q))) := ⟨NodeIn.first _ _ _⟩
      have HT1 : Aside0 ((g1.t.put a.lim (nodeA q)).l.length ≤ a.lim) := ⟨put_len HTL.out⟩
      change Aside0 (Gnd w0 g a ⟨g1.t.put a.lim (nodeA q), g1.b⟩ w2) at HG2
      unfold nodeA at HNI HT1 HG2 hsucc
      generalize g1.t.num a.lim ⟨1, (q : Int), 0, 0⟩ = nd at *
      generalize g1.t.put a.lim ⟨1, (q : Int), 0, 0⟩ = t1 at *
      obtain ⟨tg, bg, Ai', cI', Ar', cR', hp⟩ := HG2.out.pcs
      have HPC := Aside0.mk hp
      have HSec := Aside0.mk hp.start
      have hsz := Aside0.mk hp.size
      clear hp
      go_wp2_with fail
      clear x2
      go_loopw [6, 34] (fun v i W => ∃ n : Nat, n ≤ pk.releases.length ∧ i = .int .i64 n ∧ Aside0 (Sec w0 w2 tg a.lim (t1.puts a.lim (relAs q n)) (t1.nums a.lim (relAs q n)) v W)) (fun _ i _ => pk.releases.length - (intOf i).toNat)
      case atStart => exact ⟨0, by omega, rfl, HSec⟩
      case round =>
        clear HSec
        obtain ⟨n, hn, rfl, HSec⟩ := hrel
        by_cases hnt : n < pk.releases.length
        · have hs1 : Aside0 (t1.nums a.lim (relAs q (n + 1)) = t1.nums a.lim (relAs q n) ++ [(((t1.puts a.lim (relAs q n)).num a.lim (relA q n) : Nat) : Int)]) := ⟨by rw [relAs_succ, nums_snoc]⟩
          have hs2 : Aside0 (t1.puts a.lim (relAs q (n + 1)) = (t1.puts a.lim (relAs q n)).put a.lim (relA q n)) := ⟨by rw [relAs_succ, puts_snoc]⟩
          have hlen : Aside0 ((t1.nums a.lim (relAs q n)).length < 1000000000000) := ⟨by rw [nums_len]; unfold relAs; rw [List.length_map, List.length_range]; omega⟩
          have HNC := Aside0.mk (NumberG_calls w0 _ g a ⟨t1.puts a.lim (relAs q n), g1.b⟩ (relA q n) (HSec.out.gnd (gs := ⟨t1, g1.b⟩) HPC.out) (relA_ok (by omega) (by omega)))
          unfold atomV relA at HNC
          unfold relA at hs1 hs2
          generalize t1.puts a.lim (relAs q n) = t2 at *
          generalize t1.nums a.lim (relAs q n) = row at *
          go_wp2_with fail
          refine HNC.out.mono ?_
          rintro e w3 ⟨rfl, hG3, hk3⟩
          have HS3 := Aside0.mk (HSec.out.num (gs := ⟨t1, g1.b⟩) HPC.out hG3 hk3)
          clear hG3 hk3 HNC HSec
          generalize t2.num a.lim ⟨2, (q : Int), (n : Int), 0⟩ = nn at *
          go_wp2_with (first | (at_builtin; refine app_int (w0 := w3) w2.heap.size rfl (.tmp 37) (.tmp 43) rfl _ row (nn : Int) rfl rfl HS3.out.own (Below.refl _ _) HS3.out.keep.size hlen.out ?_; intro v1 w4 hO4 hB4 hg4))
          go_roundw
          case rel => exact ⟨n + 1, by omega, by go_num, ⟨by rw [hs1.out, hs2.out]; exact HS3.out.app hsz.out hO4 hB4 hg4⟩⟩
          case measure => simp [intOf] <;> omega
        · have hnl : n = pk.releases.length := by omega
          subst hnl
          obtain ⟨Aw, cw, rfl, -, -⟩ := Kd.R_reads HSec.out.own
          have HOne := Aside0.mk (oneG_calls w0 wr g a ⟨t1.puts a.lim (relAs q pk.releases.length), g1.b⟩ (nd : Int) _ Aw cw _ (HSec.out.gnd (gs := ⟨t1, g1.b⟩) HPC.out) HSec.out.own (OneOK.of hlim HT1.out HNI.out (relAs q pk.releases.length) (by unfold relAs; rw [List.length_map, List.length_range]; exact hr10) (relAs_nodup _ _)))
          have HP3 := Aside0.mk (HP2.out.keepT HSec.out.keep)
          have HX3 := Aside0.mk (HSec.out.keep.blk HX2.out (TabO.not (by decide) (by decide)))
          have HN3 : Aside0 (NodeIn nd q (t1.puts a.lim (relAs q pk.releases.length))) := ⟨HNI.out.puts _⟩
          have hro : Aside0 ((⟨t1, g1.b⟩ : GS).rowOne a.lim (nd : Int) (relAs q pk.releases.length) = ⟨t1.puts a.lim (relAs q pk.releases.length), g1.b.one nd (t1.nums a.lim (relAs q pk.releases.length))⟩) := ⟨rfl⟩
          rw [hro.out] at hsucc
          clear HSec HP2 HX2 HPC hsz HNI HG2 HT1 hro hnt
          generalize t1.puts a.lim (relAs q pk.releases.length) = t2 at *
          generalize t1.nums a.lim (relAs q pk.releases.length) = row at *
          go_wp2_with fail
          refine HOne.out.mono ?_
          rintro e w3 ⟨rfl, hG3, hk3⟩
          have HG4 := Aside0.mk hG3
          have HP4 := Aside0.mk (HP3.out.keepB hk3)
          have HX4 := Aside0.mk (hk3.blk HX3.out (BldO.not (by decide) (by decide)))
          clear hG3 hk3 HOne HP3 HX3
          have x3 := blk_cell HX4.out 3
          generalize g1.b.one (nd : Int) row = b1' at *
          go_wp2_with fail
          clear x3
          go_loopw [53] (fun i W => ∃ j : Nat, j ≤ pk.variants.length ∧ i = .int .i64 j ∧ Aside0 (Gnd w0 g a (GS.vars a.lim (nd : Int) q ⟨t2, b1'⟩ pk.variants j) W) ∧ Aside0 (NodeIn nd q (GS.vars a.lim (nd : Int) q ⟨t2, b1'⟩ pk.variants j).t) ∧ Aside0 (OwnI W w.heap.size (.slice (some ad) (clo a.ps a.rs).length cp) (clo a.ps a.rs))) (fun i _ => pk.variants.length - (intOf i).toNat)
          case atStart => exact ⟨0, by omega, rfl, HG4, HN3, HP4⟩
          case round =>
            clear HG4 HP4 HX4
            obtain ⟨j, hj, rfl, HG4, HN4, HP4⟩ := hrel
            by_cases hjt : j < pk.variants.length
            · have hvs : Aside0 (GS.vars a.lim (nd : Int) q ⟨t2, b1'⟩ pk.variants (j + 1) = (GS.vars a.lim (nd : Int) q ⟨t2, b1'⟩ pk.variants j).rowOne a.lim (nd : Int) (valAs q j pk.variants[j].values.length)) := ⟨by rw [vars_succ, getD_at _ _ hjt]⟩
              obtain ⟨adv, Av, cv, e, y0, y1, lv, gv⟩ := at_Variant HVr.out j hjt
              subst e
              replace y0 := pw_cell_below HG4.out.1 y0
              replace y1 := pw_cell_below HG4.out.1 y1
              have hv := HV4.out _ (List.getElem_mem hjt)
              have hv1 := hv.2
              have HT4 : Aside0 ((GS.vars a.lim (nd : Int) q ⟨t2, b1'⟩ pk.variants j).t.l.length ≤ a.lim) := ⟨by obtain ⟨h1, h2, tg, bg, Ai, cI, Ar, cR, hG, ⟨m', A', c', D', u', hT1, hT2, hT3, hT4, hT5, hT6, hT7, hT8⟩, -⟩ := HG4.out; exact hT8⟩
              clear hv lv gv
              generalize pk.variants[j] = vv at *
              generalize GS.vars a.lim (nd : Int) q ⟨t2, b1'⟩ pk.variants j = g2 at *
              have bj : (j : Int) < (pk.variants.length : Int) := by omega
              have hba := Aside0.mk (below_alloc (Below.refl wr.heap.size wr) (.cells #[.string vv.name, .slice Av vv.values.length cv] 99))
              have HG5 := Aside0.mk (HG4.out.below hba.out)
              have HP5 := Aside0.mk (HP4.out.below hba.out)
              obtain ⟨wS, hwS⟩ : ∃ wS, wS = wr.alloc (.cells #[.string vv.name, .slice Av vv.values.length cv] 99) := ⟨_, rfl⟩
              rw [← hwS] at HG5 HP5
              obtain ⟨tg5, bg5, Ai5, cI5, Ar5, cR5, hp⟩ := HG5.out.pcs
              have HPC := Aside0.mk hp
              have HSec := Aside0.mk hp.start
              have hsz := Aside0.mk hp.size
              clear hp
              go_wp2_with fail
              clear y0 y1
              rw [← hwS]
              clear hwS hba HG4 HP4
              go_loopw [10, 61] (fun v i W => ∃ n : Nat, n ≤ vv.values.length ∧ i = .int .i64 n ∧ Aside0 (Sec w0 wS tg5 a.lim (g2.t.puts a.lim (valAs q j n)) (g2.t.nums a.lim (valAs q j n)) v W)) (fun _ i _ => vv.values.length - (intOf i).toNat)
              case atStart => exact ⟨0, by omega, rfl, HSec⟩
              case round =>
                clear HSec
                obtain ⟨n, hn, rfl, HSec⟩ := hrel
                by_cases hnt : n < vv.values.length
                · have hs1 : Aside0 (g2.t.nums a.lim (valAs q j (n + 1)) = g2.t.nums a.lim (valAs q j n) ++ [(((g2.t.puts a.lim (valAs q j n)).num a.lim (valA q j n) : Nat) : Int)]) := ⟨by rw [valAs_succ, nums_snoc]⟩
                  have hs2 : Aside0 (g2.t.puts a.lim (valAs q j (n + 1)) = (g2.t.puts a.lim (valAs q j n)).put a.lim (valA q j n)) := ⟨by rw [valAs_succ, puts_snoc]⟩
                  have hlen : Aside0 ((g2.t.nums a.lim (valAs q j n)).length < 1000000000000) := ⟨by rw [nums_len]; unfold valAs; rw [List.length_map, List.length_range]; omega⟩
                  have HNC := Aside0.mk (NumberG_calls w0 _ g a ⟨g2.t.puts a.lim (valAs q j n), g2.b⟩ (valA q j n) (HSec.out.gnd HPC.out) (valA_ok (by omega) (by omega) (by omega)))
                  unfold atomV valA at HNC
                  unfold valA at hs1 hs2
                  generalize g2.t.puts a.lim (valAs q j n) = t3 at *
                  generalize g2.t.nums a.lim (valAs q j n) = row at *
                  go_wp2_with fail
                  refine HNC.out.mono ?_
                  rintro e w3 ⟨rfl, hG3, hk3⟩
                  have HS3 := Aside0.mk (HSec.out.num HPC.out hG3 hk3)
                  clear hG3 hk3 HNC HSec
                  generalize t3.num a.lim ⟨3, (q : Int), (j : Int), (n : Int)⟩ = nn at *
                  go_wp2_with (first | (at_builtin; refine app_int (w0 := w3) wS.heap.size rfl (.tmp 64) (.tmp 71) rfl _ row (nn : Int) rfl rfl HS3.out.own (Below.refl _ _) HS3.out.keep.size hlen.out ?_; intro v1 w4 hO4 hB4 hg4))
                  go_roundw
                  case rel => exact ⟨n + 1, by omega, by go_num, ⟨by rw [hs1.out, hs2.out]; exact HS3.out.app hsz.out hO4 hB4 hg4⟩⟩
                  case measure => simp [intOf] <;> omega
                · have hnl : n = vv.values.length := by omega
                  subst hnl
                  obtain ⟨Aw, cw, rfl, -, -⟩ := Kd.R_reads HSec.out.own
                  have HOne := Aside0.mk (oneG_calls w0 wr g a ⟨g2.t.puts a.lim (valAs q j vv.values.length), g2.b⟩ (nd : Int) _ Aw cw _ (HSec.out.gnd HPC.out) HSec.out.own (OneOK.of hlim HT4.out HN4.out (valAs q j vv.values.length) (by unfold valAs; rw [List.length_map, List.length_range]; omega) (valAs_nodup _ _ _)))
                  have HP6 := Aside0.mk (HP5.out.keepT HSec.out.keep)
                  have HN6 : Aside0 (NodeIn nd q (g2.t.puts a.lim (valAs q j vv.values.length))) := ⟨HN4.out.puts _⟩
                  have hro : Aside0 (g2.rowOne a.lim (nd : Int) (valAs q j vv.values.length) = ⟨g2.t.puts a.lim (valAs q j vv.values.length), g2.b.one nd (g2.t.nums a.lim (valAs q j vv.values.length))⟩) := ⟨rfl⟩
                  rw [hro.out] at hvs
                  clear HSec HP5 HPC hsz HG5 HT4 hro hnt HN4
                  generalize g2.t.puts a.lim (valAs q j vv.values.length) = t3 at *
                  generalize g2.t.nums a.lim (valAs q j vv.values.length) = row at *
                  go_wp2_with fail
                  refine HOne.out.mono ?_
                  rintro e w3 ⟨rfl, hG3, hk3⟩
                  have HG7 := Aside0.mk hG3
                  have HP7 := Aside0.mk (HP6.out.keepB hk3)
                  clear hG3 hk3 HOne HP6
                  go_wp2_with fail
                  go_roundw
                  case rel => exact ⟨j + 1, by omega, by go_num, ⟨by rw [hvs.out]; exact HG7.out⟩, ⟨by rw [hvs.out]; exact HN6.out⟩, HP7⟩
                  case measure => simp [intOf] <;> omega
            · have hjl : j = pk.variants.length := by omega
              subst hjl
              go_wp2_with fail
              go_roundw
              case rel => exact ⟨k + 1, by omega, by go_num, ⟨by rw [hsucc.out]; exact HG4.out⟩, HP4⟩
              case measure => simp [intOf] <;> omega
    · have hfull : Aside0 ((cloN a.ps a.rs).take k = cloN a.ps a.rs) := ⟨List.take_of_length_le (by have := HCL.out; omega)⟩
      rw [hfull.out] at HG
      go_wp2_with fail
      go_end0
      exact ⟨rfl, HG.out⟩

end Go.Proofs.YtbahanlnkikpeaaGreat
