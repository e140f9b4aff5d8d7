import Derived.Carry
import Derived.Test.YtbahanlnkikpeaaGreatQueue
namespace Go.Proofs.YtbahanlnkikpeaaGreat
open Go.RowKit Go.Proofs.YtbahanlnkikpeaaGreatW.PrintWords Go.Proofs.YtbahanlnkikpeaaGreatW.PrintLast
set_option linter.unusedVariables false
set_option linter.unusedSimpArgs false
open Go.RowKit Go.Maps Go.Sort Go.Shelf
set_option maxRecDepth 100000
set_option maxHeartbeats 2000000
theorem ClosureG_calls (w : World) (A : Option Addr) (c : Nat) (ps : List DPackage) (A2 : Option Addr) (n2 c2 : Nat) (B : Option Addr) (d : Nat) (rs : List DRoot)
    (h : Kd.C kPackage w A ps.length ps) (hr : Kd.C kRoot w B rs.length rs) (hs : Small ps rs) :
   Calls Tryz.prog 33 #[.agg #[.slice A ps.length c, .slice A2 n2 c2], .agg #[.slice B rs.length d]] w (RetI w (clo ps rs)) := by
  have hps := hs.n
  have hrs := hs.rq
  have HSm := Aside0.mk hs
  have H := Aside0.mk h
  have H2 := Aside0.mk hr
  clear h hr hs
  go_enter Tryz.func33, Tryz.ntmps33
  go_wp2_with fail
  go_loopw [5, 17] (fun v i wr => ∃ k : Nat, k ≤ rs.length ∧ i = .int .i64 k ∧ Aside0 (OwnS wr w.heap.size v ((rs.take k).map (fun r => r.spec.name))) ∧ Aside0 (Fr2 w 25 #[.slice A ps.length c, .slice A2 n2 c2] 28 #[.slice B rs.length d] wr)) (fun _ i _ => rs.length - (intOf i).toNat)
  case atStart => exact ⟨0, by omega, rfl, ⟨OwnS.nil _ _⟩, ⟨Fr2.mk0 _ _ _ _ _⟩⟩
  case round =>
    obtain ⟨k, hk, rfl, HO, HF⟩ := hrel
    by_cases hlt : k < rs.length
    · obtain ⟨ad, A1, c1, A2', c2', e, y0, y1, y2, y3, -⟩ := at_Root (Kd.C_below H2.out HF.out.below) k hlt
      subst e
      have hsucc : Aside0 ((rs.take (k + 1)).map (fun r => r.spec.name) = (rs.take k).map (fun r => r.spec.name) ++ [rs[k].spec.name]) := ⟨by rw [List.take_succ_eq_append_getElem hlt, List.map_append]; rfl⟩
      have hlen : ((rs.take k).map (fun r => r.spec.name)).length < 1000000000000 := by rw [List.length_map, List.length_take]; omega
      have HO1 := Aside0.mk (HO.out.below (below_alloc (Below.refl _ _) (.cells #[.string rs[k].spec.name, .slice A1 rs[k].spec.spans.length c1, .slice A2' rs[k].spec.settings.length c2', .int .i64 rs[k].line] 51)))
      have HF1 := Aside0.mk (HF.out.alloc (.cells #[.string rs[k].spec.name, .slice A1 rs[k].spec.spans.length c1, .slice A2' rs[k].spec.settings.length c2', .int .i64 rs[k].line] 51))
      go_wp2_with (first | (at_builtin; refine app_str_at (w0 := w) w.heap.size rfl (.tmp 21) (.tmp 25) rfl _ _ _ rs[k].spec.name rfl rfl (size_alloc1 _ _) HO1.out HF1.out.below HF1.out.below.size hlen ?_; intro v1 w2 hO hB hg))
      go_roundw
      case rel => exact ⟨k + 1, by omega, by go_num, ⟨by rw [hsucc.out]; exact hO⟩, ⟨hB, HO1.out.other hg HF1.out.b0 (by decide), HO1.out.other hg HF1.out.b1 (by decide)⟩⟩
      case measure => simp [intOf] <;> omega
    · have hkn : Aside0 ((rs.take k).map (fun r => r.spec.name) = rs.map (fun r => r.spec.name)) := ⟨by rw [List.take_of_length_le (by omega)]⟩
      rw [hkn.out] at HO
      have hmk := run_makeMap (P := Tryz.prog) 125 wr
      go_wp2_with fail
      clear hmk
      obtain ⟨wo, hwo⟩ : ∃ wo : World, wo = wr := ⟨_, rfl⟩
      subst hwo
      have hfr := HF.out.lts
      have HM0 : Aside0 (MapI (wo.alloc (.map #[] 0)) wo.heap.size 0 (.map [])) := ⟨World.ownsMap_made wo _ _ _⟩
      have HQ0 := Aside0.mk ((OwnQ.of HO.out).below (below_alloc (Below.refl _ _) (.map #[] 0)))
      have HF0 := Aside0.mk (HF.out.alloc (.map #[] 0))
      have hn0 : Aside0 (nsum ps [] ps.length ≤ ps.length * 16) := ⟨nsum_le (fun p hp => (HSm.out.pk p hp).2.1) _⟩
      clear hlt hk hkn HO HF
      go_loopg [5] (rs.length + nsum ps [] ps.length) (fun gk v W => ∃ (S : List Int) (ah : List ByteArray) (n : Nat) (D : DM), Aside0 (gk = ah.length + nsum ps S ps.length) ∧ Aside0 (n + 8 * gk ≤ 1088) ∧ Aside0 (QInv ps rs S ah) ∧ Aside0 (Cnt D S n) ∧ Aside0 (MapI W wo.heap.size n D) ∧ Aside0 (OwnQ wo.heap.size W w.heap.size v ah) ∧ Aside0 (Fr2 w 25 #[.slice A ps.length c, .slice A2 n2 c2] 28 #[.slice B rs.length d] W))
      case atStart => exact ⟨[], _, 0, _, ⟨by rw [List.length_map]⟩, ⟨by have := hn0.out; omega⟩, ⟨qinv_start ps rs⟩, ⟨cnt_nil⟩, HM0, HQ0, HF0⟩
      case round =>
        clear HM0 HQ0 HF0 hn0
        obtain ⟨S, ah, n, D, hgk, hnb, HI, HC, HM, HQ, HF⟩ := hrel
        cases ah with
        | nil =>
          obtain ⟨Aq, cq, rfl, hcq, -⟩ := Kd.Q_reads HQ.out
          go_wp2_with (first
            | (go_at_call 56; refine (keys_calls _ _).mono ?_; rintro e w' ⟨rfl, rfl⟩)
            | (go_at_call 55; refine (sorted_calls wo.heap.size n n D S wr HM.out HC.out HI.out.nd (by have := qinv_len HI.out; omega) ps rs (qinv_end HI.out)).mono ?_; rintro e w' ⟨v, rfl, hO, hb⟩))
          go_ret
          exact ⟨_, rfl, hO.lower (by simp; have := HF.out.below.size; omega), below_step HF.out.below ((below_alloc (Below.refl _ _) _).trans (hb.mono (by simp)))⟩
        | cons s rest =>
          obtain ⟨Aq, cq, rfl, hcq, hCq⟩ := Kd.Q_reads HQ.out
          obtain ⟨adq, e, z0⟩ := at_str hCq 0 (by simp)
          subst e
          obtain ⟨q, hcut, HQ1⟩ : ∃ q, (∀ W : World, (Instr.slice 39 (.slice (some adq) (s :: rest).length cq) (some (.int .i64 1)) none none).run Tryz.prog W = .ok q W) ∧ Aside0 (OwnQ wo.heap.size wr w.heap.size q rest) := by
            obtain ⟨i0, hi0, _, hsz, _⟩ := info_parts info_str
            exact ⟨_, cut_from 39 9 .i64 Tryz.underlying39 hi0 1 hsz (some adq) (s :: rest).length cq 1 (by decide) (by rw [List.length_cons]; omega), ⟨Kd.Q_drop (k := 1) HQ.out (by simp)⟩⟩
          obtain ⟨lq, hlq⟩ : ∃ lq : Nat, lq = (s :: rest).length := ⟨_, rfl⟩
          have hlq0 : 0 < lq := by rw [hlq]; simp
          rw [← hlq] at hcut
          have z0' : wr.cell? adq = some (.string s) := by
            have e0 : adq.add 0 = adq := by simp [Addr.add]
            rw [e0] at z0
            simpa using z0
          clear hCq z0 hcq
          obtain ⟨x0, x1⟩ := cells2 HF.out.b0
          have HLQ := Aside0.mk hlq
          rw [← hlq]
          clear hlq HQ
          have hx00 := HF.out.lts
          go_wp2_with fail
          refine (TargetsG_calls _ _ _ _ _ _ _ s (Kd.C_below H.out HF.out.below) (by omega)).mono ?_
          rintro e wt ⟨vt, rfl, hOt, hbt⟩
          obtain ⟨At, ct, rfl, hct, hCt⟩ := hOt.reads
          have HCt : Aside0 (OwnT wo.heap.size wt w.heap.size (.slice At (targets ps s).length ct) (targets ps s)) := ⟨OwnT.of hOt (World.ownsMap.lt HM.out) HF.out.below.size⟩
          have htl := targets_len (ps := ps) (s := s)
          replace HQ1 := Aside0.mk (HQ1.out.below hbt)
          replace HM := Aside0.mk (World.ownsMap.kept (row := none) HM.out ⟨hbt.os, hbt.tape, hbt.output, hbt.size, fun k hk _ => hbt.block k hk⟩ (by simp))
          replace HF := Aside0.mk (HF.out.step hbt)
          clear hOt hCt hct x0 x1 z0' hcut
          go_wp2_with fail
          obtain ⟨ts, hts⟩ : ∃ ts, ts = targets ps s := ⟨_, rfl⟩
          rw [← hts] at HCt htl
          have HTS := Aside0.mk hts
          rw [← hts]
          clear hts
          obtain ⟨go, hgo⟩ : ∃ go : Nat, go = gk := ⟨_, rfl⟩
          subst hgo
          go_loopw [5, 41] (fun v i W => ∃ j : Nat, j ≤ ts.length ∧ i = .int .i64 j ∧ ∃ (S1 : List Int) (ah : List ByteArray) (n1 : Nat) (D1 : DM), Aside0 (ah.length + 1 + nsum ps S1 ps.length = go) ∧ Aside0 (n1 ≤ n + j) ∧ Aside0 (QInv ps rs S1 (s :: ah)) ∧ Aside0 (OwnT wo.heap.size W w.heap.size (.slice At ts.length ct) ts) ∧ Aside0 (∀ x ∈ ts.take j, x ∈ S1) ∧ Aside0 (Cnt D1 S1 n1) ∧ Aside0 (MapI W wo.heap.size n1 D1) ∧ Aside0 (OwnQ wo.heap.size W w.heap.size v ah) ∧ Aside0 (Fr2 w 25 #[.slice A ps.length c, .slice A2 n2 c2] 28 #[.slice B rs.length d] W)) (fun _ i _ => ts.length - (intOf i).toNat)
          case atStart => exact ⟨0, by omega, rfl, S, rest, n, D, ⟨by have := hgk.out; rw [List.length_cons] at this; omega⟩, ⟨by omega⟩, HI, HCt, ⟨by simp⟩, HC, HM, HQ1, HF⟩
          case round =>
            clear HM HQ1 HF HC HI HCt
            obtain ⟨j, hj, rfl, S1, ah, n1, D1, hgk1, hn1, HI, HCt, HT, HC, HM, HQ, HF⟩ := hrel
            by_cases hjt : j < ts.length
            · obtain ⟨adt, e, y1⟩ := at_i64 HCt.out.reads j hjt
              subst e
              have hmem : ts[j] ∈ targets ps s := by rw [← HTS.out]; exact List.getElem_mem hjt
              have hrg := targets_range hmem
              obtain ⟨p, hp⟩ : ∃ p : Nat, ts[j] = (p : Int) := ⟨ts[j].toNat, by omega⟩
              rw [hp] at y1 hmem hrg
              have hpl : p < ps.length := by omega
              have hwf : (Lit.int .i64 (p : Int)).wf = true := wf_small (by omega) (by omega)
              have hT1 : ∀ S2 : List Int, (∀ x ∈ S1, x ∈ S2) → (p : Int) ∈ S2 → Aside0 (∀ x ∈ ts.take (j + 1), x ∈ S2) := by
                intro S2 hs2 hp2
                refine ⟨fun x hx => ?_⟩
                rw [List.take_succ_eq_append_getElem hjt] at hx
                rcases List.mem_append.1 hx with e | e
                · exact hs2 x (HT.out x e)
                · rw [List.mem_singleton, hp] at e; exact e ▸ hp2
              have HT1 := Aside0.mk hT1
              obtain ⟨cc, hat, hcn, hc0, -⟩ := HC.out (p : Int)
              have hg1 := hgk1.out
              have hnn := hn1.out
              have hb3 := hnb.out
              have hcl : (cc : Int) + 1 < 1000000 := by omega
              obtain ⟨W1, hupd, HM1', hgr⟩ := MapI.upd HM.out (by omega) hwf (c := (cc : Int) + 1) (wf_small (by omega) hcl)
              have hlook := MapI.look HM.out hwf hat
              have hC1 := cnt_put (World.ownsMap.isMap HM.out) HC.out (x := (p : Int)) hat
              have hlook1 := MapI.look HM1' hwf (c := (cc : Int) + 1) (by rw [atKey_put_same (World.ownsMap.isMap HM.out) keylit])
              have HM1 := Aside0.mk HM1'
              have HQ1' := Aside0.mk (HQ.out.grown hgr)
              have HF1 := Aside0.mk (HF.out.grown hgr hfr.2)
              have HC1 := Aside0.mk hC1
              have HCt1 := Aside0.mk (HCt.out.grown hgr)
              have HMEM := Aside0.mk hmem
              have HP := Aside0.mk hp
              have HB := Aside0.mk (And.intro hg1 (And.intro hnn (And.intro hb3 hcn)))
              have hk0 : (0 : Int) ≤ (cc : Int) := by omega
              have hp0 : (p : Int) < (ps.length : Int) := by omega
              clear hT1 HM1' hgr hC1 hmem hrg hat hp hg1 hnn hb3 hcn hwf
              by_cases hS : (p : Int) ∈ S1
              · have hcc : 1 ≤ (cc : Int) := by
                  have : cc ≠ 0 := fun e => (hc0.1 e) hS
                  omega
                rw [if_pos hS] at HC1
                have HS := Aside0.mk hS
                clear hc0 hS
                generalize (cc : Int) = ci at *
                have h1c : 1 < ci + 1 := by omega
                clear hcc hk0
                go_wp2_with fail
                go_roundw
                case rel => exact ⟨j + 1, by omega, by go_num, S1, ah, n1 + 1, _, hgk1, ⟨by have := HB.out; omega⟩, HI, HCt1, HT1.out S1 (fun x hx => hx) HS.out, HC1, HM1, HQ1', HF1⟩
                case measure => simp [intOf] <;> omega
              · have hcc : cc = 0 := hc0.2 hS
                subst hcc
                rw [if_neg hS] at HC1
                have HV := Aside0.mk (qinv_visit HI.out hpl HMEM.out hS)
                have HNS := Aside0.mk (nsum_new (ps := ps) hS ps.length)
                clear hc0 hS
                obtain ⟨x0, x1⟩ := cells2 HF1.out.b0
                obtain ⟨adp, E5, f5, e, h5, l5, g5⟩ := at_Package_depends H.out p hpl
                subst e
                have hok := HSm.out.pk _ (List.getElem_mem hpl)
                have hd16 := hok.2.1
                have HGD : Aside0 ((ps.getD p zPackage).depends.length = ps[p].depends.length) := ⟨by rw [getD_at _ _ hpl]⟩
                rw [HGD.out, if_pos hpl] at HNS
                clear hok HGD
                generalize hpk : ps[p] = pk at h5 g5 l5 HNS hd16 HV
                have H5 := Aside0.mk g5
                have q5 := pw_cell_below HF1.out.below h5
                clear hpk g5 l5 h5
                have e0 : ((0 : Nat) : Int) + 1 = 1 := rfl
                have e1 : ((0 : Nat) : Int) = 0 := rfl
                rw [e0] at hupd hlook1
                rw [e1] at hlook
                clear e0 e1 hk0 hcl
                go_wp2_with fail
                clear hupd hlook hlook1 x0 x1 q5 y1
                obtain ⟨m, hm⟩ : ∃ m, m = wo.heap.size := ⟨_, rfl⟩
                go_loopw [5, 60] (fun v i W => ∃ l : Nat, l ≤ pk.depends.length ∧ i = .int .i64 l ∧ Aside0 (MapI W wo.heap.size (n1 + 1) (D1.put (.int .i64 (p : Int)) (.lit (.int .i64 (((0 : Nat) : Int) + 1))))) ∧ Aside0 (OwnQ wo.heap.size W w.heap.size v (ah ++ (pk.depends.take l).map (fun d => d.on_.name))) ∧ Aside0 (OwnT wo.heap.size W w.heap.size (.slice (some adt) ts.length ct) ts) ∧ Aside0 (Fr2 w 25 #[.slice (some adp) ps.length c, .slice A2 n2 c2] 28 #[.slice B rs.length d] W)) (fun _ i _ => pk.depends.length - (intOf i).toNat)
                case atStart => exact ⟨0, by omega, rfl, HM1, ⟨by simpa using HQ1'.out⟩, HCt1, HF1⟩
                case round =>
                  clear HM1 HQ1' HCt1 HF1
                  obtain ⟨l, hl, rfl, HM1, HQ1, HCt1, HF1⟩ := hrel
                  by_cases hlt : l < pk.depends.length
                  · obtain ⟨ade, A1, c1, A2', c2', A4, c4, A5', c5, e, y0, y1, y2, y3, y4, y5, y6, -⟩ := at_Depend (Kd.C_below H5.out HF1.out.below) l hlt
                    subst e
                    have hsucc : Aside0 (ah ++ (pk.depends.take (l + 1)).map (fun d => d.on_.name) = (ah ++ (pk.depends.take l).map (fun d => d.on_.name)) ++ [pk.depends[l].on_.name]) := ⟨by rw [List.take_succ_eq_append_getElem hlt, List.map_append, List.append_assoc]; rfl⟩
                    have hg1 := hgk1.out
                    have hb3 := HB.out
                    have hah : Aside0 ((ah ++ (pk.depends.take l).map (fun d => d.on_.name)).length < 1000000000000) := ⟨by rw [List.length_append, List.length_map, List.length_take]; omega⟩
                    clear hg1 hb3
                    have bx := below_alloc (Below.refl wr.heap.size wr) (.cells #[.string pk.depends[l].on_.name, .slice A1 pk.depends[l].on_.spans.length c1, .slice A2' pk.depends[l].on_.settings.length c2', .string pk.depends[l].when_.name, .slice A4 pk.depends[l].when_.spans.length c4, .slice A5' pk.depends[l].when_.settings.length c5, .int .i64 pk.depends[l].line] 53)
                    have HQ2 := Aside0.mk (HQ1.out.below bx)
                    have HT2 := Aside0.mk (HCt1.out.below bx)
                    have HM2 : Aside0 (MapI (wr.alloc (.cells #[.string pk.depends[l].on_.name, .slice A1 pk.depends[l].on_.spans.length c1, .slice A2' pk.depends[l].on_.settings.length c2', .string pk.depends[l].when_.name, .slice A4 pk.depends[l].when_.spans.length c4, .slice A5' pk.depends[l].when_.settings.length c5, .int .i64 pk.depends[l].line] 53)) wo.heap.size (n1 + 1) (D1.put (.int .i64 (p : Int)) (.lit (.int .i64 (((0 : Nat) : Int) + 1))))) := ⟨World.ownsMap.alloc HM1.out _⟩
                    have HF2 := Aside0.mk (HF1.out.step bx)
                    have hml := Aside0.mk (World.ownsMap.lt HM2.out)
                    clear bx
                    go_wp2_with (first | (at_builtin; refine app_q (w0 := w) wo.heap.size w.heap.size rfl (.tmp 64) (.tmp 68) rfl _ _ _ pk.depends[l].on_.name rfl rfl (size_alloc1 _ _) HQ2.out hml.out HF2.out.below HF2.out.below.size hah.out ?_; intro v1 w2 hO hB hg))
                    go_roundw
                    case rel => exact ⟨l + 1, by omega, by go_num, ⟨HQ2.out.map hg HM2.out⟩, ⟨by rw [hsucc.out]; exact hO⟩, ⟨HT2.out.over HQ2.out hg⟩, ⟨hB, HQ2.out.other hg HF2.out.b0 (by decide), HQ2.out.other hg HF2.out.b1 (by decide)⟩⟩
                    case measure => simp [intOf] <;> omega
                  · have hfull : Aside0 ((pk.depends.take l).map (fun d => d.on_.name) = pk.depends.map (fun d => d.on_.name)) := ⟨by rw [List.take_of_length_le (by omega)]⟩
                    rw [hfull.out] at HQ1
                    go_wp2_with fail
                    go_roundw
                    case rel => exact ⟨j + 1, by omega, by go_num, (p : Int) :: S1, _, n1 + 1, _, ⟨by have h1 := hgk1.out; have h2 := HNS.out; rw [List.length_append, List.length_map]; omega⟩, ⟨by have := HB.out; omega⟩, HV, HCt1, HT1.out _ (fun x hx => List.mem_cons_of_mem _ hx) List.mem_cons_self, HC1, HM1, HQ1, HF1⟩
                    case measure => simp [intOf] <;> omega
            · go_wp2_with fail
              go_roundg (go - 1)
              case measure => have := hgk1.out; omega
              case rel =>
                have h1 := hgk1.out
                have h2 := hn1.out
                have h3 := hnb.out
                exact ⟨S1, ah, n1, D1, ⟨by omega⟩, ⟨by omega⟩, ⟨qinv_pop HI.out (fun x hx => HT.out x (by rw [List.take_of_length_le (by omega), HTS.out]; exact hx))⟩, HC, HM, HQ, HF⟩

end Go.Proofs.YtbahanlnkikpeaaGreat
