import Derived.Test.YtbahanlnkikpeaaGreatGndOf
import Derived.Test.YtbahanlnkikpeaaGreatVer4
import Derived.StillTailTactics
namespace Go.Proofs.YtbahanlnkikpeaaGreat
open Go.RowKit Go.Proofs.YtbahanlnkikpeaaGreatW.PrintWords Go.Proofs.YtbahanlnkikpeaaGreatW.PrintLast
set_option linter.unusedVariables false
set_option linter.unusedSimpArgs false
section
open Go.RowKit Go.Maps
set_option maxRecDepth 100000
set_option maxHeartbeats 8000000
/-! A graph of choices: what is chosen of each package. -/
structure ChOK (ps : List DPackage) (cs : List DCh) : Prop where
  len : cs.length = ps.length
  rel : ∀ i, (hi : i < cs.length) → -1 ≤ cs[i].release ∧ cs[i].release < ((ps.getD i zPackage).releases.length : Int)
  vals : ∀ i, (hi : i < cs.length) → 0 ≤ cs[i].release → cs[i].values.length = (ps.getD i zPackage).variants.length ∧ ∀ k, (hk : k < cs[i].values.length) → 0 ≤ cs[i].values[k] ∧ cs[i].values[k] < (((ps.getD i zPackage).variants.getD k zVariant).values.length : Int)
structure GOK (w : World) (a : Args) (Ac : Option Addr) (cs : List DCh) (Ao : Option Addr) (off : List Bool) : Prop where
  pk : Kd.C kPackage w a.A a.ps.length a.ps
  rt : Kd.C kRoot w a.B a.rs.length a.rs
  ch : Kd.C kCh w Ac cs.length cs
  off : Kd.C Kd.bool w Ao off.length off
  ok : ChOK a.ps cs
  sm : Small a.ps a.rs
theorem GOK.below {w w1 : World} {a : Args} {Ac : Option Addr} {cs : List DCh} {Ao : Option Addr} {off : List Bool} (h : GOK w a Ac cs Ao off) (hb : Below w.heap.size w w1) : GOK w1 a Ac cs Ao off :=
  ⟨Kd.C_below h.pk hb, Kd.C_below h.rt hb, Kd.C_below h.ch hb, Kd.C_below h.off hb, h.ok, h.sm⟩
def gcells (a : Args) (Ac : Option Addr) (cc : Nat) (cs : List DCh) (Ao : Option Addr) (co : Nat) (off : List Bool) : Array Value := #[.slice a.A a.ps.length a.c, .slice a.A2 a.n2 a.c2, .slice a.B a.rs.length a.d, .slice Ac cs.length cc, .slice Ao off.length co]
def thereN (cs : List DCh) (p : Nat) : Bool := match cs[p]? with
  | some c => decide (0 ≤ c.release)
  | none => false
theorem There_calls (w : World) (a : Args) (Ac : Option Addr) (cc : Nat) (cs : List DCh) (Ao : Option Addr) (co : Nat) (off : List Bool) (h : GOK w a Ac cs Ao off) (p : Nat) :
    Calls Tryz.prog 65 #[.agg (gcells a Ac cc cs Ao co off), .int .i64 p] w (RetB w (.bool (thereN cs p))) := by
  unfold gcells
  have hba := Aside0.mk (below_alloc (Below.refl w.heap.size w) (.cells #[.slice a.A a.ps.length a.c, .slice a.A2 a.n2 a.c2, .slice a.B a.rs.length a.d, .slice Ac cs.length cc, .slice Ao off.length co] 62))
  by_cases hp : p < cs.length
  · obtain ⟨ad, A1, c1, e, y, -⟩ := at_Ch h.ch p hp
    subst e
    have hT : Aside0 (thereN cs p = decide (0 ≤ cs[p].release)) := ⟨by unfold thereN; rw [List.getElem?_eq_getElem hp]⟩
    rw [hT.out]
    have hpi : (p : Int) < (cs.length : Int) := by omega
    replace y := pw_cell_below hba.out y
    generalize cs[p].release = r at *
    clear h hT hp
    go_enter Tryz.func65, Tryz.ntmps65
    go_wp2_with fail
    go_ret
    exact ⟨rfl, hba.out⟩
  · have hT : Aside0 (thereN cs p = false) := ⟨by unfold thereN; rw [List.getElem?_eq_none (by omega)]⟩
    rw [hT.out]
    have hpi : (cs.length : Int) ≤ (p : Int) := by omega
    clear h hT hp
    go_enter Tryz.func65, Tryz.ntmps65
    go_wp2_with fail
    go_ret
    exact ⟨rfl, hba.out⟩
/-- Does a rule count? -/
def onB (off : List Bool) (p : Nat) : Bool := match off[p]? with
  | some b => !b
  | none => true
theorem On_calls (w : World) (a : Args) (Ac : Option Addr) (cc : Nat) (cs : List DCh) (Ao : Option Addr) (co : Nat) (off : List Bool) (h : GOK w a Ac cs Ao off) (p : Nat) :
    Calls Tryz.prog 64 #[.agg (gcells a Ac cc cs Ao co off), .int .i64 p] w (RetB w (.bool (onB off p))) := by
  unfold gcells
  have hba := Aside0.mk (below_alloc (Below.refl w.heap.size w) (.cells #[.slice a.A a.ps.length a.c, .slice a.A2 a.n2 a.c2, .slice a.B a.rs.length a.d, .slice Ac cs.length cc, .slice Ao off.length co] 62))
  by_cases hp : p < off.length
  · obtain ⟨ad, e, y⟩ := at_boo (Kd.C_below h.off hba.out) p hp
    subst e
    have hT : Aside0 (onB off p = !off[p]) := ⟨by unfold onB; rw [List.getElem?_eq_getElem hp]⟩
    rw [hT.out]
    have hpi : (p : Int) < (off.length : Int) := by omega
    have hpd : decide (off.length ≤ p) = false := decide_eq_false (by omega)
    generalize off[p] = r at *
    clear h hT hp
    go_enter Tryz.func64, Tryz.ntmps64
    go_wp2_with fail
    go_ret
    exact ⟨rfl, hba.out⟩
  · have hT : Aside0 (onB off p = true) := ⟨by unfold onB; rw [List.getElem?_eq_none (by omega)]⟩
    rw [hT.out]
    have hpi : (off.length : Int) ≤ (p : Int) := by omega
    have hpd : decide (off.length ≤ p) = true := decide_eq_true (by omega)
    clear h hT hp
    go_enter Tryz.func64, Tryz.ntmps64
    go_wp2_with fail
    go_ret
    exact ⟨rfl, hba.out⟩
theorem rule_calls (w : World) (a : Args) (Ac : Option Addr) (cc : Nat) (cs : List DCh) (Ao : Option Addr) (co : Nat) (off : List Bool) (h : GOK w a Ac cs Ao off) (kind : Int) (p i : Int) :
    Calls Tryz.prog 92 #[.agg (gcells a Ac cc cs Ao co off), .int .u8 kind, .int .i64 p, .int .i64 i] w (fun e w' => ∃ n : Int, e = .returned (.int .i64 n) ∧ (n = -1 ∨ ∃ k : Nat, k < (rulesOf a.ps a.rs).length ∧ n = k) ∧ Below w.heap.size w w') := by
  unfold gcells
  have H := Aside0.mk h
  have hps := h.sm.n
  have hrs := h.sm.rq
  have hct := cntTo_le h.sm.pk (cloN a.ps a.rs)
  have hcn := clo_len a.ps a.rs
  have hrb : (rulesOf a.ps a.rs).length ≤ 200 := by
    have := rules_len a.ps a.rs
    have : (clo a.ps a.rs).length = (cloN a.ps a.rs).length := by unfold clo; rw [List.length_map]
    omega
  have hba := Aside0.mk (below_alloc (Below.refl w.heap.size w) (.cells #[.slice a.A a.ps.length a.c, .slice a.A2 a.n2 a.c2, .slice a.B a.rs.length a.d, .slice Ac cs.length cc, .slice Ao off.length co] 62))
  have HR := Aside0.mk (Rules13_calls _ a.A a.c a.ps a.A2 a.n2 a.c2 a.B a.d a.rs (Kd.C_below h.pk hba.out) (Kd.C_below h.rt hba.out) h.sm)
  clear h hct hcn
  go_enter Tryz.func92, Tryz.ntmps92
  go_wp2_with fail
  refine HR.out.mono ?_
  rintro e w1 ⟨v, rfl, hO, hb⟩
  obtain ⟨Ar, cr, rfl, -, hC⟩ := Kd.R_reads hO
  have HC := Aside0.mk hC
  have HB1 := Aside0.mk (below_step hba.out hb)
  clear hO hC hb HR
  go_wp2_with fail
  go_loopw [18] (fun i W => ∃ k : Nat, k ≤ (rulesOf a.ps a.rs).length ∧ i = .int .i64 k ∧ W = w1) (fun i _ => (rulesOf a.ps a.rs).length - (intOf i).toNat)
  case atStart => exact ⟨0, by omega, rfl, rfl⟩
  case round =>
    obtain ⟨k, hk, rfl, rfl⟩ := hrel
    by_cases hlt : k < (rulesOf a.ps a.rs).length
    · obtain ⟨ad, e, y0, y1, y2, y3⟩ := at_Rule HC.out k hlt
      subst e
      generalize (rulesOf a.ps a.rs)[k] = r at y0 y1 y2 y3
      have bk : (k : Int) < ((rulesOf a.ps a.rs).length : Int) := by omega
      clear y3
      go_wp2_with fail
      all_goals first
        | (go_ret; exact ⟨_, rfl, .inr ⟨k, hlt, rfl⟩, HB1.out⟩)
        | (go_roundw; (case rel => exact ⟨k + 1, by omega, by go_num, trivial⟩); (case measure => simp [intOf] <;> omega))
    · go_wp2_with fail
      go_ret
      exact ⟨_, rfl, .inl rfl, HB1.out⟩

end
section
open Go.RowKit Go.Maps
set_option maxRecDepth 100000
set_option maxHeartbeats 8000000
theorem cells5 {W : World} {g t : Nat} {a0 a1 a2 a3 a4 : Value} (h : W.heap[g]? = some (.cells #[a0, a1, a2, a3, a4] t (0, 0))) :
    W.cell? ⟨g, 0, none⟩ = some a0 ∧ W.cell? ⟨g, 1, none⟩ = some a1 ∧ W.cell? ⟨g, 2, none⟩ = some a2 ∧ W.cell? ⟨g, 3, none⟩ = some a3 ∧ W.cell? ⟨g, 4, none⟩ = some a4 := ⟨blk_cell h 0, blk_cell h 1, blk_cell h 2, blk_cell h 3, blk_cell h 4⟩
theorem thereN_true {cs : List DCh} {p : Nat} (h : thereN cs p = true) : ∃ hp : p < cs.length, 0 ≤ cs[p].release := by
  unfold thereN at h
  by_cases hp : p < cs.length
  · rw [List.getElem?_eq_getElem hp] at h
    exact ⟨hp, of_decide_eq_true h⟩
  · rw [List.getElem?_eq_none (by omega)] at h
    cases h
theorem Meets_any (w : World) (a : Args) (Ac : Option Addr) (cc : Nat) (cs : List DCh) (Ao : Option Addr) (co : Nat) (off : List Bool) (h : GOK w a Ac cs Ao off) (p : Nat) (nm : ByteArray) (S1 : Option Addr) (c1 : Nat) (sp : List DSpan) (S2 : Option Addr) (c2 : Nat) (st : List DSetting) (hsp : Kd.C kSpan w S1 sp.length sp) (hst : Kd.C kSetting w S2 st.length st) :
    Calls Tryz.prog 68 #[.agg (gcells a Ac cc cs Ao co off), .int .i64 p, .agg #[.string nm, .slice S1 sp.length c1, .slice S2 st.length c2]] w (RetBool w Any) := by
  have hms := Kd.C_max hst
  have H := Aside0.mk h
  have HSp := Aside0.mk hsp
  have HSt := Aside0.mk hst
  have HF := Aside0.mk (Fr2.mk0 w 62 (gcells a Ac cc cs Ao co off) 49 #[.string nm, .slice S1 sp.length c1, .slice S2 st.length c2])
  have HTh := Aside0.mk (There_calls _ a Ac cc cs Ao co off (h.below HF.out.below) p)
  unfold gcells at HF HTh ⊢
  clear h hsp hst
  go_enter Tryz.func68, Tryz.ntmps68
  go_wp2_with fail
  refine HTh.out.mono ?_
  rintro e w1 ⟨rfl, hb⟩
  have HF1 := Aside0.mk (HF.out.step hb)
  clear hb HTh HF
  cases hT : thereN cs p with
  | false =>
    go_wp2_with fail
    go_ret
    exact retAny HF1.out.below
  | true =>
    obtain ⟨hp, hr0⟩ := thereN_true hT
    have HOK := Aside0.mk H.out.ok
    have hpl : p < a.ps.length := by have := HOK.out.len; omega
    have hrel := (HOK.out.rel p hp).2
    have hvals := HOK.out.vals p hp hr0
    rw [getD_at _ _ hpl] at hrel hvals
    have HV := Aside0.mk hvals
    clear hT hvals
    obtain ⟨adp, E2, f2, E3, f3, E4, f4, E5, f5, E6, f6, E7, f7, e, p0, p1, p2, p3, p4, p5, p6, p7, l2, g2, l3, g3, -⟩ := at_Package (H.out.below HF1.out.below).pk p hpl
    obtain ⟨adc, C1, d1, e', q0, q1, m1, k1⟩ := at_Ch (H.out.below HF1.out.below).ch p hp
    obtain ⟨r, hr⟩ := Int.eq_ofNat_of_zero_le hr0
    rw [hr] at hrel q0
    have hrl : r < a.ps[p].releases.length := by omega
    obtain ⟨adr, e2, z⟩ := at_Release_version g2 r hrl
    have HG3 := Aside0.mk g3
    have HK1 := Aside0.mk k1
    have HMax := Aside0.mk (Kd.C_max g3)
    obtain ⟨y0, y1, y2, y3, y4⟩ := cells5 HF1.out.b0
    obtain ⟨s0, s1, s2⟩ := cells3 HF1.out.b1
    clear hr0 hr l2 g2 l3 g3 m1 k1 hrel
    have bp : (p : Int) < (a.ps.length : Int) := by omega
    have bpc : (p : Int) < (cs.length : Int) := by omega
    have br : (r : Int) < (a.ps[p].releases.length : Int) := by omega
    generalize a.ps[p] = pk at *
    generalize cs[p] = ch at *
    generalize pk.releases[r].version = ver at *
    rw [e] at y0
    rw [e'] at y3
    rw [e2] at p2
    have hba := below_alloc (Below.refl w1.heap.size w1) (.cells #[.string pk.name, .int .i64 pk.line, .slice (some adr) pk.releases.length f2, .slice E3 pk.variants.length f3, .slice E4 pk.provides.length f4, .slice E5 pk.depends.length f5, .slice E6 pk.conflicts.length f6, .slice E7 pk.files.length f7] 43)
    have HBX := Aside0.mk (blk_new w1 (.cells #[.string pk.name, .int .i64 pk.line, .slice (some adr) pk.releases.length f2, .slice E3 pk.variants.length f3, .slice E4 pk.provides.length f4, .slice E5 pk.depends.length f5, .slice E6 pk.conflicts.length f6, .slice E7 pk.files.length f7] 43 (0, 0)))
    have HF2 := Aside0.mk (HF1.out.step hba)
    replace HG3 := Aside0.mk (Kd.C_below HG3.out hba)
    replace HK1 := Aside0.mk (Kd.C_below HK1.out hba)
    replace z := pw_cell_below hba z
    replace q0 := pw_cell_below hba q0
    replace q1 := Aside0.mk (pw_cell_below hba q1)
    obtain ⟨wA, hwA⟩ : ∃ wA, wA = w1.alloc (.cells #[.string pk.name, .int .i64 pk.line, .slice (some adr) pk.releases.length f2, .slice E3 pk.variants.length f3, .slice E4 pk.provides.length f4, .slice E5 pk.depends.length f5, .slice E6 pk.conflicts.length f6, .slice E7 pk.files.length f7] 43) := ⟨_, rfl⟩
    go_wp2_with fail
    rw [← hwA] at HBX HF2 z q0 q1 HG3 HK1 ⊢
    clear y0 y1 y2 y3 y4 s0 s1 s2 p0 p1 p2 p3 p4 p5 p6 p7 hba hwA
    obtain ⟨y0, y1, y2, y3, y4⟩ := cells5 HF2.out.b0
    obtain ⟨s0, s1, s2⟩ := cells3 HF2.out.b1
    obtain ⟨p0, p1, p2, p3, p4, p5, p6, p7⟩ := cells8 HBX.out
    rw [e'] at y3
    go_still_tail 13, (by kernel_rfl)
    change wpList _ _ _ _ _ wA.drew
    have HF3 := Aside0.mk (HF2.out.step (below_drew (Below.refl _ _)))
    have HBX3 := Aside0.mk (blk_below HBX.out (below_drew (Below.refl _ _)))
    have HA3 := Aside0.mk (below_drew (Below.refl wA.heap.size wA))
    clear y0 y1 y2 y3 y4 s0 s1 s2 p0 p1 p2 p3 p4 p5 p6 p7 z q0
    go_wp2_with fail
    refine (Has3_any _ S1 c1 sp ver (Kd.C_below HSp.out HF3.out.below)).mono ?_
    rintro e3 w4 ⟨b, -, rfl, hb⟩
    have HF4 := Aside0.mk (HF3.out.step hb)
    have HBX4 := Aside0.mk (blk_below HBX3.out hb)
    have HA4 := Aside0.mk (below_step HA3.out hb)
    clear hb HF3 HBX3 HA3 HBX HF2 HF1
    cases b with
    | false =>
      go_wp2_with fail
      go_ret
      exact retAny HF4.out.below
    | true =>
      obtain ⟨s0, s1, s2⟩ := cells3 HF4.out.b1
      go_wp2_with fail
      clear s0 s1 s2
      go_loopw [40] (fun i W => ∃ k : Nat, k ≤ st.length ∧ i = .int .i64 k ∧ Aside0 (Fr2 w 62 #[.slice a.A a.ps.length a.c, .slice a.A2 a.n2 a.c2, .slice a.B a.rs.length a.d, .slice Ac cs.length cc, .slice Ao off.length co] 49 #[.string nm, .slice S1 sp.length c1, .slice S2 st.length c2] W) ∧ Aside0 (W.heap[w1.heap.size]? = some (.cells #[.string pk.name, .int .i64 pk.line, .slice (some adr) pk.releases.length f2, .slice E3 pk.variants.length f3, .slice E4 pk.provides.length f4, .slice E5 pk.depends.length f5, .slice E6 pk.conflicts.length f6, .slice E7 pk.files.length f7] 43 (0, 0))) ∧ Aside0 (Below wA.heap.size wA W)) (fun i _ => st.length - (intOf i).toNat)
      case atStart => exact ⟨0, by omega, rfl, HF4, HBX4, HA4⟩
      case round =>
        clear HF4 HBX4 HA4
        obtain ⟨k, hk, rfl, HF4, HBX4, HA4⟩ := hrel
        by_cases hlt : k < st.length
        · obtain ⟨ads, e3, t0, t1⟩ := at_Setting (Kd.C_below HSt.out HF4.out.below) k hlt
          have bk : (k : Int) < (st.length : Int) := by omega
          clear t0 t1
          subst e3
          obtain ⟨p0, p1, p2, p3, p4, p5, p6, p7⟩ := cells8 HBX4.out
          clear p0 p1 p2 p4 p5 p6 p7
          go_wp2_with fail
          clear p3
          go_loopw [9, 46] (fun v i W => ∃ (fb : Bool) (j : Nat), j ≤ pk.variants.length ∧ v = .bool fb ∧ i = .int .i64 j ∧ Aside0 (Fr2 w 62 #[.slice a.A a.ps.length a.c, .slice a.A2 a.n2 a.c2, .slice a.B a.rs.length a.d, .slice Ac cs.length cc, .slice Ao off.length co] 49 #[.string nm, .slice S1 sp.length c1, .slice (some ads) st.length c2] W) ∧ Aside0 (W.heap[w1.heap.size]? = some (.cells #[.string pk.name, .int .i64 pk.line, .slice (some adr) pk.releases.length f2, .slice E3 pk.variants.length f3, .slice E4 pk.provides.length f4, .slice E5 pk.depends.length f5, .slice E6 pk.conflicts.length f6, .slice E7 pk.files.length f7] 43 (0, 0))) ∧ Aside0 (Below wA.heap.size wA W)) (fun _ i _ => pk.variants.length - (intOf i).toNat)
          case atStart => exact ⟨false, 0, by omega, rfl, rfl, HF4, HBX4, HA4⟩
          case round =>
            clear HF4 HBX4 HA4
            obtain ⟨fb, j, hj, rfl, rfl, HF4, HBX4, HA4⟩ := hrel
            have hmx := HMax.out
            by_cases hjt : j < pk.variants.length
            · obtain ⟨adv, Av, cv, e4, v0, v1, -, gv⟩ := at_Variant (Kd.C_below HG3.out HA4.out) j hjt
              subst e4
              obtain ⟨ads', e5, t0, t1⟩ := at_Setting (Kd.C_below HSt.out HF4.out.below) k hlt
              cases e5
              have hjv : j < ch.values.length := by rw [HV.out.1]; exact hjt
              have hvj := HV.out.2 j hjv
              rw [getD_at _ _ hjt] at hvj
              obtain ⟨n, hn⟩ := Int.eq_ofNat_of_zero_le hvj.1
              obtain ⟨adi, e6, u0⟩ := at_i64 (Kd.C_below HK1.out HA4.out) j hjv
              rw [hn] at hvj u0
              have hnl : n < pk.variants[j].values.length := by omega
              obtain ⟨adx, e7, x0⟩ := at_str gv n hnl
              have q1' := pw_cell_below HA4.out q1.out
              obtain ⟨y0, y1, y2, y3, y4⟩ := cells5 HF4.out.b0
              obtain ⟨s0, s1, s2⟩ := cells3 HF4.out.b1
              obtain ⟨p0, p1, p2, p3, p4, p5, p6, p7⟩ := cells8 HBX4.out
              rw [e'] at y3
              rw [e6] at q1'
              rw [e7] at v1
              have bj : (j : Int) < (pk.variants.length : Int) := by omega
              have bjv : (j : Int) < (ch.values.length : Int) := by omega
              have bn : (n : Int) < (pk.variants[j].values.length : Int) := by omega
              generalize pk.variants[j].values[n] = vtxt at *
              generalize pk.variants[j] = vv at *
              generalize st[k] = sk at *
              have hbv := below_alloc (Below.refl wr.heap.size wr) (.cells #[.string vv.name, .slice (some adx) vv.values.length cv] 99)
              replace x0 := pw_cell_below hbv x0
              replace u0 := pw_cell_below hbv u0
              replace q1' := pw_cell_below hbv q1'
              replace y3 := pw_cell_below hbv y3
              replace s2 := pw_cell_below hbv s2
              replace t0 := pw_cell_below hbv t0
              replace t1 := pw_cell_below hbv t1
              have HF5 := Aside0.mk (HF4.out.step hbv)
              have HBX5 := Aside0.mk (blk_below HBX4.out hbv)
              have HA5 := Aside0.mk (below_step HA4.out hbv)
              clear hbv hvj hn gv y0 y1 y2 y4 s0 s1 p0 p1 p2 p4 p5 p6 p7 hjv hnl
              cases fb with
              | true =>
                go_wp2_with fail
                go_quiet (fail)
                go_wp2_with fail
                go_roundw
                case rel => exact ⟨true, j + 1, by omega, rfl, by go_num, ⟨HF5.out.drewN _⟩, ⟨blk_below HBX5.out (pw_below_drewN (Below.refl _ _) _)⟩, ⟨pw_below_drewN HA5.out _⟩⟩
                case measure => simp [intOf] <;> omega
              | false =>
                rcases Bool.eq_false_or_eq_true (vv.name.toList == sk.name.toList) with d1 | d1
                · go_wp2_with fail
                  go_quiet (fail)
                  go_wp2_with fail
                  go_roundw
                  case rel => exact ⟨_, j + 1, by omega, rfl, by go_num, ⟨HF5.out.drewN _⟩, ⟨blk_below HBX5.out (pw_below_drewN (Below.refl _ _) _)⟩, ⟨pw_below_drewN HA5.out _⟩⟩
                  case measure => simp [intOf] <;> omega
                · go_wp2_with fail
                  go_quiet (fail)
                  go_wp2_with fail
                  go_roundw
                  case rel => exact ⟨false, j + 1, by omega, rfl, by go_num, ⟨HF5.out.drewN _⟩, ⟨blk_below HBX5.out (pw_below_drewN (Below.refl _ _) _)⟩, ⟨pw_below_drewN HA5.out _⟩⟩
                  case measure => simp [intOf] <;> omega
            · cases fb with
              | true =>
                go_wp2_with fail
                go_roundw
                case rel => exact ⟨k + 1, by omega, by go_num, HF4, HBX4, HA4⟩
                case measure => simp [intOf] <;> omega
              | false =>
                go_wp2_with fail
                go_ret
                exact retAny HF4.out.below
        · go_wp2_with fail
          go_ret
          exact retAny HF4.out.below

end
end Go.Proofs.YtbahanlnkikpeaaGreat
