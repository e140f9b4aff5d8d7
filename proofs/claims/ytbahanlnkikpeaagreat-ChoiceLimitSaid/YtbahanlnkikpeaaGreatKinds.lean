import Derived.Test.YtbahanlnkikpeaaGreatWWords
import Derived.Test.YtbahanlnkikpeaaGreatWLast
import Derived.Test.YtbahanlnkikpeaaGreatProg
import Derived.Below
import Derived.Deep.Draws
import Derived.OwnWalk
import Derived.Tactics
import Derived.WalkKit
import Derived.KernelRfl
import Derived.Deep.LoopGhost
import Derived.Deep.QuietTactic
import Derived.BigQuiet
import Derived.Deep.DeepCutAuto
import Derived.Deep.CutBlock
import Derived.RowKit3
import Derived.Outline
import Derived.WalkSpells
import Derived.WalkLawsBesides
namespace Go.Proofs.YtbahanlnkikpeaaGreat
open Go.RowKit Go.Proofs.YtbahanlnkikpeaaGreatW.PrintWords Go.Proofs.YtbahanlnkikpeaaGreatW.PrintLast
set_option linter.unusedVariables false
set_option linter.unusedSimpArgs false
theorem getD_at {α : Type} (xs : List α) (d : α) {k : Nat} (hk : k < xs.length) : xs.getD k d = xs[k] := by simp [List.getD, hk]
structure DSpan where
  lo : ByteArray
  hi : ByteArray
def zSpan : DSpan := ⟨ByteArray.empty, ByteArray.empty⟩
def kSpan : Kd DSpan := Kd.iso (Kd.pair Kd.string Kd.string) (fun x : DSpan => (x.lo, x.hi))
theorem kSpan_open {w : World} {x : DSpan} {cs : List Value} (h : kSpan.K w x cs) : cs = [.string x.lo, .string x.hi] := by
  obtain ⟨_, _, rfl, rfl, rfl⟩ := h
  exact rfl
theorem kSpan_mk (w : World) (x : DSpan)  : kSpan.K w x [.string x.lo, .string x.hi] := ⟨[.string x.lo], [.string x.hi], rfl, rfl, rfl⟩
theorem kSpan_mkM (w : World) (base : Nat) (ok : Nat → Prop) (x : DSpan) : kSpan.M w base ok x [.string x.lo, .string x.hi] := ⟨[.string x.lo], [.string x.hi], rfl, rfl, rfl⟩
theorem at_Span {w : World} {A : Option Addr} {xs : List DSpan} (h : Kd.C kSpan w A xs.length xs) (k : Nat) (hk : k < xs.length) : ∃ ad , A = some ad ∧ w.cell? (ad.add (k * 2)) = some (.string xs[k].lo) ∧ w.cell? ⟨(ad.add (k * 2)).block, (ad.add (k * 2)).off + 1, none⟩ = some (.string xs[k].hi) := by
  obtain ⟨ad, c, e, _, hK, hc0⟩ := Kd.C_get h zSpan k (by omega) (by omega)
  have hc : ∀ j u, c[j]? = some u → w.cell? (ad.add (k * 2 + j)) = some u := hc0
  replace hK : kSpan.K w (xs.getD k zSpan) c := hK
  rw [getD_at _ _ hk] at hK
  obtain rfl := kSpan_open hK
  exact ⟨ad, e, hc 0 _ rfl, by rw [← add_field _ _ 1 (by omega)]; exact hc 1 _ rfl⟩
theorem at_Span_K {w : World} {A : Option Addr} {xs : List DSpan} (h : Kd.C kSpan w A xs.length xs) (k : Nat) (hk : k < xs.length) : ∃ ad , A = some ad ∧ w.cell? (ad.add (k * 2)) = some (.string xs[k].lo) ∧ w.cell? ⟨(ad.add (k * 2)).block, (ad.add (k * 2)).off + 1, none⟩ = some (.string xs[k].hi) ∧ kSpan.K w xs[k] [.string xs[k].lo, .string xs[k].hi] := by
  obtain ⟨ad, e, h0, h1⟩ := at_Span h k hk
  exact ⟨ad, e, h0, h1, kSpan_mk _ _⟩
theorem at_Span_lo {w : World} {A : Option Addr} {xs : List DSpan} (h : Kd.C kSpan w A xs.length xs) (k : Nat) (hk : k < xs.length) : ∃ ad, A = some ad ∧ w.cell? (ad.add (k * 2)) = some (.string xs[k].lo) := by
  obtain ⟨ad, e, h0, h1⟩ := at_Span h k hk
  exact ⟨ad, e, h0⟩
theorem at_Span_hi {w : World} {A : Option Addr} {xs : List DSpan} (h : Kd.C kSpan w A xs.length xs) (k : Nat) (hk : k < xs.length) : ∃ ad, A = some ad ∧ w.cell? ⟨(ad.add (k * 2)).block, (ad.add (k * 2)).off + 1, none⟩ = some (.string xs[k].hi) := by
  obtain ⟨ad, e, h0, h1⟩ := at_Span h k hk
  exact ⟨ad, e, h1⟩

structure DSetting where
  name : ByteArray
  value : ByteArray
def zSetting : DSetting := ⟨ByteArray.empty, ByteArray.empty⟩
def kSetting : Kd DSetting := Kd.iso (Kd.pair Kd.string Kd.string) (fun x : DSetting => (x.name, x.value))
theorem kSetting_open {w : World} {x : DSetting} {cs : List Value} (h : kSetting.K w x cs) : cs = [.string x.name, .string x.value] := by
  obtain ⟨_, _, rfl, rfl, rfl⟩ := h
  exact rfl
theorem kSetting_mk (w : World) (x : DSetting)  : kSetting.K w x [.string x.name, .string x.value] := ⟨[.string x.name], [.string x.value], rfl, rfl, rfl⟩
theorem kSetting_mkM (w : World) (base : Nat) (ok : Nat → Prop) (x : DSetting) : kSetting.M w base ok x [.string x.name, .string x.value] := ⟨[.string x.name], [.string x.value], rfl, rfl, rfl⟩
theorem at_Setting {w : World} {A : Option Addr} {xs : List DSetting} (h : Kd.C kSetting w A xs.length xs) (k : Nat) (hk : k < xs.length) : ∃ ad , A = some ad ∧ w.cell? (ad.add (k * 2)) = some (.string xs[k].name) ∧ w.cell? ⟨(ad.add (k * 2)).block, (ad.add (k * 2)).off + 1, none⟩ = some (.string xs[k].value) := by
  obtain ⟨ad, c, e, _, hK, hc0⟩ := Kd.C_get h zSetting k (by omega) (by omega)
  have hc : ∀ j u, c[j]? = some u → w.cell? (ad.add (k * 2 + j)) = some u := hc0
  replace hK : kSetting.K w (xs.getD k zSetting) c := hK
  rw [getD_at _ _ hk] at hK
  obtain rfl := kSetting_open hK
  exact ⟨ad, e, hc 0 _ rfl, by rw [← add_field _ _ 1 (by omega)]; exact hc 1 _ rfl⟩
theorem at_Setting_K {w : World} {A : Option Addr} {xs : List DSetting} (h : Kd.C kSetting w A xs.length xs) (k : Nat) (hk : k < xs.length) : ∃ ad , A = some ad ∧ w.cell? (ad.add (k * 2)) = some (.string xs[k].name) ∧ w.cell? ⟨(ad.add (k * 2)).block, (ad.add (k * 2)).off + 1, none⟩ = some (.string xs[k].value) ∧ kSetting.K w xs[k] [.string xs[k].name, .string xs[k].value] := by
  obtain ⟨ad, e, h0, h1⟩ := at_Setting h k hk
  exact ⟨ad, e, h0, h1, kSetting_mk _ _⟩
theorem at_Setting_name {w : World} {A : Option Addr} {xs : List DSetting} (h : Kd.C kSetting w A xs.length xs) (k : Nat) (hk : k < xs.length) : ∃ ad, A = some ad ∧ w.cell? (ad.add (k * 2)) = some (.string xs[k].name) := by
  obtain ⟨ad, e, h0, h1⟩ := at_Setting h k hk
  exact ⟨ad, e, h0⟩
theorem at_Setting_value {w : World} {A : Option Addr} {xs : List DSetting} (h : Kd.C kSetting w A xs.length xs) (k : Nat) (hk : k < xs.length) : ∃ ad, A = some ad ∧ w.cell? ⟨(ad.add (k * 2)).block, (ad.add (k * 2)).off + 1, none⟩ = some (.string xs[k].value) := by
  obtain ⟨ad, e, h0, h1⟩ := at_Setting h k hk
  exact ⟨ad, e, h1⟩

structure DRelease where
  version : ByteArray
  old : Bool
def zRelease : DRelease := ⟨ByteArray.empty, false⟩
def kRelease : Kd DRelease := Kd.iso (Kd.pair Kd.string Kd.bool) (fun x : DRelease => (x.version, x.old))
theorem kRelease_open {w : World} {x : DRelease} {cs : List Value} (h : kRelease.K w x cs) : cs = [.string x.version, .bool x.old] := by
  obtain ⟨_, _, rfl, rfl, rfl⟩ := h
  exact rfl
theorem kRelease_mk (w : World) (x : DRelease)  : kRelease.K w x [.string x.version, .bool x.old] := ⟨[.string x.version], [.bool x.old], rfl, rfl, rfl⟩
theorem kRelease_mkM (w : World) (base : Nat) (ok : Nat → Prop) (x : DRelease) : kRelease.M w base ok x [.string x.version, .bool x.old] := ⟨[.string x.version], [.bool x.old], rfl, rfl, rfl⟩
theorem at_Release {w : World} {A : Option Addr} {xs : List DRelease} (h : Kd.C kRelease w A xs.length xs) (k : Nat) (hk : k < xs.length) : ∃ ad , A = some ad ∧ w.cell? (ad.add (k * 2)) = some (.string xs[k].version) ∧ w.cell? ⟨(ad.add (k * 2)).block, (ad.add (k * 2)).off + 1, none⟩ = some (.bool xs[k].old) := by
  obtain ⟨ad, c, e, _, hK, hc0⟩ := Kd.C_get h zRelease k (by omega) (by omega)
  have hc : ∀ j u, c[j]? = some u → w.cell? (ad.add (k * 2 + j)) = some u := hc0
  replace hK : kRelease.K w (xs.getD k zRelease) c := hK
  rw [getD_at _ _ hk] at hK
  obtain rfl := kRelease_open hK
  exact ⟨ad, e, hc 0 _ rfl, by rw [← add_field _ _ 1 (by omega)]; exact hc 1 _ rfl⟩
theorem at_Release_K {w : World} {A : Option Addr} {xs : List DRelease} (h : Kd.C kRelease w A xs.length xs) (k : Nat) (hk : k < xs.length) : ∃ ad , A = some ad ∧ w.cell? (ad.add (k * 2)) = some (.string xs[k].version) ∧ w.cell? ⟨(ad.add (k * 2)).block, (ad.add (k * 2)).off + 1, none⟩ = some (.bool xs[k].old) ∧ kRelease.K w xs[k] [.string xs[k].version, .bool xs[k].old] := by
  obtain ⟨ad, e, h0, h1⟩ := at_Release h k hk
  exact ⟨ad, e, h0, h1, kRelease_mk _ _⟩
theorem at_Release_version {w : World} {A : Option Addr} {xs : List DRelease} (h : Kd.C kRelease w A xs.length xs) (k : Nat) (hk : k < xs.length) : ∃ ad, A = some ad ∧ w.cell? (ad.add (k * 2)) = some (.string xs[k].version) := by
  obtain ⟨ad, e, h0, h1⟩ := at_Release h k hk
  exact ⟨ad, e, h0⟩
theorem at_Release_old {w : World} {A : Option Addr} {xs : List DRelease} (h : Kd.C kRelease w A xs.length xs) (k : Nat) (hk : k < xs.length) : ∃ ad, A = some ad ∧ w.cell? ⟨(ad.add (k * 2)).block, (ad.add (k * 2)).off + 1, none⟩ = some (.bool xs[k].old) := by
  obtain ⟨ad, e, h0, h1⟩ := at_Release h k hk
  exact ⟨ad, e, h1⟩

structure DVariant where
  name : ByteArray
  values : List ByteArray
def zVariant : DVariant := ⟨ByteArray.empty, []⟩
def kVariant : Kd DVariant := Kd.iso (Kd.pair Kd.string (Kd.slice 9 Kd.string)) (fun x : DVariant => (x.name, x.values))
theorem kVariant_open {w : World} {x : DVariant} {cs : List Value} (h : kVariant.K w x cs) : ∃ A1 c1, cs = [.string x.name, .slice A1 x.values.length c1] ∧ x.values.length ≤ c1 ∧ Kd.C Kd.string w A1 x.values.length x.values := by
  obtain ⟨_, _, rfl, rfl, ⟨A1, c1, rfl, l1, g1⟩⟩ := h
  exact ⟨A1, c1, rfl, l1, g1⟩
theorem kVariant_mk (w : World) (x : DVariant) {A1 : Option Addr} {c1 : Nat} (l1 : x.values.length ≤ c1) (g1 : Kd.C Kd.string w A1 x.values.length x.values) : kVariant.K w x [.string x.name, .slice A1 x.values.length c1] := ⟨[.string x.name], [.slice A1 x.values.length c1], rfl, rfl, ⟨A1, c1, rfl, l1, g1⟩⟩
theorem at_Variant {w : World} {A : Option Addr} {xs : List DVariant} (h : Kd.C kVariant w A xs.length xs) (k : Nat) (hk : k < xs.length) : ∃ ad A1 c1, A = some ad ∧ w.cell? (ad.add (k * 2)) = some (.string xs[k].name) ∧ w.cell? ⟨(ad.add (k * 2)).block, (ad.add (k * 2)).off + 1, none⟩ = some (.slice A1 xs[k].values.length c1) ∧ xs[k].values.length ≤ c1 ∧ Kd.C Kd.string w A1 xs[k].values.length xs[k].values := by
  obtain ⟨ad, c, e, _, hK, hc0⟩ := Kd.C_get h zVariant k (by omega) (by omega)
  have hc : ∀ j u, c[j]? = some u → w.cell? (ad.add (k * 2 + j)) = some u := hc0
  replace hK : kVariant.K w (xs.getD k zVariant) c := hK
  rw [getD_at _ _ hk] at hK
  obtain ⟨A1, c1, rfl, l1, g1⟩ := kVariant_open hK
  exact ⟨ad, A1, c1, e, hc 0 _ rfl, by rw [← add_field _ _ 1 (by omega)]; exact hc 1 _ rfl, l1, g1⟩
theorem at_Variant_K {w : World} {A : Option Addr} {xs : List DVariant} (h : Kd.C kVariant w A xs.length xs) (k : Nat) (hk : k < xs.length) : ∃ ad A1 c1, A = some ad ∧ w.cell? (ad.add (k * 2)) = some (.string xs[k].name) ∧ w.cell? ⟨(ad.add (k * 2)).block, (ad.add (k * 2)).off + 1, none⟩ = some (.slice A1 xs[k].values.length c1) ∧ kVariant.K w xs[k] [.string xs[k].name, .slice A1 xs[k].values.length c1] := by
  obtain ⟨ad, A1, c1, e, h0, h1, l1, g1⟩ := at_Variant h k hk
  exact ⟨ad, A1, c1, e, h0, h1, kVariant_mk _ _ l1 g1⟩
theorem at_Variant_name {w : World} {A : Option Addr} {xs : List DVariant} (h : Kd.C kVariant w A xs.length xs) (k : Nat) (hk : k < xs.length) : ∃ ad, A = some ad ∧ w.cell? (ad.add (k * 2)) = some (.string xs[k].name) := by
  obtain ⟨ad, A1, c1, e, h0, h1, l1, g1⟩ := at_Variant h k hk
  exact ⟨ad, e, h0⟩
theorem at_Variant_values {w : World} {A : Option Addr} {xs : List DVariant} (h : Kd.C kVariant w A xs.length xs) (k : Nat) (hk : k < xs.length) : ∃ ad A1 c1, A = some ad ∧ w.cell? ⟨(ad.add (k * 2)).block, (ad.add (k * 2)).off + 1, none⟩ = some (.slice A1 xs[k].values.length c1) ∧ xs[k].values.length ≤ c1 ∧ Kd.C Kd.string w A1 xs[k].values.length xs[k].values := by
  obtain ⟨ad, A1, c1, e, h0, h1, l1, g1⟩ := at_Variant h k hk
  exact ⟨ad, A1, c1, e, h1, l1, g1⟩

structure DSpec where
  name : ByteArray
  spans : List DSpan
  settings : List DSetting
def zSpec : DSpec := ⟨ByteArray.empty, [], []⟩
def kSpec : Kd DSpec := Kd.iso (Kd.pair Kd.string (Kd.pair (Kd.slice 86 kSpan) (Kd.slice 153 kSetting))) (fun x : DSpec => (x.name, x.spans, x.settings))
theorem kSpec_open {w : World} {x : DSpec} {cs : List Value} (h : kSpec.K w x cs) : ∃ A1 c1 A2 c2, cs = [.string x.name, .slice A1 x.spans.length c1, .slice A2 x.settings.length c2] ∧ x.spans.length ≤ c1 ∧ Kd.C kSpan w A1 x.spans.length x.spans ∧ x.settings.length ≤ c2 ∧ Kd.C kSetting w A2 x.settings.length x.settings := by
  obtain ⟨_, _, rfl, rfl, ⟨_, _, rfl, ⟨A1, c1, rfl, l1, g1⟩, ⟨A2, c2, rfl, l2, g2⟩⟩⟩ := h
  exact ⟨A1, c1, A2, c2, rfl, l1, g1, l2, g2⟩
theorem kSpec_mk (w : World) (x : DSpec) {A1 : Option Addr} {c1 : Nat} (l1 : x.spans.length ≤ c1) (g1 : Kd.C kSpan w A1 x.spans.length x.spans) {A2 : Option Addr} {c2 : Nat} (l2 : x.settings.length ≤ c2) (g2 : Kd.C kSetting w A2 x.settings.length x.settings) : kSpec.K w x [.string x.name, .slice A1 x.spans.length c1, .slice A2 x.settings.length c2] := ⟨[.string x.name], [.slice A1 x.spans.length c1, .slice A2 x.settings.length c2], rfl, rfl, ⟨[.slice A1 x.spans.length c1], [.slice A2 x.settings.length c2], rfl, ⟨A1, c1, rfl, l1, g1⟩, ⟨A2, c2, rfl, l2, g2⟩⟩⟩
theorem at_Spec {w : World} {A : Option Addr} {xs : List DSpec} (h : Kd.C kSpec w A xs.length xs) (k : Nat) (hk : k < xs.length) : ∃ ad A1 c1 A2 c2, A = some ad ∧ w.cell? (ad.add (k * 3)) = some (.string xs[k].name) ∧ w.cell? ⟨(ad.add (k * 3)).block, (ad.add (k * 3)).off + 1, none⟩ = some (.slice A1 xs[k].spans.length c1) ∧ w.cell? ⟨(ad.add (k * 3)).block, (ad.add (k * 3)).off + 2, none⟩ = some (.slice A2 xs[k].settings.length c2) ∧ xs[k].spans.length ≤ c1 ∧ Kd.C kSpan w A1 xs[k].spans.length xs[k].spans ∧ xs[k].settings.length ≤ c2 ∧ Kd.C kSetting w A2 xs[k].settings.length xs[k].settings := by
  obtain ⟨ad, c, e, _, hK, hc0⟩ := Kd.C_get h zSpec k (by omega) (by omega)
  have hc : ∀ j u, c[j]? = some u → w.cell? (ad.add (k * 3 + j)) = some u := hc0
  replace hK : kSpec.K w (xs.getD k zSpec) c := hK
  rw [getD_at _ _ hk] at hK
  obtain ⟨A1, c1, A2, c2, rfl, l1, g1, l2, g2⟩ := kSpec_open hK
  exact ⟨ad, A1, c1, A2, c2, e, hc 0 _ rfl, by rw [← add_field _ _ 1 (by omega)]; exact hc 1 _ rfl, by rw [← add_field _ _ 2 (by omega)]; exact hc 2 _ rfl, l1, g1, l2, g2⟩
theorem at_Spec_K {w : World} {A : Option Addr} {xs : List DSpec} (h : Kd.C kSpec w A xs.length xs) (k : Nat) (hk : k < xs.length) : ∃ ad A1 c1 A2 c2, A = some ad ∧ w.cell? (ad.add (k * 3)) = some (.string xs[k].name) ∧ w.cell? ⟨(ad.add (k * 3)).block, (ad.add (k * 3)).off + 1, none⟩ = some (.slice A1 xs[k].spans.length c1) ∧ w.cell? ⟨(ad.add (k * 3)).block, (ad.add (k * 3)).off + 2, none⟩ = some (.slice A2 xs[k].settings.length c2) ∧ kSpec.K w xs[k] [.string xs[k].name, .slice A1 xs[k].spans.length c1, .slice A2 xs[k].settings.length c2] := by
  obtain ⟨ad, A1, c1, A2, c2, e, h0, h1, h2, l1, g1, l2, g2⟩ := at_Spec h k hk
  exact ⟨ad, A1, c1, A2, c2, e, h0, h1, h2, kSpec_mk _ _ l1 g1 l2 g2⟩
theorem at_Spec_name {w : World} {A : Option Addr} {xs : List DSpec} (h : Kd.C kSpec w A xs.length xs) (k : Nat) (hk : k < xs.length) : ∃ ad, A = some ad ∧ w.cell? (ad.add (k * 3)) = some (.string xs[k].name) := by
  obtain ⟨ad, A1, c1, A2, c2, e, h0, h1, h2, l1, g1, l2, g2⟩ := at_Spec h k hk
  exact ⟨ad, e, h0⟩
theorem at_Spec_spans {w : World} {A : Option Addr} {xs : List DSpec} (h : Kd.C kSpec w A xs.length xs) (k : Nat) (hk : k < xs.length) : ∃ ad A1 c1, A = some ad ∧ w.cell? ⟨(ad.add (k * 3)).block, (ad.add (k * 3)).off + 1, none⟩ = some (.slice A1 xs[k].spans.length c1) ∧ xs[k].spans.length ≤ c1 ∧ Kd.C kSpan w A1 xs[k].spans.length xs[k].spans := by
  obtain ⟨ad, A1, c1, A2, c2, e, h0, h1, h2, l1, g1, l2, g2⟩ := at_Spec h k hk
  exact ⟨ad, A1, c1, e, h1, l1, g1⟩
theorem at_Spec_settings {w : World} {A : Option Addr} {xs : List DSpec} (h : Kd.C kSpec w A xs.length xs) (k : Nat) (hk : k < xs.length) : ∃ ad A2 c2, A = some ad ∧ w.cell? ⟨(ad.add (k * 3)).block, (ad.add (k * 3)).off + 2, none⟩ = some (.slice A2 xs[k].settings.length c2) ∧ xs[k].settings.length ≤ c2 ∧ Kd.C kSetting w A2 xs[k].settings.length xs[k].settings := by
  obtain ⟨ad, A1, c1, A2, c2, e, h0, h1, h2, l1, g1, l2, g2⟩ := at_Spec h k hk
  exact ⟨ad, A2, c2, e, h2, l2, g2⟩

structure DDepend where
  on_ : DSpec
  when_ : DSpec
  line : Int
def zDepend : DDepend := ⟨zSpec, zSpec, 0⟩
def kDepend : Kd DDepend := Kd.iso (Kd.pair kSpec (Kd.pair kSpec (Kd.int .i64))) (fun x : DDepend => (x.on_, x.when_, x.line))
theorem kDepend_open {w : World} {x : DDepend} {cs : List Value} (h : kDepend.K w x cs) : ∃ A1 c1 A2 c2 A4 c4 A5 c5, cs = [.string x.on_.name, .slice A1 x.on_.spans.length c1, .slice A2 x.on_.settings.length c2, .string x.when_.name, .slice A4 x.when_.spans.length c4, .slice A5 x.when_.settings.length c5, .int .i64 x.line] ∧ x.on_.spans.length ≤ c1 ∧ Kd.C kSpan w A1 x.on_.spans.length x.on_.spans ∧ x.on_.settings.length ≤ c2 ∧ Kd.C kSetting w A2 x.on_.settings.length x.on_.settings ∧ x.when_.spans.length ≤ c4 ∧ Kd.C kSpan w A4 x.when_.spans.length x.when_.spans ∧ x.when_.settings.length ≤ c5 ∧ Kd.C kSetting w A5 x.when_.settings.length x.when_.settings := by
  obtain ⟨_, _, rfl, s0, ⟨_, _, rfl, s3, rfl⟩⟩ := h
  obtain ⟨A1, c1, A2, c2, rfl, l1, g1, l2, g2⟩ := kSpec_open s0
  obtain ⟨A4, c4, A5, c5, rfl, l4, g4, l5, g5⟩ := kSpec_open s3
  exact ⟨A1, c1, A2, c2, A4, c4, A5, c5, rfl, l1, g1, l2, g2, l4, g4, l5, g5⟩
theorem kDepend_mk (w : World) (x : DDepend) {A1 : Option Addr} {c1 : Nat} (l1 : x.on_.spans.length ≤ c1) (g1 : Kd.C kSpan w A1 x.on_.spans.length x.on_.spans) {A2 : Option Addr} {c2 : Nat} (l2 : x.on_.settings.length ≤ c2) (g2 : Kd.C kSetting w A2 x.on_.settings.length x.on_.settings) {A4 : Option Addr} {c4 : Nat} (l4 : x.when_.spans.length ≤ c4) (g4 : Kd.C kSpan w A4 x.when_.spans.length x.when_.spans) {A5 : Option Addr} {c5 : Nat} (l5 : x.when_.settings.length ≤ c5) (g5 : Kd.C kSetting w A5 x.when_.settings.length x.when_.settings) : kDepend.K w x [.string x.on_.name, .slice A1 x.on_.spans.length c1, .slice A2 x.on_.settings.length c2, .string x.when_.name, .slice A4 x.when_.spans.length c4, .slice A5 x.when_.settings.length c5, .int .i64 x.line] := ⟨[.string x.on_.name, .slice A1 x.on_.spans.length c1, .slice A2 x.on_.settings.length c2], [.string x.when_.name, .slice A4 x.when_.spans.length c4, .slice A5 x.when_.settings.length c5, .int .i64 x.line], rfl, (kSpec_mk w x.on_ l1 g1 l2 g2), ⟨[.string x.when_.name, .slice A4 x.when_.spans.length c4, .slice A5 x.when_.settings.length c5], [.int .i64 x.line], rfl, (kSpec_mk w x.when_ l4 g4 l5 g5), rfl⟩⟩
theorem at_Depend {w : World} {A : Option Addr} {xs : List DDepend} (h : Kd.C kDepend w A xs.length xs) (k : Nat) (hk : k < xs.length) : ∃ ad A1 c1 A2 c2 A4 c4 A5 c5, A = some ad ∧ w.cell? (ad.add (k * 7)) = some (.string xs[k].on_.name) ∧ w.cell? ⟨(ad.add (k * 7)).block, (ad.add (k * 7)).off + 1, none⟩ = some (.slice A1 xs[k].on_.spans.length c1) ∧ w.cell? ⟨(ad.add (k * 7)).block, (ad.add (k * 7)).off + 2, none⟩ = some (.slice A2 xs[k].on_.settings.length c2) ∧ w.cell? ⟨(ad.add (k * 7)).block, (ad.add (k * 7)).off + 3, none⟩ = some (.string xs[k].when_.name) ∧ w.cell? ⟨(ad.add (k * 7)).block, (ad.add (k * 7)).off + 4, none⟩ = some (.slice A4 xs[k].when_.spans.length c4) ∧ w.cell? ⟨(ad.add (k * 7)).block, (ad.add (k * 7)).off + 5, none⟩ = some (.slice A5 xs[k].when_.settings.length c5) ∧ w.cell? ⟨(ad.add (k * 7)).block, (ad.add (k * 7)).off + 6, none⟩ = some (.int .i64 xs[k].line) ∧ xs[k].on_.spans.length ≤ c1 ∧ Kd.C kSpan w A1 xs[k].on_.spans.length xs[k].on_.spans ∧ xs[k].on_.settings.length ≤ c2 ∧ Kd.C kSetting w A2 xs[k].on_.settings.length xs[k].on_.settings ∧ xs[k].when_.spans.length ≤ c4 ∧ Kd.C kSpan w A4 xs[k].when_.spans.length xs[k].when_.spans ∧ xs[k].when_.settings.length ≤ c5 ∧ Kd.C kSetting w A5 xs[k].when_.settings.length xs[k].when_.settings := by
  obtain ⟨ad, c, e, _, hK, hc0⟩ := Kd.C_get h zDepend k (by omega) (by omega)
  have hc : ∀ j u, c[j]? = some u → w.cell? (ad.add (k * 7 + j)) = some u := hc0
  replace hK : kDepend.K w (xs.getD k zDepend) c := hK
  rw [getD_at _ _ hk] at hK
  obtain ⟨A1, c1, A2, c2, A4, c4, A5, c5, rfl, l1, g1, l2, g2, l4, g4, l5, g5⟩ := kDepend_open hK
  exact ⟨ad, A1, c1, A2, c2, A4, c4, A5, c5, e, hc 0 _ rfl, by rw [← add_field _ _ 1 (by omega)]; exact hc 1 _ rfl, by rw [← add_field _ _ 2 (by omega)]; exact hc 2 _ rfl, by rw [← add_field _ _ 3 (by omega)]; exact hc 3 _ rfl, by rw [← add_field _ _ 4 (by omega)]; exact hc 4 _ rfl, by rw [← add_field _ _ 5 (by omega)]; exact hc 5 _ rfl, by rw [← add_field _ _ 6 (by omega)]; exact hc 6 _ rfl, l1, g1, l2, g2, l4, g4, l5, g5⟩
theorem at_Depend_K {w : World} {A : Option Addr} {xs : List DDepend} (h : Kd.C kDepend w A xs.length xs) (k : Nat) (hk : k < xs.length) : ∃ ad A1 c1 A2 c2 A4 c4 A5 c5, A = some ad ∧ w.cell? (ad.add (k * 7)) = some (.string xs[k].on_.name) ∧ w.cell? ⟨(ad.add (k * 7)).block, (ad.add (k * 7)).off + 1, none⟩ = some (.slice A1 xs[k].on_.spans.length c1) ∧ w.cell? ⟨(ad.add (k * 7)).block, (ad.add (k * 7)).off + 2, none⟩ = some (.slice A2 xs[k].on_.settings.length c2) ∧ w.cell? ⟨(ad.add (k * 7)).block, (ad.add (k * 7)).off + 3, none⟩ = some (.string xs[k].when_.name) ∧ w.cell? ⟨(ad.add (k * 7)).block, (ad.add (k * 7)).off + 4, none⟩ = some (.slice A4 xs[k].when_.spans.length c4) ∧ w.cell? ⟨(ad.add (k * 7)).block, (ad.add (k * 7)).off + 5, none⟩ = some (.slice A5 xs[k].when_.settings.length c5) ∧ w.cell? ⟨(ad.add (k * 7)).block, (ad.add (k * 7)).off + 6, none⟩ = some (.int .i64 xs[k].line) ∧ kDepend.K w xs[k] [.string xs[k].on_.name, .slice A1 xs[k].on_.spans.length c1, .slice A2 xs[k].on_.settings.length c2, .string xs[k].when_.name, .slice A4 xs[k].when_.spans.length c4, .slice A5 xs[k].when_.settings.length c5, .int .i64 xs[k].line] := by
  obtain ⟨ad, A1, c1, A2, c2, A4, c4, A5, c5, e, h0, h1, h2, h3, h4, h5, h6, l1, g1, l2, g2, l4, g4, l5, g5⟩ := at_Depend h k hk
  exact ⟨ad, A1, c1, A2, c2, A4, c4, A5, c5, e, h0, h1, h2, h3, h4, h5, h6, kDepend_mk _ _ l1 g1 l2 g2 l4 g4 l5 g5⟩
theorem at_Depend_on_name {w : World} {A : Option Addr} {xs : List DDepend} (h : Kd.C kDepend w A xs.length xs) (k : Nat) (hk : k < xs.length) : ∃ ad, A = some ad ∧ w.cell? (ad.add (k * 7)) = some (.string xs[k].on_.name) := by
  obtain ⟨ad, A1, c1, A2, c2, A4, c4, A5, c5, e, h0, h1, h2, h3, h4, h5, h6, l1, g1, l2, g2, l4, g4, l5, g5⟩ := at_Depend h k hk
  exact ⟨ad, e, h0⟩
theorem at_Depend_on_spans {w : World} {A : Option Addr} {xs : List DDepend} (h : Kd.C kDepend w A xs.length xs) (k : Nat) (hk : k < xs.length) : ∃ ad A1 c1, A = some ad ∧ w.cell? ⟨(ad.add (k * 7)).block, (ad.add (k * 7)).off + 1, none⟩ = some (.slice A1 xs[k].on_.spans.length c1) ∧ xs[k].on_.spans.length ≤ c1 ∧ Kd.C kSpan w A1 xs[k].on_.spans.length xs[k].on_.spans := by
  obtain ⟨ad, A1, c1, A2, c2, A4, c4, A5, c5, e, h0, h1, h2, h3, h4, h5, h6, l1, g1, l2, g2, l4, g4, l5, g5⟩ := at_Depend h k hk
  exact ⟨ad, A1, c1, e, h1, l1, g1⟩
theorem at_Depend_on_settings {w : World} {A : Option Addr} {xs : List DDepend} (h : Kd.C kDepend w A xs.length xs) (k : Nat) (hk : k < xs.length) : ∃ ad A2 c2, A = some ad ∧ w.cell? ⟨(ad.add (k * 7)).block, (ad.add (k * 7)).off + 2, none⟩ = some (.slice A2 xs[k].on_.settings.length c2) ∧ xs[k].on_.settings.length ≤ c2 ∧ Kd.C kSetting w A2 xs[k].on_.settings.length xs[k].on_.settings := by
  obtain ⟨ad, A1, c1, A2, c2, A4, c4, A5, c5, e, h0, h1, h2, h3, h4, h5, h6, l1, g1, l2, g2, l4, g4, l5, g5⟩ := at_Depend h k hk
  exact ⟨ad, A2, c2, e, h2, l2, g2⟩
theorem at_Depend_when_name {w : World} {A : Option Addr} {xs : List DDepend} (h : Kd.C kDepend w A xs.length xs) (k : Nat) (hk : k < xs.length) : ∃ ad, A = some ad ∧ w.cell? ⟨(ad.add (k * 7)).block, (ad.add (k * 7)).off + 3, none⟩ = some (.string xs[k].when_.name) := by
  obtain ⟨ad, A1, c1, A2, c2, A4, c4, A5, c5, e, h0, h1, h2, h3, h4, h5, h6, l1, g1, l2, g2, l4, g4, l5, g5⟩ := at_Depend h k hk
  exact ⟨ad, e, h3⟩
theorem at_Depend_when_spans {w : World} {A : Option Addr} {xs : List DDepend} (h : Kd.C kDepend w A xs.length xs) (k : Nat) (hk : k < xs.length) : ∃ ad A4 c4, A = some ad ∧ w.cell? ⟨(ad.add (k * 7)).block, (ad.add (k * 7)).off + 4, none⟩ = some (.slice A4 xs[k].when_.spans.length c4) ∧ xs[k].when_.spans.length ≤ c4 ∧ Kd.C kSpan w A4 xs[k].when_.spans.length xs[k].when_.spans := by
  obtain ⟨ad, A1, c1, A2, c2, A4, c4, A5, c5, e, h0, h1, h2, h3, h4, h5, h6, l1, g1, l2, g2, l4, g4, l5, g5⟩ := at_Depend h k hk
  exact ⟨ad, A4, c4, e, h4, l4, g4⟩
theorem at_Depend_when_settings {w : World} {A : Option Addr} {xs : List DDepend} (h : Kd.C kDepend w A xs.length xs) (k : Nat) (hk : k < xs.length) : ∃ ad A5 c5, A = some ad ∧ w.cell? ⟨(ad.add (k * 7)).block, (ad.add (k * 7)).off + 5, none⟩ = some (.slice A5 xs[k].when_.settings.length c5) ∧ xs[k].when_.settings.length ≤ c5 ∧ Kd.C kSetting w A5 xs[k].when_.settings.length xs[k].when_.settings := by
  obtain ⟨ad, A1, c1, A2, c2, A4, c4, A5, c5, e, h0, h1, h2, h3, h4, h5, h6, l1, g1, l2, g2, l4, g4, l5, g5⟩ := at_Depend h k hk
  exact ⟨ad, A5, c5, e, h5, l5, g5⟩
theorem at_Depend_line {w : World} {A : Option Addr} {xs : List DDepend} (h : Kd.C kDepend w A xs.length xs) (k : Nat) (hk : k < xs.length) : ∃ ad, A = some ad ∧ w.cell? ⟨(ad.add (k * 7)).block, (ad.add (k * 7)).off + 6, none⟩ = some (.int .i64 xs[k].line) := by
  obtain ⟨ad, A1, c1, A2, c2, A4, c4, A5, c5, e, h0, h1, h2, h3, h4, h5, h6, l1, g1, l2, g2, l4, g4, l5, g5⟩ := at_Depend h k hk
  exact ⟨ad, e, h6⟩

structure DConflict where
  when_ : DSpec
  with_ : DSpec
  line : Int
def zConflict : DConflict := ⟨zSpec, zSpec, 0⟩
def kConflict : Kd DConflict := Kd.iso (Kd.pair kSpec (Kd.pair kSpec (Kd.int .i64))) (fun x : DConflict => (x.when_, x.with_, x.line))
theorem kConflict_open {w : World} {x : DConflict} {cs : List Value} (h : kConflict.K w x cs) : ∃ A1 c1 A2 c2 A4 c4 A5 c5, cs = [.string x.when_.name, .slice A1 x.when_.spans.length c1, .slice A2 x.when_.settings.length c2, .string x.with_.name, .slice A4 x.with_.spans.length c4, .slice A5 x.with_.settings.length c5, .int .i64 x.line] ∧ x.when_.spans.length ≤ c1 ∧ Kd.C kSpan w A1 x.when_.spans.length x.when_.spans ∧ x.when_.settings.length ≤ c2 ∧ Kd.C kSetting w A2 x.when_.settings.length x.when_.settings ∧ x.with_.spans.length ≤ c4 ∧ Kd.C kSpan w A4 x.with_.spans.length x.with_.spans ∧ x.with_.settings.length ≤ c5 ∧ Kd.C kSetting w A5 x.with_.settings.length x.with_.settings := by
  obtain ⟨_, _, rfl, s0, ⟨_, _, rfl, s3, rfl⟩⟩ := h
  obtain ⟨A1, c1, A2, c2, rfl, l1, g1, l2, g2⟩ := kSpec_open s0
  obtain ⟨A4, c4, A5, c5, rfl, l4, g4, l5, g5⟩ := kSpec_open s3
  exact ⟨A1, c1, A2, c2, A4, c4, A5, c5, rfl, l1, g1, l2, g2, l4, g4, l5, g5⟩
theorem kConflict_mk (w : World) (x : DConflict) {A1 : Option Addr} {c1 : Nat} (l1 : x.when_.spans.length ≤ c1) (g1 : Kd.C kSpan w A1 x.when_.spans.length x.when_.spans) {A2 : Option Addr} {c2 : Nat} (l2 : x.when_.settings.length ≤ c2) (g2 : Kd.C kSetting w A2 x.when_.settings.length x.when_.settings) {A4 : Option Addr} {c4 : Nat} (l4 : x.with_.spans.length ≤ c4) (g4 : Kd.C kSpan w A4 x.with_.spans.length x.with_.spans) {A5 : Option Addr} {c5 : Nat} (l5 : x.with_.settings.length ≤ c5) (g5 : Kd.C kSetting w A5 x.with_.settings.length x.with_.settings) : kConflict.K w x [.string x.when_.name, .slice A1 x.when_.spans.length c1, .slice A2 x.when_.settings.length c2, .string x.with_.name, .slice A4 x.with_.spans.length c4, .slice A5 x.with_.settings.length c5, .int .i64 x.line] := ⟨[.string x.when_.name, .slice A1 x.when_.spans.length c1, .slice A2 x.when_.settings.length c2], [.string x.with_.name, .slice A4 x.with_.spans.length c4, .slice A5 x.with_.settings.length c5, .int .i64 x.line], rfl, (kSpec_mk w x.when_ l1 g1 l2 g2), ⟨[.string x.with_.name, .slice A4 x.with_.spans.length c4, .slice A5 x.with_.settings.length c5], [.int .i64 x.line], rfl, (kSpec_mk w x.with_ l4 g4 l5 g5), rfl⟩⟩
theorem at_Conflict {w : World} {A : Option Addr} {xs : List DConflict} (h : Kd.C kConflict w A xs.length xs) (k : Nat) (hk : k < xs.length) : ∃ ad A1 c1 A2 c2 A4 c4 A5 c5, A = some ad ∧ w.cell? (ad.add (k * 7)) = some (.string xs[k].when_.name) ∧ w.cell? ⟨(ad.add (k * 7)).block, (ad.add (k * 7)).off + 1, none⟩ = some (.slice A1 xs[k].when_.spans.length c1) ∧ w.cell? ⟨(ad.add (k * 7)).block, (ad.add (k * 7)).off + 2, none⟩ = some (.slice A2 xs[k].when_.settings.length c2) ∧ w.cell? ⟨(ad.add (k * 7)).block, (ad.add (k * 7)).off + 3, none⟩ = some (.string xs[k].with_.name) ∧ w.cell? ⟨(ad.add (k * 7)).block, (ad.add (k * 7)).off + 4, none⟩ = some (.slice A4 xs[k].with_.spans.length c4) ∧ w.cell? ⟨(ad.add (k * 7)).block, (ad.add (k * 7)).off + 5, none⟩ = some (.slice A5 xs[k].with_.settings.length c5) ∧ w.cell? ⟨(ad.add (k * 7)).block, (ad.add (k * 7)).off + 6, none⟩ = some (.int .i64 xs[k].line) ∧ xs[k].when_.spans.length ≤ c1 ∧ Kd.C kSpan w A1 xs[k].when_.spans.length xs[k].when_.spans ∧ xs[k].when_.settings.length ≤ c2 ∧ Kd.C kSetting w A2 xs[k].when_.settings.length xs[k].when_.settings ∧ xs[k].with_.spans.length ≤ c4 ∧ Kd.C kSpan w A4 xs[k].with_.spans.length xs[k].with_.spans ∧ xs[k].with_.settings.length ≤ c5 ∧ Kd.C kSetting w A5 xs[k].with_.settings.length xs[k].with_.settings := by
  obtain ⟨ad, c, e, _, hK, hc0⟩ := Kd.C_get h zConflict k (by omega) (by omega)
  have hc : ∀ j u, c[j]? = some u → w.cell? (ad.add (k * 7 + j)) = some u := hc0
  replace hK : kConflict.K w (xs.getD k zConflict) c := hK
  rw [getD_at _ _ hk] at hK
  obtain ⟨A1, c1, A2, c2, A4, c4, A5, c5, rfl, l1, g1, l2, g2, l4, g4, l5, g5⟩ := kConflict_open hK
  exact ⟨ad, A1, c1, A2, c2, A4, c4, A5, c5, e, hc 0 _ rfl, by rw [← add_field _ _ 1 (by omega)]; exact hc 1 _ rfl, by rw [← add_field _ _ 2 (by omega)]; exact hc 2 _ rfl, by rw [← add_field _ _ 3 (by omega)]; exact hc 3 _ rfl, by rw [← add_field _ _ 4 (by omega)]; exact hc 4 _ rfl, by rw [← add_field _ _ 5 (by omega)]; exact hc 5 _ rfl, by rw [← add_field _ _ 6 (by omega)]; exact hc 6 _ rfl, l1, g1, l2, g2, l4, g4, l5, g5⟩
theorem at_Conflict_K {w : World} {A : Option Addr} {xs : List DConflict} (h : Kd.C kConflict w A xs.length xs) (k : Nat) (hk : k < xs.length) : ∃ ad A1 c1 A2 c2 A4 c4 A5 c5, A = some ad ∧ w.cell? (ad.add (k * 7)) = some (.string xs[k].when_.name) ∧ w.cell? ⟨(ad.add (k * 7)).block, (ad.add (k * 7)).off + 1, none⟩ = some (.slice A1 xs[k].when_.spans.length c1) ∧ w.cell? ⟨(ad.add (k * 7)).block, (ad.add (k * 7)).off + 2, none⟩ = some (.slice A2 xs[k].when_.settings.length c2) ∧ w.cell? ⟨(ad.add (k * 7)).block, (ad.add (k * 7)).off + 3, none⟩ = some (.string xs[k].with_.name) ∧ w.cell? ⟨(ad.add (k * 7)).block, (ad.add (k * 7)).off + 4, none⟩ = some (.slice A4 xs[k].with_.spans.length c4) ∧ w.cell? ⟨(ad.add (k * 7)).block, (ad.add (k * 7)).off + 5, none⟩ = some (.slice A5 xs[k].with_.settings.length c5) ∧ w.cell? ⟨(ad.add (k * 7)).block, (ad.add (k * 7)).off + 6, none⟩ = some (.int .i64 xs[k].line) ∧ kConflict.K w xs[k] [.string xs[k].when_.name, .slice A1 xs[k].when_.spans.length c1, .slice A2 xs[k].when_.settings.length c2, .string xs[k].with_.name, .slice A4 xs[k].with_.spans.length c4, .slice A5 xs[k].with_.settings.length c5, .int .i64 xs[k].line] := by
  obtain ⟨ad, A1, c1, A2, c2, A4, c4, A5, c5, e, h0, h1, h2, h3, h4, h5, h6, l1, g1, l2, g2, l4, g4, l5, g5⟩ := at_Conflict h k hk
  exact ⟨ad, A1, c1, A2, c2, A4, c4, A5, c5, e, h0, h1, h2, h3, h4, h5, h6, kConflict_mk _ _ l1 g1 l2 g2 l4 g4 l5 g5⟩
theorem at_Conflict_when_name {w : World} {A : Option Addr} {xs : List DConflict} (h : Kd.C kConflict w A xs.length xs) (k : Nat) (hk : k < xs.length) : ∃ ad, A = some ad ∧ w.cell? (ad.add (k * 7)) = some (.string xs[k].when_.name) := by
  obtain ⟨ad, A1, c1, A2, c2, A4, c4, A5, c5, e, h0, h1, h2, h3, h4, h5, h6, l1, g1, l2, g2, l4, g4, l5, g5⟩ := at_Conflict h k hk
  exact ⟨ad, e, h0⟩
theorem at_Conflict_when_spans {w : World} {A : Option Addr} {xs : List DConflict} (h : Kd.C kConflict w A xs.length xs) (k : Nat) (hk : k < xs.length) : ∃ ad A1 c1, A = some ad ∧ w.cell? ⟨(ad.add (k * 7)).block, (ad.add (k * 7)).off + 1, none⟩ = some (.slice A1 xs[k].when_.spans.length c1) ∧ xs[k].when_.spans.length ≤ c1 ∧ Kd.C kSpan w A1 xs[k].when_.spans.length xs[k].when_.spans := by
  obtain ⟨ad, A1, c1, A2, c2, A4, c4, A5, c5, e, h0, h1, h2, h3, h4, h5, h6, l1, g1, l2, g2, l4, g4, l5, g5⟩ := at_Conflict h k hk
  exact ⟨ad, A1, c1, e, h1, l1, g1⟩
theorem at_Conflict_when_settings {w : World} {A : Option Addr} {xs : List DConflict} (h : Kd.C kConflict w A xs.length xs) (k : Nat) (hk : k < xs.length) : ∃ ad A2 c2, A = some ad ∧ w.cell? ⟨(ad.add (k * 7)).block, (ad.add (k * 7)).off + 2, none⟩ = some (.slice A2 xs[k].when_.settings.length c2) ∧ xs[k].when_.settings.length ≤ c2 ∧ Kd.C kSetting w A2 xs[k].when_.settings.length xs[k].when_.settings := by
  obtain ⟨ad, A1, c1, A2, c2, A4, c4, A5, c5, e, h0, h1, h2, h3, h4, h5, h6, l1, g1, l2, g2, l4, g4, l5, g5⟩ := at_Conflict h k hk
  exact ⟨ad, A2, c2, e, h2, l2, g2⟩
theorem at_Conflict_with_name {w : World} {A : Option Addr} {xs : List DConflict} (h : Kd.C kConflict w A xs.length xs) (k : Nat) (hk : k < xs.length) : ∃ ad, A = some ad ∧ w.cell? ⟨(ad.add (k * 7)).block, (ad.add (k * 7)).off + 3, none⟩ = some (.string xs[k].with_.name) := by
  obtain ⟨ad, A1, c1, A2, c2, A4, c4, A5, c5, e, h0, h1, h2, h3, h4, h5, h6, l1, g1, l2, g2, l4, g4, l5, g5⟩ := at_Conflict h k hk
  exact ⟨ad, e, h3⟩
theorem at_Conflict_with_spans {w : World} {A : Option Addr} {xs : List DConflict} (h : Kd.C kConflict w A xs.length xs) (k : Nat) (hk : k < xs.length) : ∃ ad A4 c4, A = some ad ∧ w.cell? ⟨(ad.add (k * 7)).block, (ad.add (k * 7)).off + 4, none⟩ = some (.slice A4 xs[k].with_.spans.length c4) ∧ xs[k].with_.spans.length ≤ c4 ∧ Kd.C kSpan w A4 xs[k].with_.spans.length xs[k].with_.spans := by
  obtain ⟨ad, A1, c1, A2, c2, A4, c4, A5, c5, e, h0, h1, h2, h3, h4, h5, h6, l1, g1, l2, g2, l4, g4, l5, g5⟩ := at_Conflict h k hk
  exact ⟨ad, A4, c4, e, h4, l4, g4⟩
theorem at_Conflict_with_settings {w : World} {A : Option Addr} {xs : List DConflict} (h : Kd.C kConflict w A xs.length xs) (k : Nat) (hk : k < xs.length) : ∃ ad A5 c5, A = some ad ∧ w.cell? ⟨(ad.add (k * 7)).block, (ad.add (k * 7)).off + 5, none⟩ = some (.slice A5 xs[k].with_.settings.length c5) ∧ xs[k].with_.settings.length ≤ c5 ∧ Kd.C kSetting w A5 xs[k].with_.settings.length xs[k].with_.settings := by
  obtain ⟨ad, A1, c1, A2, c2, A4, c4, A5, c5, e, h0, h1, h2, h3, h4, h5, h6, l1, g1, l2, g2, l4, g4, l5, g5⟩ := at_Conflict h k hk
  exact ⟨ad, A5, c5, e, h5, l5, g5⟩
theorem at_Conflict_line {w : World} {A : Option Addr} {xs : List DConflict} (h : Kd.C kConflict w A xs.length xs) (k : Nat) (hk : k < xs.length) : ∃ ad, A = some ad ∧ w.cell? ⟨(ad.add (k * 7)).block, (ad.add (k * 7)).off + 6, none⟩ = some (.int .i64 xs[k].line) := by
  obtain ⟨ad, A1, c1, A2, c2, A4, c4, A5, c5, e, h0, h1, h2, h3, h4, h5, h6, l1, g1, l2, g2, l4, g4, l5, g5⟩ := at_Conflict h k hk
  exact ⟨ad, e, h6⟩

structure DPackage where
  name : ByteArray
  line : Int
  releases : List DRelease
  variants : List DVariant
  provides : List ByteArray
  depends : List DDepend
  conflicts : List DConflict
  files : List ByteArray
def zPackage : DPackage := ⟨ByteArray.empty, 0, [], [], [], [], [], []⟩
def kPackage : Kd DPackage := Kd.iso (Kd.pair Kd.string (Kd.pair (Kd.int .i64) (Kd.pair (Kd.slice 84 kRelease) (Kd.pair (Kd.slice 99 kVariant) (Kd.pair (Kd.slice 9 Kd.string) (Kd.pair (Kd.slice 53 kDepend) (Kd.pair (Kd.slice 55 kConflict) (Kd.slice 9 Kd.string)))))))) (fun x : DPackage => (x.name, x.line, x.releases, x.variants, x.provides, x.depends, x.conflicts, x.files))
theorem kPackage_open {w : World} {x : DPackage} {cs : List Value} (h : kPackage.K w x cs) : ∃ A2 c2 A3 c3 A4 c4 A5 c5 A6 c6 A7 c7, cs = [.string x.name, .int .i64 x.line, .slice A2 x.releases.length c2, .slice A3 x.variants.length c3, .slice A4 x.provides.length c4, .slice A5 x.depends.length c5, .slice A6 x.conflicts.length c6, .slice A7 x.files.length c7] ∧ x.releases.length ≤ c2 ∧ Kd.C kRelease w A2 x.releases.length x.releases ∧ x.variants.length ≤ c3 ∧ Kd.C kVariant w A3 x.variants.length x.variants ∧ x.provides.length ≤ c4 ∧ Kd.C Kd.string w A4 x.provides.length x.provides ∧ x.depends.length ≤ c5 ∧ Kd.C kDepend w A5 x.depends.length x.depends ∧ x.conflicts.length ≤ c6 ∧ Kd.C kConflict w A6 x.conflicts.length x.conflicts ∧ x.files.length ≤ c7 ∧ Kd.C Kd.string w A7 x.files.length x.files := by
  obtain ⟨_, _, rfl, rfl, ⟨_, _, rfl, rfl, ⟨_, _, rfl, ⟨A2, c2, rfl, l2, g2⟩, ⟨_, _, rfl, ⟨A3, c3, rfl, l3, g3⟩, ⟨_, _, rfl, ⟨A4, c4, rfl, l4, g4⟩, ⟨_, _, rfl, ⟨A5, c5, rfl, l5, g5⟩, ⟨_, _, rfl, ⟨A6, c6, rfl, l6, g6⟩, ⟨A7, c7, rfl, l7, g7⟩⟩⟩⟩⟩⟩⟩⟩ := h
  exact ⟨A2, c2, A3, c3, A4, c4, A5, c5, A6, c6, A7, c7, rfl, l2, g2, l3, g3, l4, g4, l5, g5, l6, g6, l7, g7⟩
theorem kPackage_mk (w : World) (x : DPackage) {A2 : Option Addr} {c2 : Nat} (l2 : x.releases.length ≤ c2) (g2 : Kd.C kRelease w A2 x.releases.length x.releases) {A3 : Option Addr} {c3 : Nat} (l3 : x.variants.length ≤ c3) (g3 : Kd.C kVariant w A3 x.variants.length x.variants) {A4 : Option Addr} {c4 : Nat} (l4 : x.provides.length ≤ c4) (g4 : Kd.C Kd.string w A4 x.provides.length x.provides) {A5 : Option Addr} {c5 : Nat} (l5 : x.depends.length ≤ c5) (g5 : Kd.C kDepend w A5 x.depends.length x.depends) {A6 : Option Addr} {c6 : Nat} (l6 : x.conflicts.length ≤ c6) (g6 : Kd.C kConflict w A6 x.conflicts.length x.conflicts) {A7 : Option Addr} {c7 : Nat} (l7 : x.files.length ≤ c7) (g7 : Kd.C Kd.string w A7 x.files.length x.files) : kPackage.K w x [.string x.name, .int .i64 x.line, .slice A2 x.releases.length c2, .slice A3 x.variants.length c3, .slice A4 x.provides.length c4, .slice A5 x.depends.length c5, .slice A6 x.conflicts.length c6, .slice A7 x.files.length c7] := ⟨[.string x.name], [.int .i64 x.line, .slice A2 x.releases.length c2, .slice A3 x.variants.length c3, .slice A4 x.provides.length c4, .slice A5 x.depends.length c5, .slice A6 x.conflicts.length c6, .slice A7 x.files.length c7], rfl, rfl, ⟨[.int .i64 x.line], [.slice A2 x.releases.length c2, .slice A3 x.variants.length c3, .slice A4 x.provides.length c4, .slice A5 x.depends.length c5, .slice A6 x.conflicts.length c6, .slice A7 x.files.length c7], rfl, rfl, ⟨[.slice A2 x.releases.length c2], [.slice A3 x.variants.length c3, .slice A4 x.provides.length c4, .slice A5 x.depends.length c5, .slice A6 x.conflicts.length c6, .slice A7 x.files.length c7], rfl, ⟨A2, c2, rfl, l2, g2⟩, ⟨[.slice A3 x.variants.length c3], [.slice A4 x.provides.length c4, .slice A5 x.depends.length c5, .slice A6 x.conflicts.length c6, .slice A7 x.files.length c7], rfl, ⟨A3, c3, rfl, l3, g3⟩, ⟨[.slice A4 x.provides.length c4], [.slice A5 x.depends.length c5, .slice A6 x.conflicts.length c6, .slice A7 x.files.length c7], rfl, ⟨A4, c4, rfl, l4, g4⟩, ⟨[.slice A5 x.depends.length c5], [.slice A6 x.conflicts.length c6, .slice A7 x.files.length c7], rfl, ⟨A5, c5, rfl, l5, g5⟩, ⟨[.slice A6 x.conflicts.length c6], [.slice A7 x.files.length c7], rfl, ⟨A6, c6, rfl, l6, g6⟩, ⟨A7, c7, rfl, l7, g7⟩⟩⟩⟩⟩⟩⟩⟩
theorem at_Package {w : World} {A : Option Addr} {xs : List DPackage} (h : Kd.C kPackage w A xs.length xs) (k : Nat) (hk : k < xs.length) : ∃ ad A2 c2 A3 c3 A4 c4 A5 c5 A6 c6 A7 c7, A = some ad ∧ w.cell? (ad.add (k * 8)) = some (.string xs[k].name) ∧ w.cell? ⟨(ad.add (k * 8)).block, (ad.add (k * 8)).off + 1, none⟩ = some (.int .i64 xs[k].line) ∧ w.cell? ⟨(ad.add (k * 8)).block, (ad.add (k * 8)).off + 2, none⟩ = some (.slice A2 xs[k].releases.length c2) ∧ w.cell? ⟨(ad.add (k * 8)).block, (ad.add (k * 8)).off + 3, none⟩ = some (.slice A3 xs[k].variants.length c3) ∧ w.cell? ⟨(ad.add (k * 8)).block, (ad.add (k * 8)).off + 4, none⟩ = some (.slice A4 xs[k].provides.length c4) ∧ w.cell? ⟨(ad.add (k * 8)).block, (ad.add (k * 8)).off + 5, none⟩ = some (.slice A5 xs[k].depends.length c5) ∧ w.cell? ⟨(ad.add (k * 8)).block, (ad.add (k * 8)).off + 6, none⟩ = some (.slice A6 xs[k].conflicts.length c6) ∧ w.cell? ⟨(ad.add (k * 8)).block, (ad.add (k * 8)).off + 7, none⟩ = some (.slice A7 xs[k].files.length c7) ∧ xs[k].releases.length ≤ c2 ∧ Kd.C kRelease w A2 xs[k].releases.length xs[k].releases ∧ xs[k].variants.length ≤ c3 ∧ Kd.C kVariant w A3 xs[k].variants.length xs[k].variants ∧ xs[k].provides.length ≤ c4 ∧ Kd.C Kd.string w A4 xs[k].provides.length xs[k].provides ∧ xs[k].depends.length ≤ c5 ∧ Kd.C kDepend w A5 xs[k].depends.length xs[k].depends ∧ xs[k].conflicts.length ≤ c6 ∧ Kd.C kConflict w A6 xs[k].conflicts.length xs[k].conflicts ∧ xs[k].files.length ≤ c7 ∧ Kd.C Kd.string w A7 xs[k].files.length xs[k].files := by
  obtain ⟨ad, c, e, _, hK, hc0⟩ := Kd.C_get h zPackage k (by omega) (by omega)
  have hc : ∀ j u, c[j]? = some u → w.cell? (ad.add (k * 8 + j)) = some u := hc0
  replace hK : kPackage.K w (xs.getD k zPackage) c := hK
  rw [getD_at _ _ hk] at hK
  obtain ⟨A2, c2, A3, c3, A4, c4, A5, c5, A6, c6, A7, c7, rfl, l2, g2, l3, g3, l4, g4, l5, g5, l6, g6, l7, g7⟩ := kPackage_open hK
  exact ⟨ad, A2, c2, A3, c3, A4, c4, A5, c5, A6, c6, A7, c7, e, hc 0 _ rfl, by rw [← add_field _ _ 1 (by omega)]; exact hc 1 _ rfl, by rw [← add_field _ _ 2 (by omega)]; exact hc 2 _ rfl, by rw [← add_field _ _ 3 (by omega)]; exact hc 3 _ rfl, by rw [← add_field _ _ 4 (by omega)]; exact hc 4 _ rfl, by rw [← add_field _ _ 5 (by omega)]; exact hc 5 _ rfl, by rw [← add_field _ _ 6 (by omega)]; exact hc 6 _ rfl, by rw [← add_field _ _ 7 (by omega)]; exact hc 7 _ rfl, l2, g2, l3, g3, l4, g4, l5, g5, l6, g6, l7, g7⟩
theorem at_Package_K {w : World} {A : Option Addr} {xs : List DPackage} (h : Kd.C kPackage w A xs.length xs) (k : Nat) (hk : k < xs.length) : ∃ ad A2 c2 A3 c3 A4 c4 A5 c5 A6 c6 A7 c7, A = some ad ∧ w.cell? (ad.add (k * 8)) = some (.string xs[k].name) ∧ w.cell? ⟨(ad.add (k * 8)).block, (ad.add (k * 8)).off + 1, none⟩ = some (.int .i64 xs[k].line) ∧ w.cell? ⟨(ad.add (k * 8)).block, (ad.add (k * 8)).off + 2, none⟩ = some (.slice A2 xs[k].releases.length c2) ∧ w.cell? ⟨(ad.add (k * 8)).block, (ad.add (k * 8)).off + 3, none⟩ = some (.slice A3 xs[k].variants.length c3) ∧ w.cell? ⟨(ad.add (k * 8)).block, (ad.add (k * 8)).off + 4, none⟩ = some (.slice A4 xs[k].provides.length c4) ∧ w.cell? ⟨(ad.add (k * 8)).block, (ad.add (k * 8)).off + 5, none⟩ = some (.slice A5 xs[k].depends.length c5) ∧ w.cell? ⟨(ad.add (k * 8)).block, (ad.add (k * 8)).off + 6, none⟩ = some (.slice A6 xs[k].conflicts.length c6) ∧ w.cell? ⟨(ad.add (k * 8)).block, (ad.add (k * 8)).off + 7, none⟩ = some (.slice A7 xs[k].files.length c7) ∧ kPackage.K w xs[k] [.string xs[k].name, .int .i64 xs[k].line, .slice A2 xs[k].releases.length c2, .slice A3 xs[k].variants.length c3, .slice A4 xs[k].provides.length c4, .slice A5 xs[k].depends.length c5, .slice A6 xs[k].conflicts.length c6, .slice A7 xs[k].files.length c7] := by
  obtain ⟨ad, A2, c2, A3, c3, A4, c4, A5, c5, A6, c6, A7, c7, e, h0, h1, h2, h3, h4, h5, h6, h7, l2, g2, l3, g3, l4, g4, l5, g5, l6, g6, l7, g7⟩ := at_Package h k hk
  exact ⟨ad, A2, c2, A3, c3, A4, c4, A5, c5, A6, c6, A7, c7, e, h0, h1, h2, h3, h4, h5, h6, h7, kPackage_mk _ _ l2 g2 l3 g3 l4 g4 l5 g5 l6 g6 l7 g7⟩
theorem at_Package_name {w : World} {A : Option Addr} {xs : List DPackage} (h : Kd.C kPackage w A xs.length xs) (k : Nat) (hk : k < xs.length) : ∃ ad, A = some ad ∧ w.cell? (ad.add (k * 8)) = some (.string xs[k].name) := by
  obtain ⟨ad, A2, c2, A3, c3, A4, c4, A5, c5, A6, c6, A7, c7, e, h0, h1, h2, h3, h4, h5, h6, h7, l2, g2, l3, g3, l4, g4, l5, g5, l6, g6, l7, g7⟩ := at_Package h k hk
  exact ⟨ad, e, h0⟩
theorem at_Package_line {w : World} {A : Option Addr} {xs : List DPackage} (h : Kd.C kPackage w A xs.length xs) (k : Nat) (hk : k < xs.length) : ∃ ad, A = some ad ∧ w.cell? ⟨(ad.add (k * 8)).block, (ad.add (k * 8)).off + 1, none⟩ = some (.int .i64 xs[k].line) := by
  obtain ⟨ad, A2, c2, A3, c3, A4, c4, A5, c5, A6, c6, A7, c7, e, h0, h1, h2, h3, h4, h5, h6, h7, l2, g2, l3, g3, l4, g4, l5, g5, l6, g6, l7, g7⟩ := at_Package h k hk
  exact ⟨ad, e, h1⟩
theorem at_Package_releases {w : World} {A : Option Addr} {xs : List DPackage} (h : Kd.C kPackage w A xs.length xs) (k : Nat) (hk : k < xs.length) : ∃ ad A2 c2, A = some ad ∧ w.cell? ⟨(ad.add (k * 8)).block, (ad.add (k * 8)).off + 2, none⟩ = some (.slice A2 xs[k].releases.length c2) ∧ xs[k].releases.length ≤ c2 ∧ Kd.C kRelease w A2 xs[k].releases.length xs[k].releases := by
  obtain ⟨ad, A2, c2, A3, c3, A4, c4, A5, c5, A6, c6, A7, c7, e, h0, h1, h2, h3, h4, h5, h6, h7, l2, g2, l3, g3, l4, g4, l5, g5, l6, g6, l7, g7⟩ := at_Package h k hk
  exact ⟨ad, A2, c2, e, h2, l2, g2⟩
theorem at_Package_variants {w : World} {A : Option Addr} {xs : List DPackage} (h : Kd.C kPackage w A xs.length xs) (k : Nat) (hk : k < xs.length) : ∃ ad A3 c3, A = some ad ∧ w.cell? ⟨(ad.add (k * 8)).block, (ad.add (k * 8)).off + 3, none⟩ = some (.slice A3 xs[k].variants.length c3) ∧ xs[k].variants.length ≤ c3 ∧ Kd.C kVariant w A3 xs[k].variants.length xs[k].variants := by
  obtain ⟨ad, A2, c2, A3, c3, A4, c4, A5, c5, A6, c6, A7, c7, e, h0, h1, h2, h3, h4, h5, h6, h7, l2, g2, l3, g3, l4, g4, l5, g5, l6, g6, l7, g7⟩ := at_Package h k hk
  exact ⟨ad, A3, c3, e, h3, l3, g3⟩
theorem at_Package_provides {w : World} {A : Option Addr} {xs : List DPackage} (h : Kd.C kPackage w A xs.length xs) (k : Nat) (hk : k < xs.length) : ∃ ad A4 c4, A = some ad ∧ w.cell? ⟨(ad.add (k * 8)).block, (ad.add (k * 8)).off + 4, none⟩ = some (.slice A4 xs[k].provides.length c4) ∧ xs[k].provides.length ≤ c4 ∧ Kd.C Kd.string w A4 xs[k].provides.length xs[k].provides := by
  obtain ⟨ad, A2, c2, A3, c3, A4, c4, A5, c5, A6, c6, A7, c7, e, h0, h1, h2, h3, h4, h5, h6, h7, l2, g2, l3, g3, l4, g4, l5, g5, l6, g6, l7, g7⟩ := at_Package h k hk
  exact ⟨ad, A4, c4, e, h4, l4, g4⟩
theorem at_Package_depends {w : World} {A : Option Addr} {xs : List DPackage} (h : Kd.C kPackage w A xs.length xs) (k : Nat) (hk : k < xs.length) : ∃ ad A5 c5, A = some ad ∧ w.cell? ⟨(ad.add (k * 8)).block, (ad.add (k * 8)).off + 5, none⟩ = some (.slice A5 xs[k].depends.length c5) ∧ xs[k].depends.length ≤ c5 ∧ Kd.C kDepend w A5 xs[k].depends.length xs[k].depends := by
  obtain ⟨ad, A2, c2, A3, c3, A4, c4, A5, c5, A6, c6, A7, c7, e, h0, h1, h2, h3, h4, h5, h6, h7, l2, g2, l3, g3, l4, g4, l5, g5, l6, g6, l7, g7⟩ := at_Package h k hk
  exact ⟨ad, A5, c5, e, h5, l5, g5⟩
theorem at_Package_conflicts {w : World} {A : Option Addr} {xs : List DPackage} (h : Kd.C kPackage w A xs.length xs) (k : Nat) (hk : k < xs.length) : ∃ ad A6 c6, A = some ad ∧ w.cell? ⟨(ad.add (k * 8)).block, (ad.add (k * 8)).off + 6, none⟩ = some (.slice A6 xs[k].conflicts.length c6) ∧ xs[k].conflicts.length ≤ c6 ∧ Kd.C kConflict w A6 xs[k].conflicts.length xs[k].conflicts := by
  obtain ⟨ad, A2, c2, A3, c3, A4, c4, A5, c5, A6, c6, A7, c7, e, h0, h1, h2, h3, h4, h5, h6, h7, l2, g2, l3, g3, l4, g4, l5, g5, l6, g6, l7, g7⟩ := at_Package h k hk
  exact ⟨ad, A6, c6, e, h6, l6, g6⟩
theorem at_Package_files {w : World} {A : Option Addr} {xs : List DPackage} (h : Kd.C kPackage w A xs.length xs) (k : Nat) (hk : k < xs.length) : ∃ ad A7 c7, A = some ad ∧ w.cell? ⟨(ad.add (k * 8)).block, (ad.add (k * 8)).off + 7, none⟩ = some (.slice A7 xs[k].files.length c7) ∧ xs[k].files.length ≤ c7 ∧ Kd.C Kd.string w A7 xs[k].files.length xs[k].files := by
  obtain ⟨ad, A2, c2, A3, c3, A4, c4, A5, c5, A6, c6, A7, c7, e, h0, h1, h2, h3, h4, h5, h6, h7, l2, g2, l3, g3, l4, g4, l5, g5, l6, g6, l7, g7⟩ := at_Package h k hk
  exact ⟨ad, A7, c7, e, h7, l7, g7⟩

structure DPrefer where
  virt : ByteArray
  names : List ByteArray
  line : Int
def zPrefer : DPrefer := ⟨ByteArray.empty, [], 0⟩
def kPrefer : Kd DPrefer := Kd.iso (Kd.pair Kd.string (Kd.pair (Kd.slice 9 Kd.string) (Kd.int .i64))) (fun x : DPrefer => (x.virt, x.names, x.line))
theorem kPrefer_open {w : World} {x : DPrefer} {cs : List Value} (h : kPrefer.K w x cs) : ∃ A1 c1, cs = [.string x.virt, .slice A1 x.names.length c1, .int .i64 x.line] ∧ x.names.length ≤ c1 ∧ Kd.C Kd.string w A1 x.names.length x.names := by
  obtain ⟨_, _, rfl, rfl, ⟨_, _, rfl, ⟨A1, c1, rfl, l1, g1⟩, rfl⟩⟩ := h
  exact ⟨A1, c1, rfl, l1, g1⟩
theorem kPrefer_mk (w : World) (x : DPrefer) {A1 : Option Addr} {c1 : Nat} (l1 : x.names.length ≤ c1) (g1 : Kd.C Kd.string w A1 x.names.length x.names) : kPrefer.K w x [.string x.virt, .slice A1 x.names.length c1, .int .i64 x.line] := ⟨[.string x.virt], [.slice A1 x.names.length c1, .int .i64 x.line], rfl, rfl, ⟨[.slice A1 x.names.length c1], [.int .i64 x.line], rfl, ⟨A1, c1, rfl, l1, g1⟩, rfl⟩⟩
theorem at_Prefer {w : World} {A : Option Addr} {xs : List DPrefer} (h : Kd.C kPrefer w A xs.length xs) (k : Nat) (hk : k < xs.length) : ∃ ad A1 c1, A = some ad ∧ w.cell? (ad.add (k * 3)) = some (.string xs[k].virt) ∧ w.cell? ⟨(ad.add (k * 3)).block, (ad.add (k * 3)).off + 1, none⟩ = some (.slice A1 xs[k].names.length c1) ∧ w.cell? ⟨(ad.add (k * 3)).block, (ad.add (k * 3)).off + 2, none⟩ = some (.int .i64 xs[k].line) ∧ xs[k].names.length ≤ c1 ∧ Kd.C Kd.string w A1 xs[k].names.length xs[k].names := by
  obtain ⟨ad, c, e, _, hK, hc0⟩ := Kd.C_get h zPrefer k (by omega) (by omega)
  have hc : ∀ j u, c[j]? = some u → w.cell? (ad.add (k * 3 + j)) = some u := hc0
  replace hK : kPrefer.K w (xs.getD k zPrefer) c := hK
  rw [getD_at _ _ hk] at hK
  obtain ⟨A1, c1, rfl, l1, g1⟩ := kPrefer_open hK
  exact ⟨ad, A1, c1, e, hc 0 _ rfl, by rw [← add_field _ _ 1 (by omega)]; exact hc 1 _ rfl, by rw [← add_field _ _ 2 (by omega)]; exact hc 2 _ rfl, l1, g1⟩
theorem at_Prefer_K {w : World} {A : Option Addr} {xs : List DPrefer} (h : Kd.C kPrefer w A xs.length xs) (k : Nat) (hk : k < xs.length) : ∃ ad A1 c1, A = some ad ∧ w.cell? (ad.add (k * 3)) = some (.string xs[k].virt) ∧ w.cell? ⟨(ad.add (k * 3)).block, (ad.add (k * 3)).off + 1, none⟩ = some (.slice A1 xs[k].names.length c1) ∧ w.cell? ⟨(ad.add (k * 3)).block, (ad.add (k * 3)).off + 2, none⟩ = some (.int .i64 xs[k].line) ∧ kPrefer.K w xs[k] [.string xs[k].virt, .slice A1 xs[k].names.length c1, .int .i64 xs[k].line] := by
  obtain ⟨ad, A1, c1, e, h0, h1, h2, l1, g1⟩ := at_Prefer h k hk
  exact ⟨ad, A1, c1, e, h0, h1, h2, kPrefer_mk _ _ l1 g1⟩
theorem at_Prefer_virt {w : World} {A : Option Addr} {xs : List DPrefer} (h : Kd.C kPrefer w A xs.length xs) (k : Nat) (hk : k < xs.length) : ∃ ad, A = some ad ∧ w.cell? (ad.add (k * 3)) = some (.string xs[k].virt) := by
  obtain ⟨ad, A1, c1, e, h0, h1, h2, l1, g1⟩ := at_Prefer h k hk
  exact ⟨ad, e, h0⟩
theorem at_Prefer_names {w : World} {A : Option Addr} {xs : List DPrefer} (h : Kd.C kPrefer w A xs.length xs) (k : Nat) (hk : k < xs.length) : ∃ ad A1 c1, A = some ad ∧ w.cell? ⟨(ad.add (k * 3)).block, (ad.add (k * 3)).off + 1, none⟩ = some (.slice A1 xs[k].names.length c1) ∧ xs[k].names.length ≤ c1 ∧ Kd.C Kd.string w A1 xs[k].names.length xs[k].names := by
  obtain ⟨ad, A1, c1, e, h0, h1, h2, l1, g1⟩ := at_Prefer h k hk
  exact ⟨ad, A1, c1, e, h1, l1, g1⟩
theorem at_Prefer_line {w : World} {A : Option Addr} {xs : List DPrefer} (h : Kd.C kPrefer w A xs.length xs) (k : Nat) (hk : k < xs.length) : ∃ ad, A = some ad ∧ w.cell? ⟨(ad.add (k * 3)).block, (ad.add (k * 3)).off + 2, none⟩ = some (.int .i64 xs[k].line) := by
  obtain ⟨ad, A1, c1, e, h0, h1, h2, l1, g1⟩ := at_Prefer h k hk
  exact ⟨ad, e, h2⟩

structure DRoot where
  spec : DSpec
  line : Int
def zRoot : DRoot := ⟨zSpec, 0⟩
def kRoot : Kd DRoot := Kd.iso (Kd.pair kSpec (Kd.int .i64)) (fun x : DRoot => (x.spec, x.line))
theorem kRoot_open {w : World} {x : DRoot} {cs : List Value} (h : kRoot.K w x cs) : ∃ A1 c1 A2 c2, cs = [.string x.spec.name, .slice A1 x.spec.spans.length c1, .slice A2 x.spec.settings.length c2, .int .i64 x.line] ∧ x.spec.spans.length ≤ c1 ∧ Kd.C kSpan w A1 x.spec.spans.length x.spec.spans ∧ x.spec.settings.length ≤ c2 ∧ Kd.C kSetting w A2 x.spec.settings.length x.spec.settings := by
  obtain ⟨_, _, rfl, s0, rfl⟩ := h
  obtain ⟨A1, c1, A2, c2, rfl, l1, g1, l2, g2⟩ := kSpec_open s0
  exact ⟨A1, c1, A2, c2, rfl, l1, g1, l2, g2⟩
theorem kRoot_mk (w : World) (x : DRoot) {A1 : Option Addr} {c1 : Nat} (l1 : x.spec.spans.length ≤ c1) (g1 : Kd.C kSpan w A1 x.spec.spans.length x.spec.spans) {A2 : Option Addr} {c2 : Nat} (l2 : x.spec.settings.length ≤ c2) (g2 : Kd.C kSetting w A2 x.spec.settings.length x.spec.settings) : kRoot.K w x [.string x.spec.name, .slice A1 x.spec.spans.length c1, .slice A2 x.spec.settings.length c2, .int .i64 x.line] := ⟨[.string x.spec.name, .slice A1 x.spec.spans.length c1, .slice A2 x.spec.settings.length c2], [.int .i64 x.line], rfl, (kSpec_mk w x.spec l1 g1 l2 g2), rfl⟩
theorem at_Root {w : World} {A : Option Addr} {xs : List DRoot} (h : Kd.C kRoot w A xs.length xs) (k : Nat) (hk : k < xs.length) : ∃ ad A1 c1 A2 c2, A = some ad ∧ w.cell? (ad.add (k * 4)) = some (.string xs[k].spec.name) ∧ w.cell? ⟨(ad.add (k * 4)).block, (ad.add (k * 4)).off + 1, none⟩ = some (.slice A1 xs[k].spec.spans.length c1) ∧ w.cell? ⟨(ad.add (k * 4)).block, (ad.add (k * 4)).off + 2, none⟩ = some (.slice A2 xs[k].spec.settings.length c2) ∧ w.cell? ⟨(ad.add (k * 4)).block, (ad.add (k * 4)).off + 3, none⟩ = some (.int .i64 xs[k].line) ∧ xs[k].spec.spans.length ≤ c1 ∧ Kd.C kSpan w A1 xs[k].spec.spans.length xs[k].spec.spans ∧ xs[k].spec.settings.length ≤ c2 ∧ Kd.C kSetting w A2 xs[k].spec.settings.length xs[k].spec.settings := by
  obtain ⟨ad, c, e, _, hK, hc0⟩ := Kd.C_get h zRoot k (by omega) (by omega)
  have hc : ∀ j u, c[j]? = some u → w.cell? (ad.add (k * 4 + j)) = some u := hc0
  replace hK : kRoot.K w (xs.getD k zRoot) c := hK
  rw [getD_at _ _ hk] at hK
  obtain ⟨A1, c1, A2, c2, rfl, l1, g1, l2, g2⟩ := kRoot_open hK
  exact ⟨ad, A1, c1, A2, c2, e, hc 0 _ rfl, by rw [← add_field _ _ 1 (by omega)]; exact hc 1 _ rfl, by rw [← add_field _ _ 2 (by omega)]; exact hc 2 _ rfl, by rw [← add_field _ _ 3 (by omega)]; exact hc 3 _ rfl, l1, g1, l2, g2⟩
theorem at_Root_K {w : World} {A : Option Addr} {xs : List DRoot} (h : Kd.C kRoot w A xs.length xs) (k : Nat) (hk : k < xs.length) : ∃ ad A1 c1 A2 c2, A = some ad ∧ w.cell? (ad.add (k * 4)) = some (.string xs[k].spec.name) ∧ w.cell? ⟨(ad.add (k * 4)).block, (ad.add (k * 4)).off + 1, none⟩ = some (.slice A1 xs[k].spec.spans.length c1) ∧ w.cell? ⟨(ad.add (k * 4)).block, (ad.add (k * 4)).off + 2, none⟩ = some (.slice A2 xs[k].spec.settings.length c2) ∧ w.cell? ⟨(ad.add (k * 4)).block, (ad.add (k * 4)).off + 3, none⟩ = some (.int .i64 xs[k].line) ∧ kRoot.K w xs[k] [.string xs[k].spec.name, .slice A1 xs[k].spec.spans.length c1, .slice A2 xs[k].spec.settings.length c2, .int .i64 xs[k].line] := by
  obtain ⟨ad, A1, c1, A2, c2, e, h0, h1, h2, h3, l1, g1, l2, g2⟩ := at_Root h k hk
  exact ⟨ad, A1, c1, A2, c2, e, h0, h1, h2, h3, kRoot_mk _ _ l1 g1 l2 g2⟩
theorem at_Root_spec_name {w : World} {A : Option Addr} {xs : List DRoot} (h : Kd.C kRoot w A xs.length xs) (k : Nat) (hk : k < xs.length) : ∃ ad, A = some ad ∧ w.cell? (ad.add (k * 4)) = some (.string xs[k].spec.name) := by
  obtain ⟨ad, A1, c1, A2, c2, e, h0, h1, h2, h3, l1, g1, l2, g2⟩ := at_Root h k hk
  exact ⟨ad, e, h0⟩
theorem at_Root_spec_spans {w : World} {A : Option Addr} {xs : List DRoot} (h : Kd.C kRoot w A xs.length xs) (k : Nat) (hk : k < xs.length) : ∃ ad A1 c1, A = some ad ∧ w.cell? ⟨(ad.add (k * 4)).block, (ad.add (k * 4)).off + 1, none⟩ = some (.slice A1 xs[k].spec.spans.length c1) ∧ xs[k].spec.spans.length ≤ c1 ∧ Kd.C kSpan w A1 xs[k].spec.spans.length xs[k].spec.spans := by
  obtain ⟨ad, A1, c1, A2, c2, e, h0, h1, h2, h3, l1, g1, l2, g2⟩ := at_Root h k hk
  exact ⟨ad, A1, c1, e, h1, l1, g1⟩
theorem at_Root_spec_settings {w : World} {A : Option Addr} {xs : List DRoot} (h : Kd.C kRoot w A xs.length xs) (k : Nat) (hk : k < xs.length) : ∃ ad A2 c2, A = some ad ∧ w.cell? ⟨(ad.add (k * 4)).block, (ad.add (k * 4)).off + 2, none⟩ = some (.slice A2 xs[k].spec.settings.length c2) ∧ xs[k].spec.settings.length ≤ c2 ∧ Kd.C kSetting w A2 xs[k].spec.settings.length xs[k].spec.settings := by
  obtain ⟨ad, A1, c1, A2, c2, e, h0, h1, h2, h3, l1, g1, l2, g2⟩ := at_Root h k hk
  exact ⟨ad, A2, c2, e, h2, l2, g2⟩
theorem at_Root_line {w : World} {A : Option Addr} {xs : List DRoot} (h : Kd.C kRoot w A xs.length xs) (k : Nat) (hk : k < xs.length) : ∃ ad, A = some ad ∧ w.cell? ⟨(ad.add (k * 4)).block, (ad.add (k * 4)).off + 3, none⟩ = some (.int .i64 xs[k].line) := by
  obtain ⟨ad, A1, c1, A2, c2, e, h0, h1, h2, h3, l1, g1, l2, g2⟩ := at_Root h k hk
  exact ⟨ad, e, h3⟩

structure DRecipe where
  packages : List DPackage
  prefers : List DPrefer
def zRecipe : DRecipe := ⟨[], []⟩
def kRecipe : Kd DRecipe := Kd.iso (Kd.pair (Kd.slice 43 kPackage) (Kd.slice 118 kPrefer)) (fun x : DRecipe => (x.packages, x.prefers))
theorem kRecipe_open {w : World} {x : DRecipe} {cs : List Value} (h : kRecipe.K w x cs) : ∃ A0 c0 A1 c1, cs = [.slice A0 x.packages.length c0, .slice A1 x.prefers.length c1] ∧ x.packages.length ≤ c0 ∧ Kd.C kPackage w A0 x.packages.length x.packages ∧ x.prefers.length ≤ c1 ∧ Kd.C kPrefer w A1 x.prefers.length x.prefers := by
  obtain ⟨_, _, rfl, ⟨A0, c0, rfl, l0, g0⟩, ⟨A1, c1, rfl, l1, g1⟩⟩ := h
  exact ⟨A0, c0, A1, c1, rfl, l0, g0, l1, g1⟩
theorem kRecipe_mk (w : World) (x : DRecipe) {A0 : Option Addr} {c0 : Nat} (l0 : x.packages.length ≤ c0) (g0 : Kd.C kPackage w A0 x.packages.length x.packages) {A1 : Option Addr} {c1 : Nat} (l1 : x.prefers.length ≤ c1) (g1 : Kd.C kPrefer w A1 x.prefers.length x.prefers) : kRecipe.K w x [.slice A0 x.packages.length c0, .slice A1 x.prefers.length c1] := ⟨[.slice A0 x.packages.length c0], [.slice A1 x.prefers.length c1], rfl, ⟨A0, c0, rfl, l0, g0⟩, ⟨A1, c1, rfl, l1, g1⟩⟩
theorem at_Recipe {w : World} {A : Option Addr} {xs : List DRecipe} (h : Kd.C kRecipe w A xs.length xs) (k : Nat) (hk : k < xs.length) : ∃ ad A0 c0 A1 c1, A = some ad ∧ w.cell? (ad.add (k * 2)) = some (.slice A0 xs[k].packages.length c0) ∧ w.cell? ⟨(ad.add (k * 2)).block, (ad.add (k * 2)).off + 1, none⟩ = some (.slice A1 xs[k].prefers.length c1) ∧ xs[k].packages.length ≤ c0 ∧ Kd.C kPackage w A0 xs[k].packages.length xs[k].packages ∧ xs[k].prefers.length ≤ c1 ∧ Kd.C kPrefer w A1 xs[k].prefers.length xs[k].prefers := by
  obtain ⟨ad, c, e, _, hK, hc0⟩ := Kd.C_get h zRecipe k (by omega) (by omega)
  have hc : ∀ j u, c[j]? = some u → w.cell? (ad.add (k * 2 + j)) = some u := hc0
  replace hK : kRecipe.K w (xs.getD k zRecipe) c := hK
  rw [getD_at _ _ hk] at hK
  obtain ⟨A0, c0, A1, c1, rfl, l0, g0, l1, g1⟩ := kRecipe_open hK
  exact ⟨ad, A0, c0, A1, c1, e, hc 0 _ rfl, by rw [← add_field _ _ 1 (by omega)]; exact hc 1 _ rfl, l0, g0, l1, g1⟩
theorem at_Recipe_K {w : World} {A : Option Addr} {xs : List DRecipe} (h : Kd.C kRecipe w A xs.length xs) (k : Nat) (hk : k < xs.length) : ∃ ad A0 c0 A1 c1, A = some ad ∧ w.cell? (ad.add (k * 2)) = some (.slice A0 xs[k].packages.length c0) ∧ w.cell? ⟨(ad.add (k * 2)).block, (ad.add (k * 2)).off + 1, none⟩ = some (.slice A1 xs[k].prefers.length c1) ∧ kRecipe.K w xs[k] [.slice A0 xs[k].packages.length c0, .slice A1 xs[k].prefers.length c1] := by
  obtain ⟨ad, A0, c0, A1, c1, e, h0, h1, l0, g0, l1, g1⟩ := at_Recipe h k hk
  exact ⟨ad, A0, c0, A1, c1, e, h0, h1, kRecipe_mk _ _ l0 g0 l1 g1⟩
theorem at_Recipe_packages {w : World} {A : Option Addr} {xs : List DRecipe} (h : Kd.C kRecipe w A xs.length xs) (k : Nat) (hk : k < xs.length) : ∃ ad A0 c0, A = some ad ∧ w.cell? (ad.add (k * 2)) = some (.slice A0 xs[k].packages.length c0) ∧ xs[k].packages.length ≤ c0 ∧ Kd.C kPackage w A0 xs[k].packages.length xs[k].packages := by
  obtain ⟨ad, A0, c0, A1, c1, e, h0, h1, l0, g0, l1, g1⟩ := at_Recipe h k hk
  exact ⟨ad, A0, c0, e, h0, l0, g0⟩
theorem at_Recipe_prefers {w : World} {A : Option Addr} {xs : List DRecipe} (h : Kd.C kRecipe w A xs.length xs) (k : Nat) (hk : k < xs.length) : ∃ ad A1 c1, A = some ad ∧ w.cell? ⟨(ad.add (k * 2)).block, (ad.add (k * 2)).off + 1, none⟩ = some (.slice A1 xs[k].prefers.length c1) ∧ xs[k].prefers.length ≤ c1 ∧ Kd.C kPrefer w A1 xs[k].prefers.length xs[k].prefers := by
  obtain ⟨ad, A0, c0, A1, c1, e, h0, h1, l0, g0, l1, g1⟩ := at_Recipe h k hk
  exact ⟨ad, A1, c1, e, h1, l1, g1⟩

structure DRequest where
  roots : List DRoot
def zRequest : DRequest := ⟨[]⟩
def kRequest : Kd DRequest := Kd.iso (Kd.slice 51 kRoot) (fun x : DRequest => (x.roots))
theorem kRequest_open {w : World} {x : DRequest} {cs : List Value} (h : kRequest.K w x cs) : ∃ A0 c0, cs = [.slice A0 x.roots.length c0] ∧ x.roots.length ≤ c0 ∧ Kd.C kRoot w A0 x.roots.length x.roots := by
  obtain ⟨A0, c0, rfl, l0, g0⟩ := h
  exact ⟨A0, c0, rfl, l0, g0⟩
theorem kRequest_mk (w : World) (x : DRequest) {A0 : Option Addr} {c0 : Nat} (l0 : x.roots.length ≤ c0) (g0 : Kd.C kRoot w A0 x.roots.length x.roots) : kRequest.K w x [.slice A0 x.roots.length c0] := ⟨A0, c0, rfl, l0, g0⟩
theorem at_Request {w : World} {A : Option Addr} {xs : List DRequest} (h : Kd.C kRequest w A xs.length xs) (k : Nat) (hk : k < xs.length) : ∃ ad A0 c0, A = some ad ∧ w.cell? (ad.add (k * 1)) = some (.slice A0 xs[k].roots.length c0) ∧ xs[k].roots.length ≤ c0 ∧ Kd.C kRoot w A0 xs[k].roots.length xs[k].roots := by
  obtain ⟨ad, c, e, _, hK, hc0⟩ := Kd.C_get h zRequest k (by omega) (by omega)
  have hc : ∀ j u, c[j]? = some u → w.cell? (ad.add (k * 1 + j)) = some u := hc0
  replace hK : kRequest.K w (xs.getD k zRequest) c := hK
  rw [getD_at _ _ hk] at hK
  obtain ⟨A0, c0, rfl, l0, g0⟩ := kRequest_open hK
  exact ⟨ad, A0, c0, e, hc 0 _ rfl, l0, g0⟩
theorem at_Request_K {w : World} {A : Option Addr} {xs : List DRequest} (h : Kd.C kRequest w A xs.length xs) (k : Nat) (hk : k < xs.length) : ∃ ad A0 c0, A = some ad ∧ w.cell? (ad.add (k * 1)) = some (.slice A0 xs[k].roots.length c0) ∧ kRequest.K w xs[k] [.slice A0 xs[k].roots.length c0] := by
  obtain ⟨ad, A0, c0, e, h0, l0, g0⟩ := at_Request h k hk
  exact ⟨ad, A0, c0, e, h0, kRequest_mk _ _ l0 g0⟩
theorem at_Request_roots {w : World} {A : Option Addr} {xs : List DRequest} (h : Kd.C kRequest w A xs.length xs) (k : Nat) (hk : k < xs.length) : ∃ ad A0 c0, A = some ad ∧ w.cell? (ad.add (k * 1)) = some (.slice A0 xs[k].roots.length c0) ∧ xs[k].roots.length ≤ c0 ∧ Kd.C kRoot w A0 xs[k].roots.length xs[k].roots := by
  obtain ⟨ad, A0, c0, e, h0, l0, g0⟩ := at_Request h k hk
  exact ⟨ad, A0, c0, e, h0, l0, g0⟩

structure DRule where
  kind : Int
  pack : Int
  idx : Int
  line : Int
def zRule : DRule := ⟨0, 0, 0, 0⟩
def kRule : Kd DRule := Kd.iso (Kd.pair (Kd.int .u8) (Kd.pair (Kd.int .i64) (Kd.pair (Kd.int .i64) (Kd.int .i64)))) (fun x : DRule => (x.kind, x.pack, x.idx, x.line))
theorem kRule_open {w : World} {x : DRule} {cs : List Value} (h : kRule.K w x cs) : cs = [.int .u8 x.kind, .int .i64 x.pack, .int .i64 x.idx, .int .i64 x.line] := by
  obtain ⟨_, _, rfl, rfl, ⟨_, _, rfl, rfl, ⟨_, _, rfl, rfl, rfl⟩⟩⟩ := h
  exact rfl
theorem kRule_mk (w : World) (x : DRule)  : kRule.K w x [.int .u8 x.kind, .int .i64 x.pack, .int .i64 x.idx, .int .i64 x.line] := ⟨[.int .u8 x.kind], [.int .i64 x.pack, .int .i64 x.idx, .int .i64 x.line], rfl, rfl, ⟨[.int .i64 x.pack], [.int .i64 x.idx, .int .i64 x.line], rfl, rfl, ⟨[.int .i64 x.idx], [.int .i64 x.line], rfl, rfl, rfl⟩⟩⟩
theorem kRule_mkM (w : World) (base : Nat) (ok : Nat → Prop) (x : DRule) : kRule.M w base ok x [.int .u8 x.kind, .int .i64 x.pack, .int .i64 x.idx, .int .i64 x.line] := ⟨[.int .u8 x.kind], [.int .i64 x.pack, .int .i64 x.idx, .int .i64 x.line], rfl, rfl, ⟨[.int .i64 x.pack], [.int .i64 x.idx, .int .i64 x.line], rfl, rfl, ⟨[.int .i64 x.idx], [.int .i64 x.line], rfl, rfl, rfl⟩⟩⟩
theorem at_Rule {w : World} {A : Option Addr} {xs : List DRule} (h : Kd.C kRule w A xs.length xs) (k : Nat) (hk : k < xs.length) : ∃ ad , A = some ad ∧ w.cell? (ad.add (k * 4)) = some (.int .u8 xs[k].kind) ∧ w.cell? ⟨(ad.add (k * 4)).block, (ad.add (k * 4)).off + 1, none⟩ = some (.int .i64 xs[k].pack) ∧ w.cell? ⟨(ad.add (k * 4)).block, (ad.add (k * 4)).off + 2, none⟩ = some (.int .i64 xs[k].idx) ∧ w.cell? ⟨(ad.add (k * 4)).block, (ad.add (k * 4)).off + 3, none⟩ = some (.int .i64 xs[k].line) := by
  obtain ⟨ad, c, e, _, hK, hc0⟩ := Kd.C_get h zRule k (by omega) (by omega)
  have hc : ∀ j u, c[j]? = some u → w.cell? (ad.add (k * 4 + j)) = some u := hc0
  replace hK : kRule.K w (xs.getD k zRule) c := hK
  rw [getD_at _ _ hk] at hK
  obtain rfl := kRule_open hK
  exact ⟨ad, e, hc 0 _ rfl, by rw [← add_field _ _ 1 (by omega)]; exact hc 1 _ rfl, by rw [← add_field _ _ 2 (by omega)]; exact hc 2 _ rfl, by rw [← add_field _ _ 3 (by omega)]; exact hc 3 _ rfl⟩
theorem at_Rule_K {w : World} {A : Option Addr} {xs : List DRule} (h : Kd.C kRule w A xs.length xs) (k : Nat) (hk : k < xs.length) : ∃ ad , A = some ad ∧ w.cell? (ad.add (k * 4)) = some (.int .u8 xs[k].kind) ∧ w.cell? ⟨(ad.add (k * 4)).block, (ad.add (k * 4)).off + 1, none⟩ = some (.int .i64 xs[k].pack) ∧ w.cell? ⟨(ad.add (k * 4)).block, (ad.add (k * 4)).off + 2, none⟩ = some (.int .i64 xs[k].idx) ∧ w.cell? ⟨(ad.add (k * 4)).block, (ad.add (k * 4)).off + 3, none⟩ = some (.int .i64 xs[k].line) ∧ kRule.K w xs[k] [.int .u8 xs[k].kind, .int .i64 xs[k].pack, .int .i64 xs[k].idx, .int .i64 xs[k].line] := by
  obtain ⟨ad, e, h0, h1, h2, h3⟩ := at_Rule h k hk
  exact ⟨ad, e, h0, h1, h2, h3, kRule_mk _ _⟩
theorem at_Rule_kind {w : World} {A : Option Addr} {xs : List DRule} (h : Kd.C kRule w A xs.length xs) (k : Nat) (hk : k < xs.length) : ∃ ad, A = some ad ∧ w.cell? (ad.add (k * 4)) = some (.int .u8 xs[k].kind) := by
  obtain ⟨ad, e, h0, h1, h2, h3⟩ := at_Rule h k hk
  exact ⟨ad, e, h0⟩
theorem at_Rule_pack {w : World} {A : Option Addr} {xs : List DRule} (h : Kd.C kRule w A xs.length xs) (k : Nat) (hk : k < xs.length) : ∃ ad, A = some ad ∧ w.cell? ⟨(ad.add (k * 4)).block, (ad.add (k * 4)).off + 1, none⟩ = some (.int .i64 xs[k].pack) := by
  obtain ⟨ad, e, h0, h1, h2, h3⟩ := at_Rule h k hk
  exact ⟨ad, e, h1⟩
theorem at_Rule_idx {w : World} {A : Option Addr} {xs : List DRule} (h : Kd.C kRule w A xs.length xs) (k : Nat) (hk : k < xs.length) : ∃ ad, A = some ad ∧ w.cell? ⟨(ad.add (k * 4)).block, (ad.add (k * 4)).off + 2, none⟩ = some (.int .i64 xs[k].idx) := by
  obtain ⟨ad, e, h0, h1, h2, h3⟩ := at_Rule h k hk
  exact ⟨ad, e, h2⟩
theorem at_Rule_line {w : World} {A : Option Addr} {xs : List DRule} (h : Kd.C kRule w A xs.length xs) (k : Nat) (hk : k < xs.length) : ∃ ad, A = some ad ∧ w.cell? ⟨(ad.add (k * 4)).block, (ad.add (k * 4)).off + 3, none⟩ = some (.int .i64 xs[k].line) := by
  obtain ⟨ad, e, h0, h1, h2, h3⟩ := at_Rule h k hk
  exact ⟨ad, e, h3⟩

structure DCh where
  release : Int
  values : List Int
def zCh : DCh := ⟨0, []⟩
def kCh : Kd DCh := Kd.iso (Kd.pair (Kd.int .i64) (Kd.slice 3 (Kd.int .i64))) (fun x : DCh => (x.release, x.values))
theorem kCh_open {w : World} {x : DCh} {cs : List Value} (h : kCh.K w x cs) : ∃ A1 c1, cs = [.int .i64 x.release, .slice A1 x.values.length c1] ∧ x.values.length ≤ c1 ∧ Kd.C (Kd.int .i64) w A1 x.values.length x.values := by
  obtain ⟨_, _, rfl, rfl, ⟨A1, c1, rfl, l1, g1⟩⟩ := h
  exact ⟨A1, c1, rfl, l1, g1⟩
theorem kCh_mk (w : World) (x : DCh) {A1 : Option Addr} {c1 : Nat} (l1 : x.values.length ≤ c1) (g1 : Kd.C (Kd.int .i64) w A1 x.values.length x.values) : kCh.K w x [.int .i64 x.release, .slice A1 x.values.length c1] := ⟨[.int .i64 x.release], [.slice A1 x.values.length c1], rfl, rfl, ⟨A1, c1, rfl, l1, g1⟩⟩
theorem at_Ch {w : World} {A : Option Addr} {xs : List DCh} (h : Kd.C kCh w A xs.length xs) (k : Nat) (hk : k < xs.length) : ∃ ad A1 c1, A = some ad ∧ w.cell? (ad.add (k * 2)) = some (.int .i64 xs[k].release) ∧ w.cell? ⟨(ad.add (k * 2)).block, (ad.add (k * 2)).off + 1, none⟩ = some (.slice A1 xs[k].values.length c1) ∧ xs[k].values.length ≤ c1 ∧ Kd.C (Kd.int .i64) w A1 xs[k].values.length xs[k].values := by
  obtain ⟨ad, c, e, _, hK, hc0⟩ := Kd.C_get h zCh k (by omega) (by omega)
  have hc : ∀ j u, c[j]? = some u → w.cell? (ad.add (k * 2 + j)) = some u := hc0
  replace hK : kCh.K w (xs.getD k zCh) c := hK
  rw [getD_at _ _ hk] at hK
  obtain ⟨A1, c1, rfl, l1, g1⟩ := kCh_open hK
  exact ⟨ad, A1, c1, e, hc 0 _ rfl, by rw [← add_field _ _ 1 (by omega)]; exact hc 1 _ rfl, l1, g1⟩
theorem at_Ch_K {w : World} {A : Option Addr} {xs : List DCh} (h : Kd.C kCh w A xs.length xs) (k : Nat) (hk : k < xs.length) : ∃ ad A1 c1, A = some ad ∧ w.cell? (ad.add (k * 2)) = some (.int .i64 xs[k].release) ∧ w.cell? ⟨(ad.add (k * 2)).block, (ad.add (k * 2)).off + 1, none⟩ = some (.slice A1 xs[k].values.length c1) ∧ kCh.K w xs[k] [.int .i64 xs[k].release, .slice A1 xs[k].values.length c1] := by
  obtain ⟨ad, A1, c1, e, h0, h1, l1, g1⟩ := at_Ch h k hk
  exact ⟨ad, A1, c1, e, h0, h1, kCh_mk _ _ l1 g1⟩
theorem at_Ch_release {w : World} {A : Option Addr} {xs : List DCh} (h : Kd.C kCh w A xs.length xs) (k : Nat) (hk : k < xs.length) : ∃ ad, A = some ad ∧ w.cell? (ad.add (k * 2)) = some (.int .i64 xs[k].release) := by
  obtain ⟨ad, A1, c1, e, h0, h1, l1, g1⟩ := at_Ch h k hk
  exact ⟨ad, e, h0⟩
theorem at_Ch_values {w : World} {A : Option Addr} {xs : List DCh} (h : Kd.C kCh w A xs.length xs) (k : Nat) (hk : k < xs.length) : ∃ ad A1 c1, A = some ad ∧ w.cell? ⟨(ad.add (k * 2)).block, (ad.add (k * 2)).off + 1, none⟩ = some (.slice A1 xs[k].values.length c1) ∧ xs[k].values.length ≤ c1 ∧ Kd.C (Kd.int .i64) w A1 xs[k].values.length xs[k].values := by
  obtain ⟨ad, A1, c1, e, h0, h1, l1, g1⟩ := at_Ch h k hk
  exact ⟨ad, A1, c1, e, h1, l1, g1⟩

structure DG where
  x : DRecipe
  q : DRequest
  c : List DCh
  off : List Bool
def zG : DG := ⟨zRecipe, zRequest, [], []⟩
def kG : Kd DG := Kd.iso (Kd.pair kRecipe (Kd.pair kRequest (Kd.pair (Kd.slice 106 kCh) (Kd.slice 4 Kd.bool)))) (fun x : DG => (x.x, x.q, x.c, x.off))
theorem kG_open {w : World} {x : DG} {cs : List Value} (h : kG.K w x cs) : ∃ A0 c0 A1 c1 A2 c2 A3 c3 A4 c4, cs = [.slice A0 x.x.packages.length c0, .slice A1 x.x.prefers.length c1, .slice A2 x.q.roots.length c2, .slice A3 x.c.length c3, .slice A4 x.off.length c4] ∧ x.x.packages.length ≤ c0 ∧ Kd.C kPackage w A0 x.x.packages.length x.x.packages ∧ x.x.prefers.length ≤ c1 ∧ Kd.C kPrefer w A1 x.x.prefers.length x.x.prefers ∧ x.q.roots.length ≤ c2 ∧ Kd.C kRoot w A2 x.q.roots.length x.q.roots ∧ x.c.length ≤ c3 ∧ Kd.C kCh w A3 x.c.length x.c ∧ x.off.length ≤ c4 ∧ Kd.C Kd.bool w A4 x.off.length x.off := by
  obtain ⟨_, _, rfl, s0, ⟨_, _, rfl, s2, ⟨_, _, rfl, ⟨A3, c3, rfl, l3, g3⟩, ⟨A4, c4, rfl, l4, g4⟩⟩⟩⟩ := h
  obtain ⟨A0, c0, A1, c1, rfl, l0, g0, l1, g1⟩ := kRecipe_open s0
  obtain ⟨A2, c2, rfl, l2, g2⟩ := kRequest_open s2
  exact ⟨A0, c0, A1, c1, A2, c2, A3, c3, A4, c4, rfl, l0, g0, l1, g1, l2, g2, l3, g3, l4, g4⟩
theorem kG_mk (w : World) (x : DG) {A0 : Option Addr} {c0 : Nat} (l0 : x.x.packages.length ≤ c0) (g0 : Kd.C kPackage w A0 x.x.packages.length x.x.packages) {A1 : Option Addr} {c1 : Nat} (l1 : x.x.prefers.length ≤ c1) (g1 : Kd.C kPrefer w A1 x.x.prefers.length x.x.prefers) {A2 : Option Addr} {c2 : Nat} (l2 : x.q.roots.length ≤ c2) (g2 : Kd.C kRoot w A2 x.q.roots.length x.q.roots) {A3 : Option Addr} {c3 : Nat} (l3 : x.c.length ≤ c3) (g3 : Kd.C kCh w A3 x.c.length x.c) {A4 : Option Addr} {c4 : Nat} (l4 : x.off.length ≤ c4) (g4 : Kd.C Kd.bool w A4 x.off.length x.off) : kG.K w x [.slice A0 x.x.packages.length c0, .slice A1 x.x.prefers.length c1, .slice A2 x.q.roots.length c2, .slice A3 x.c.length c3, .slice A4 x.off.length c4] := ⟨[.slice A0 x.x.packages.length c0, .slice A1 x.x.prefers.length c1], [.slice A2 x.q.roots.length c2, .slice A3 x.c.length c3, .slice A4 x.off.length c4], rfl, (kRecipe_mk w x.x l0 g0 l1 g1), ⟨[.slice A2 x.q.roots.length c2], [.slice A3 x.c.length c3, .slice A4 x.off.length c4], rfl, (kRequest_mk w x.q l2 g2), ⟨[.slice A3 x.c.length c3], [.slice A4 x.off.length c4], rfl, ⟨A3, c3, rfl, l3, g3⟩, ⟨A4, c4, rfl, l4, g4⟩⟩⟩⟩
theorem at_G {w : World} {A : Option Addr} {xs : List DG} (h : Kd.C kG w A xs.length xs) (k : Nat) (hk : k < xs.length) : ∃ ad A0 c0 A1 c1 A2 c2 A3 c3 A4 c4, A = some ad ∧ w.cell? (ad.add (k * 5)) = some (.slice A0 xs[k].x.packages.length c0) ∧ w.cell? ⟨(ad.add (k * 5)).block, (ad.add (k * 5)).off + 1, none⟩ = some (.slice A1 xs[k].x.prefers.length c1) ∧ w.cell? ⟨(ad.add (k * 5)).block, (ad.add (k * 5)).off + 2, none⟩ = some (.slice A2 xs[k].q.roots.length c2) ∧ w.cell? ⟨(ad.add (k * 5)).block, (ad.add (k * 5)).off + 3, none⟩ = some (.slice A3 xs[k].c.length c3) ∧ w.cell? ⟨(ad.add (k * 5)).block, (ad.add (k * 5)).off + 4, none⟩ = some (.slice A4 xs[k].off.length c4) ∧ xs[k].x.packages.length ≤ c0 ∧ Kd.C kPackage w A0 xs[k].x.packages.length xs[k].x.packages ∧ xs[k].x.prefers.length ≤ c1 ∧ Kd.C kPrefer w A1 xs[k].x.prefers.length xs[k].x.prefers ∧ xs[k].q.roots.length ≤ c2 ∧ Kd.C kRoot w A2 xs[k].q.roots.length xs[k].q.roots ∧ xs[k].c.length ≤ c3 ∧ Kd.C kCh w A3 xs[k].c.length xs[k].c ∧ xs[k].off.length ≤ c4 ∧ Kd.C Kd.bool w A4 xs[k].off.length xs[k].off := by
  obtain ⟨ad, c, e, _, hK, hc0⟩ := Kd.C_get h zG k (by omega) (by omega)
  have hc : ∀ j u, c[j]? = some u → w.cell? (ad.add (k * 5 + j)) = some u := hc0
  replace hK : kG.K w (xs.getD k zG) c := hK
  rw [getD_at _ _ hk] at hK
  obtain ⟨A0, c0, A1, c1, A2, c2, A3, c3, A4, c4, rfl, l0, g0, l1, g1, l2, g2, l3, g3, l4, g4⟩ := kG_open hK
  exact ⟨ad, A0, c0, A1, c1, A2, c2, A3, c3, A4, c4, e, hc 0 _ rfl, by rw [← add_field _ _ 1 (by omega)]; exact hc 1 _ rfl, by rw [← add_field _ _ 2 (by omega)]; exact hc 2 _ rfl, by rw [← add_field _ _ 3 (by omega)]; exact hc 3 _ rfl, by rw [← add_field _ _ 4 (by omega)]; exact hc 4 _ rfl, l0, g0, l1, g1, l2, g2, l3, g3, l4, g4⟩
theorem at_G_K {w : World} {A : Option Addr} {xs : List DG} (h : Kd.C kG w A xs.length xs) (k : Nat) (hk : k < xs.length) : ∃ ad A0 c0 A1 c1 A2 c2 A3 c3 A4 c4, A = some ad ∧ w.cell? (ad.add (k * 5)) = some (.slice A0 xs[k].x.packages.length c0) ∧ w.cell? ⟨(ad.add (k * 5)).block, (ad.add (k * 5)).off + 1, none⟩ = some (.slice A1 xs[k].x.prefers.length c1) ∧ w.cell? ⟨(ad.add (k * 5)).block, (ad.add (k * 5)).off + 2, none⟩ = some (.slice A2 xs[k].q.roots.length c2) ∧ w.cell? ⟨(ad.add (k * 5)).block, (ad.add (k * 5)).off + 3, none⟩ = some (.slice A3 xs[k].c.length c3) ∧ w.cell? ⟨(ad.add (k * 5)).block, (ad.add (k * 5)).off + 4, none⟩ = some (.slice A4 xs[k].off.length c4) ∧ kG.K w xs[k] [.slice A0 xs[k].x.packages.length c0, .slice A1 xs[k].x.prefers.length c1, .slice A2 xs[k].q.roots.length c2, .slice A3 xs[k].c.length c3, .slice A4 xs[k].off.length c4] := by
  obtain ⟨ad, A0, c0, A1, c1, A2, c2, A3, c3, A4, c4, e, h0, h1, h2, h3, h4, l0, g0, l1, g1, l2, g2, l3, g3, l4, g4⟩ := at_G h k hk
  exact ⟨ad, A0, c0, A1, c1, A2, c2, A3, c3, A4, c4, e, h0, h1, h2, h3, h4, kG_mk _ _ l0 g0 l1 g1 l2 g2 l3 g3 l4 g4⟩
theorem at_G_x_packages {w : World} {A : Option Addr} {xs : List DG} (h : Kd.C kG w A xs.length xs) (k : Nat) (hk : k < xs.length) : ∃ ad A0 c0, A = some ad ∧ w.cell? (ad.add (k * 5)) = some (.slice A0 xs[k].x.packages.length c0) ∧ xs[k].x.packages.length ≤ c0 ∧ Kd.C kPackage w A0 xs[k].x.packages.length xs[k].x.packages := by
  obtain ⟨ad, A0, c0, A1, c1, A2, c2, A3, c3, A4, c4, e, h0, h1, h2, h3, h4, l0, g0, l1, g1, l2, g2, l3, g3, l4, g4⟩ := at_G h k hk
  exact ⟨ad, A0, c0, e, h0, l0, g0⟩
theorem at_G_x_prefers {w : World} {A : Option Addr} {xs : List DG} (h : Kd.C kG w A xs.length xs) (k : Nat) (hk : k < xs.length) : ∃ ad A1 c1, A = some ad ∧ w.cell? ⟨(ad.add (k * 5)).block, (ad.add (k * 5)).off + 1, none⟩ = some (.slice A1 xs[k].x.prefers.length c1) ∧ xs[k].x.prefers.length ≤ c1 ∧ Kd.C kPrefer w A1 xs[k].x.prefers.length xs[k].x.prefers := by
  obtain ⟨ad, A0, c0, A1, c1, A2, c2, A3, c3, A4, c4, e, h0, h1, h2, h3, h4, l0, g0, l1, g1, l2, g2, l3, g3, l4, g4⟩ := at_G h k hk
  exact ⟨ad, A1, c1, e, h1, l1, g1⟩
theorem at_G_q_roots {w : World} {A : Option Addr} {xs : List DG} (h : Kd.C kG w A xs.length xs) (k : Nat) (hk : k < xs.length) : ∃ ad A2 c2, A = some ad ∧ w.cell? ⟨(ad.add (k * 5)).block, (ad.add (k * 5)).off + 2, none⟩ = some (.slice A2 xs[k].q.roots.length c2) ∧ xs[k].q.roots.length ≤ c2 ∧ Kd.C kRoot w A2 xs[k].q.roots.length xs[k].q.roots := by
  obtain ⟨ad, A0, c0, A1, c1, A2, c2, A3, c3, A4, c4, e, h0, h1, h2, h3, h4, l0, g0, l1, g1, l2, g2, l3, g3, l4, g4⟩ := at_G h k hk
  exact ⟨ad, A2, c2, e, h2, l2, g2⟩
theorem at_G_c {w : World} {A : Option Addr} {xs : List DG} (h : Kd.C kG w A xs.length xs) (k : Nat) (hk : k < xs.length) : ∃ ad A3 c3, A = some ad ∧ w.cell? ⟨(ad.add (k * 5)).block, (ad.add (k * 5)).off + 3, none⟩ = some (.slice A3 xs[k].c.length c3) ∧ xs[k].c.length ≤ c3 ∧ Kd.C kCh w A3 xs[k].c.length xs[k].c := by
  obtain ⟨ad, A0, c0, A1, c1, A2, c2, A3, c3, A4, c4, e, h0, h1, h2, h3, h4, l0, g0, l1, g1, l2, g2, l3, g3, l4, g4⟩ := at_G h k hk
  exact ⟨ad, A3, c3, e, h3, l3, g3⟩
theorem at_G_off {w : World} {A : Option Addr} {xs : List DG} (h : Kd.C kG w A xs.length xs) (k : Nat) (hk : k < xs.length) : ∃ ad A4 c4, A = some ad ∧ w.cell? ⟨(ad.add (k * 5)).block, (ad.add (k * 5)).off + 4, none⟩ = some (.slice A4 xs[k].off.length c4) ∧ xs[k].off.length ≤ c4 ∧ Kd.C Kd.bool w A4 xs[k].off.length xs[k].off := by
  obtain ⟨ad, A0, c0, A1, c1, A2, c2, A3, c3, A4, c4, e, h0, h1, h2, h3, h4, l0, g0, l1, g1, l2, g2, l3, g3, l4, g4⟩ := at_G h k hk
  exact ⟨ad, A4, c4, e, h4, l4, g4⟩

structure DAtom where
  kind : Int
  a : Int
  b : Int
  c : Int
def zAtom : DAtom := ⟨0, 0, 0, 0⟩
def kAtom : Kd DAtom := Kd.iso (Kd.pair (Kd.int .u8) (Kd.pair (Kd.int .i64) (Kd.pair (Kd.int .i64) (Kd.int .i64)))) (fun x : DAtom => (x.kind, x.a, x.b, x.c))
theorem kAtom_open {w : World} {x : DAtom} {cs : List Value} (h : kAtom.K w x cs) : cs = [.int .u8 x.kind, .int .i64 x.a, .int .i64 x.b, .int .i64 x.c] := by
  obtain ⟨_, _, rfl, rfl, ⟨_, _, rfl, rfl, ⟨_, _, rfl, rfl, rfl⟩⟩⟩ := h
  exact rfl
theorem kAtom_mk (w : World) (x : DAtom)  : kAtom.K w x [.int .u8 x.kind, .int .i64 x.a, .int .i64 x.b, .int .i64 x.c] := ⟨[.int .u8 x.kind], [.int .i64 x.a, .int .i64 x.b, .int .i64 x.c], rfl, rfl, ⟨[.int .i64 x.a], [.int .i64 x.b, .int .i64 x.c], rfl, rfl, ⟨[.int .i64 x.b], [.int .i64 x.c], rfl, rfl, rfl⟩⟩⟩
theorem kAtom_mkM (w : World) (base : Nat) (ok : Nat → Prop) (x : DAtom) : kAtom.M w base ok x [.int .u8 x.kind, .int .i64 x.a, .int .i64 x.b, .int .i64 x.c] := ⟨[.int .u8 x.kind], [.int .i64 x.a, .int .i64 x.b, .int .i64 x.c], rfl, rfl, ⟨[.int .i64 x.a], [.int .i64 x.b, .int .i64 x.c], rfl, rfl, ⟨[.int .i64 x.b], [.int .i64 x.c], rfl, rfl, rfl⟩⟩⟩
theorem at_Atom {w : World} {A : Option Addr} {xs : List DAtom} (h : Kd.C kAtom w A xs.length xs) (k : Nat) (hk : k < xs.length) : ∃ ad , A = some ad ∧ w.cell? (ad.add (k * 4)) = some (.int .u8 xs[k].kind) ∧ w.cell? ⟨(ad.add (k * 4)).block, (ad.add (k * 4)).off + 1, none⟩ = some (.int .i64 xs[k].a) ∧ w.cell? ⟨(ad.add (k * 4)).block, (ad.add (k * 4)).off + 2, none⟩ = some (.int .i64 xs[k].b) ∧ w.cell? ⟨(ad.add (k * 4)).block, (ad.add (k * 4)).off + 3, none⟩ = some (.int .i64 xs[k].c) := by
  obtain ⟨ad, c, e, _, hK, hc0⟩ := Kd.C_get h zAtom k (by omega) (by omega)
  have hc : ∀ j u, c[j]? = some u → w.cell? (ad.add (k * 4 + j)) = some u := hc0
  replace hK : kAtom.K w (xs.getD k zAtom) c := hK
  rw [getD_at _ _ hk] at hK
  obtain rfl := kAtom_open hK
  exact ⟨ad, e, hc 0 _ rfl, by rw [← add_field _ _ 1 (by omega)]; exact hc 1 _ rfl, by rw [← add_field _ _ 2 (by omega)]; exact hc 2 _ rfl, by rw [← add_field _ _ 3 (by omega)]; exact hc 3 _ rfl⟩
theorem at_Atom_K {w : World} {A : Option Addr} {xs : List DAtom} (h : Kd.C kAtom w A xs.length xs) (k : Nat) (hk : k < xs.length) : ∃ ad , A = some ad ∧ w.cell? (ad.add (k * 4)) = some (.int .u8 xs[k].kind) ∧ w.cell? ⟨(ad.add (k * 4)).block, (ad.add (k * 4)).off + 1, none⟩ = some (.int .i64 xs[k].a) ∧ w.cell? ⟨(ad.add (k * 4)).block, (ad.add (k * 4)).off + 2, none⟩ = some (.int .i64 xs[k].b) ∧ w.cell? ⟨(ad.add (k * 4)).block, (ad.add (k * 4)).off + 3, none⟩ = some (.int .i64 xs[k].c) ∧ kAtom.K w xs[k] [.int .u8 xs[k].kind, .int .i64 xs[k].a, .int .i64 xs[k].b, .int .i64 xs[k].c] := by
  obtain ⟨ad, e, h0, h1, h2, h3⟩ := at_Atom h k hk
  exact ⟨ad, e, h0, h1, h2, h3, kAtom_mk _ _⟩
theorem at_Atom_kind {w : World} {A : Option Addr} {xs : List DAtom} (h : Kd.C kAtom w A xs.length xs) (k : Nat) (hk : k < xs.length) : ∃ ad, A = some ad ∧ w.cell? (ad.add (k * 4)) = some (.int .u8 xs[k].kind) := by
  obtain ⟨ad, e, h0, h1, h2, h3⟩ := at_Atom h k hk
  exact ⟨ad, e, h0⟩
theorem at_Atom_a {w : World} {A : Option Addr} {xs : List DAtom} (h : Kd.C kAtom w A xs.length xs) (k : Nat) (hk : k < xs.length) : ∃ ad, A = some ad ∧ w.cell? ⟨(ad.add (k * 4)).block, (ad.add (k * 4)).off + 1, none⟩ = some (.int .i64 xs[k].a) := by
  obtain ⟨ad, e, h0, h1, h2, h3⟩ := at_Atom h k hk
  exact ⟨ad, e, h1⟩
theorem at_Atom_b {w : World} {A : Option Addr} {xs : List DAtom} (h : Kd.C kAtom w A xs.length xs) (k : Nat) (hk : k < xs.length) : ∃ ad, A = some ad ∧ w.cell? ⟨(ad.add (k * 4)).block, (ad.add (k * 4)).off + 2, none⟩ = some (.int .i64 xs[k].b) := by
  obtain ⟨ad, e, h0, h1, h2, h3⟩ := at_Atom h k hk
  exact ⟨ad, e, h2⟩
theorem at_Atom_c {w : World} {A : Option Addr} {xs : List DAtom} (h : Kd.C kAtom w A xs.length xs) (k : Nat) (hk : k < xs.length) : ∃ ad, A = some ad ∧ w.cell? ⟨(ad.add (k * 4)).block, (ad.add (k * 4)).off + 3, none⟩ = some (.int .i64 xs[k].c) := by
  obtain ⟨ad, e, h0, h1, h2, h3⟩ := at_Atom h k hk
  exact ⟨ad, e, h3⟩


end Go.Proofs.YtbahanlnkikpeaaGreat
