/- Functions of the program over contacts, walked. Conditions: none. -/
import Derived.Test.YtdmbcbdcabgifaaDoorTy16
import Derived.Ground.NamesProg
import Derived.Shelf.Sort.Plain
import Derived.Shelf.Strings.Builder1
import Derived.Shelf.Strconv.Itoa3
import Derived.Test.YtdmbcbdcabgifaaDoorProg
import Derived.Test.YtdmbcbdcabgifaaDoorIdlC
set_option linter.unusedSimpArgs false
set_option linter.unusedVariables false

namespace Go.Idl
open Go Go.Proofs.Tryd

@[go_sem] abbrev sS (l : List (List UInt8)) : IV := .sl 1 (l.map fun s => [.v (str s)])

set_option pp.deepTerms false in
set_option pp.proofs false in
set_option maxRecDepth 4000 in
theorem texts_spec {H : IHeap} {K : IEnd → IHeap → Prop} (l : List (List UInt8)) (hK : ∀ r, r = decide (l.length ≤ 20 ∧ ∀ s ∈ l, s.length ≤ 400) → K (.ret (.v (.bool r))) H) : ICalls prog 7 [sS l] H K := by
  refine ICalls_vc (N := 19) func7 (by kernel_rfl) rfl (by kernel_rfl) (by kernel_rfl) fun hw hbd hnb => ?_
  simp (maxSteps := 1000000) (disch := omega) [go_sem]
  refine condB ?_ ?_ <;> intro hc <;> (try simp at hc)
  · simp (maxSteps := 1000000) (disch := omega) [go_sem]
    refine retG_pure (.refl hw) (.v _) (hK _ ?_)
    simp; omega
  · simp (maxSteps := 1000000) (disch := omega) [go_sem]
    refine vcLoop_mk (fun tm' H' => H' = H ∧ ∃ i : Nat, tm' 0 = sS l ∧ tm' 3 = .v (.int .i64 i) ∧ i ≤ l.length ∧ ∀ s ∈ l.take i, s.length ≤ 400) (fun tm' _ => l.length - (intOf (tm' 3)).toNat) (.same ?_) ?_
    · refine ⟨rfl, 0, ?_, ?_, ?_, ?_⟩ <;> simp [go_sem]
    · rintro I' μ' hI hμ tm' H' ⟨rfl, i, h0, h3, hi, hp⟩
      refine vc_sound _ (by kernel_rfl) _ _ _ ?_
      simp (maxSteps := 1000000) (disch := omega) [go_sem, h0, h3]
      refine condB ?_ ?_ <;> intro hc' <;> (try simp at hc')
      · simp (maxSteps := 1000000) (disch := omega) [go_sem, h0, h3]
        refine condB ?_ ?_ <;> intro hc'' <;> (try simp at hc'')
        · simp (maxSteps := 1000000) (disch := omega) [go_sem, h0, h3]
          refine retG_pure (.refl hw) (.v _) (hK _ ?_)
          simp
          exact fun _ => ⟨l[i], List.getElem_mem _, by omega⟩
        · simp (maxSteps := 1000000) (disch := omega) [go_sem, h0, h3]
          refine .of hI hμ ⟨rfl, i + 1, by simp [go_sem, h0], by simp [go_sem], by omega, fun s hs => ?_⟩ (by simp [go_sem, h3]; omega)
          rw [List.take_succ_eq_append_getElem hc', List.mem_append] at hs
          rcases hs with hs | hs
          · exact hp s hs
          · simp at hs; subst hs; omega
      · simp (maxSteps := 1000000) (disch := omega) [go_sem, h0, h3]
        refine retG_pure (.refl hw) (.v _) (hK _ ?_)
        have e : i = l.length := by omega
        subst e
        simp at hp
        simp; exact ⟨by omega, hp⟩

theorem same17 {H : IHeap} {K : IEnd → IHeap → Prop} (a b : List (List UInt8)) (hK : ∀ r, r = decide (a = b) → K (.ret (.v (.bool r))) H) : ICalls prog 17 [sS a, sS b] H K := by
  refine ICalls_vc (N := 26) func17 (by kernel_rfl) rfl (by kernel_rfl) (by kernel_rfl) fun hw hbd hnb => ?_
  simp only [List.mem_cons, List.not_mem_nil, or_false, forall_eq_or_imp, forall_eq, Bd_sl, List.length_map, maxN] at hbd
  obtain ⟨⟨hla, _⟩, ⟨hlb, _⟩⟩ := hbd
  simp (maxSteps := 1000000) (disch := omega) [go_sem]
  refine condB ?_ ?_ <;> intro hc <;> (try simp at hc)
  · simp (maxSteps := 1000000) (disch := omega) [go_sem]
    refine retG_pure (.refl hw) (.v _) (hK _ ?_)
    symm
    simp; intro e; subst e; omega
  · simp (maxSteps := 1000000) (disch := omega) [go_sem]
    refine vcLoop_mk (fun tm' H' => H' = H ∧ ∃ i : Nat, tm' 0 = sS a ∧ tm' 1 = sS b ∧ tm' 5 = .v (.int .i64 i) ∧ i ≤ a.length ∧ a.take i = b.take i) (fun tm' _ => a.length - (intOf (tm' 5)).toNat) (.same ?_) ?_
    · refine ⟨rfl, 0, ?_, ?_, ?_, ?_, ?_⟩ <;> simp [go_sem]
    · rintro I' μ' hI hμ tm' H' ⟨rfl, i, h0, h1, h5, hi, hp⟩
      refine vc_sound _ (by kernel_rfl) _ _ _ ?_
      simp (maxSteps := 1000000) (disch := omega) [go_sem, h0, h1, h5]
      refine condB ?_ ?_ <;> intro hc' <;> (try simp at hc')
      · simp (maxSteps := 1000000) (disch := omega) [go_sem, h0, h1, h5]
        refine IWp_draw [0, 1, 2, 3, 4, 5, 6, 7, 8] (by kernel_rfl) (by kernel_rfl) (fun _ _ _ _ h => h) ?_
        simp (maxSteps := 1000000) (disch := omega) [go_sem, h0, h1, h5]
        refine condB ?_ ?_ <;> intro he <;> (try simp at he)
        · simp (maxSteps := 1000000) (disch := omega) [go_sem, h0, h1, h5]
          refine retG_pure (.refl hw) (.v _) (hK _ ?_)
          symm
          simp
          rintro rfl
          exact he rfl
        · simp (maxSteps := 1000000) (disch := omega) [go_sem, h0, h1, h5]
          refine .of hI hμ ⟨rfl, i + 1, by simp [go_sem, h0], by simp [go_sem, h1], by simp [go_sem], by omega, ?_⟩ (by simp [go_sem, h5]; omega)
          rw [List.take_succ_eq_append_getElem hc', List.take_succ_eq_append_getElem (by omega), hp, he]
      · simp (maxSteps := 1000000) (disch := omega) [go_sem, h0, h1, h5]
        refine retG_pure (.refl hw) (.v _) (hK _ ?_)
        symm
        have e : i = a.length := by omega
        subst e
        simp at hp
        have : b.length = a.length := by omega
        rw [← this] at hp
        simpa using hp
end Go.Idl

namespace Go.Idl
open Go Go.Proofs.Tryd

/-- The rows of a slice, counted. -/
def ixs (l : List IV) : List (List IV) := l.zipIdx.map fun p => [.v (.int .i64 p.2), p.1]

theorem ixs_length (l : List IV) : (ixs l).length = l.length := by simp [ixs]
theorem ixs_get {l : List IV} {i : Nat} (h : i < l.length) : (ixs l)[i]? = some [.v (.int .i64 i), l[i]] := by simp [ixs, h]

set_option pp.deepTerms false in
set_option maxRecDepth 4000 in
theorem all49 (l : List IV) : Iter prog 49 [.cp [.sl 1 (l.map fun x => [x])]] (ixs l) [] := by
  refine ⟨by kernel_rfl, fun lp I E H hC hy h0 => ?_⟩
  refine ICalls_vc (N := 18) func49 (by kernel_rfl) rfl (by kernel_rfl) (by kernel_rfl) fun hw hbd hnb => ?_
  simp only [List.mem_cons, List.not_mem_nil, or_false, forall_eq_or_imp, forall_eq] at hbd
  have hl : l.length ≤ 9223372036854775807 := by
    have h := hbd.2
    cases h with | cp _ h => exact (by simpa [maxN] using (Bd_sl.1 (h (.sl 1 (l.map fun x => [x])) (by simp))).1)
  simp (maxSteps := 1000000) (disch := omega) [go_sem]
  refine vcLoop_mk (fun tm' H' => ∃ i : Nat, tm' 0 = yv lp ∧ tm' 5 = .sl 1 (l.map fun x => [x]) ∧ tm' 6 = .v (.int .i64 l.length) ∧ tm' 7 = .v (.int .i64 i) ∧ i ≤ l.length ∧ I i H') (fun tm' _ => l.length - (intOf (tm' 7)).toNat) (.same ?_) ?_
  · exact ⟨0, by simp [go_sem], by simp [go_sem], by simp [go_sem], by simp [go_sem], by omega, h0⟩
  · rintro I' μ' hI hμ tm' H' ⟨i, h0, h5, h6, h7, hi, hI0⟩
    refine vc_sound _ (by kernel_rfl) _ _ _ ?_
    simp (maxSteps := 1000000) (disch := omega) [go_sem, h0, h5, h6, h7]
    refine condB ?_ ?_ <;> intro hc <;> (try simp at hc)
    · simp (maxSteps := 1000000) (disch := omega) [go_sem, h0, h5, h6, h7]
      refine IOper_yield' (l := lp) rfl (by kernel_rfl) (by simp [go_sem]) (by simp [go_sem]) ((hy i _ H' (ixs_get hc) hI0).mono ?_)
      rintro b H'' (⟨rfl, h⟩ | ⟨rfl, h⟩)
      · simp (maxSteps := 1000000) (disch := omega) [go_sem, h0, h5, h6, h7]
        exact .of hI hμ ⟨i + 1, by simp [go_sem, h0], by simp [go_sem, h5], by simp [go_sem, h6], by simp [go_sem], by omega, h⟩ (by simp [go_sem, h7]; omega)
      · simp (maxSteps := 1000000) (disch := omega) [go_sem, h0, h5, h6, h7]
        exact retG_all ⟨⟨_, rfl⟩, .inr h⟩
    · simp (maxSteps := 1000000) (disch := omega) [go_sem, h0, h5, h6, h7]
      have e : i = l.length := by omega
      subst e
      exact retG_all ⟨⟨_, rfl⟩, .inl (by rw [ixs_length]; exact hI0)⟩

theorem all41 {H : IHeap} {K : IEnd → IHeap → Prop} (x : IV) (hx : cellsI x = some [x]) (hK : K (.ret (.fn (.func 49) [] [.cp [x]])) H) : ICalls prog 41 [x] H K := by
  refine ICalls_vc (N := 4) func41 (by kernel_rfl) rfl (by kernel_rfl) (by kernel_rfl) fun hw hbd hnb => ?_
  have hnx := hnb x (by simp)
  simp (maxSteps := 1000000) (disch := omega) [go_sem, hx]
  exact retG_fz (J := H) (Ext.refl hw |>.new _).endH (.clos1 (.ptr (cs := [x]) (hw _ (Nat.le_refl _)) (by simp [go_sem]) (by simpa using hnx))) hK
end Go.Idl

namespace Go.Idl
open Go Go.Proofs.Tryd

/-- A contact. -/
@[go_sem] abbrev cS (c : List (List (List UInt8))) : IV := .ag (c.map sS)

set_option pp.deepTerms false in
set_option maxRecDepth 4000 in
theorem fields25 {H : IHeap} {K : IEnd → IHeap → Prop} (c : List (List (List UInt8))) (hc : c.length = 8) (hK : K (.ret (.fn (.func 49) [] [.cp [.sl 1 ((c.map sS).map fun x => [x])]])) H) : ICalls prog 25 [cS c] H K := by
  refine ICalls_vc (N := 5) func25 (by kernel_rfl) rfl (by kernel_rfl) (by kernel_rfl) fun hw hbd hnb => ?_
  simp (maxSteps := 1000000) (disch := omega) [go_sem, hc]
  refine all41 _ rfl ?_
  simp (maxSteps := 1000000) (disch := omega) [go_sem, hc]
  have e : (.sl 1 ((c.map sS).map fun x => [x]) : IV) = .sl 1 (chunks 1 8 ((c.map sS).drop 0)) := by rw [List.drop_zero, chunks_one' (by simp [hc])]
  have hbs := Fz.bs (H := H.new (.cells (c.map sS))) (J := H) H.next 0 8 1 (c.map sS) (c.map sS) (hw _ (Nat.le_refl _)) (by simp [go_sem]) rfl (by simp [hc]) (by simp [maxN]) (fzs (NB_ag.1 (hnb (cS c) (by simp))))
  rw [← e] at hbs
  exact retG_fz (J := H) (Ext.refl hw |>.new _).endH (.clos1 (.cp1 hbs)) hK

theorem clone20 {H : IHeap} {K : IEnd → IHeap → Prop} (l : List (List UInt8)) (hl : l.length ≤ 1000000) (hK : K (.ret (sS l)) H) : ICalls prog 20 [sS l] H K := by
  refine ICalls_vc (N := 8) func20 (by kernel_rfl) rfl (by kernel_rfl) (by kernel_rfl) fun hw hbd hnb => ?_
  have hnl := hnb (sS l) (by simp)
  simp (maxSteps := 1000000) (disch := omega) [go_sem]
  refine IOper_slnil rfl (by kernel_rfl) underlying22 (by simp [go_sem]; exact ⟨rfl, rfl⟩) rfl (.inl rfl) fun b hb => ?_
  simp (maxSteps := 1000000) (disch := omega) [go_sem]
  refine condB ?_ ?_ <;> intro hc <;> (try simp at hc)
  · simp (maxSteps := 1000000) (disch := omega) [go_sem]
    have e : l = [] := by simpa using hb hc
    subst e
    exact retG_fz (J := H) (Ext.refl hw).endH (.wk _ _ (.nil 1) hnl) hK
  · simp (maxSteps := 1000000) (disch := omega) [go_sem]
    refine IOper_buildEmpty (sz := 1) (rs := []) rfl (by simp [bsI, underlying22, zero9, cells9, Value.cells, Value.oneCell', rep, fillI]) ?_
    simp (maxSteps := 1000000) (disch := omega) [go_sem]
    exact retG_fz (J := H) ((Ext.refl hw).new _ |>.set (Nat.le_refl _) _).endH (.row (hw _ (Nat.le_refl _)) (by simp [go_sem]) (by simp) hnl) hK
end Go.Idl

namespace Go.Idl
open Go Go.Proofs.Tryd

set_option pp.deepTerms false in
set_option maxRecDepth 4000 in
theorem copy16 {H : IHeap} {K : IEnd → IHeap → Prop} (c : List (List (List UInt8))) (hc : c.length = 8) (hs : ∀ s, s ∈ c → s.length ≤ 1000000) (hK : K (.ret (cS c)) H) : ICalls prog 16 [cS c] H K := by
  refine ICalls_vc (N := 14) func16 (by kernel_rfl) rfl (by kernel_rfl) (by kernel_rfl) fun hw hbd hnb => ?_
  have hnc := hnb (cS c) (by simp)
  have ht : List.take 8 (c.map sS) = c.map sS := by rw [List.take_of_length_le]; simp [hc]
  simp (maxSteps := 1000000) (disch := omega) [go_sem, hc, ht]
  refine fields25 c hc ?_
  simp (maxSteps := 1000000) (disch := omega) [go_sem, hc]
  refine IWp_rangeFunc (gf := 49) (cap := [.cp [.sl 1 ((c.map sS).map fun x => [x])]]) (by kernel_rfl) (by simp [go_sem]) (all49 (c.map sS))
    (fun i Hu => Hu.obj H.next = some (.cells (c.map sS)) ∧ Hu.obj (H.next + 1) = some (.cells (List.replicate 8 (.v (.slice none 0 0)))) ∧ Ext H Hu ∧ H.next + 2 ≤ Hu.next) ?_ (by simp) ?_ ?_ ?_
  · refine ⟨by simp [go_sem], by simp [go_sem], (Ext.refl hw).new _ |>.new _, by simp [go_sem]⟩
  · intro args h
    obtain ⟨i, hi⟩ := List.getElem?_of_mem h
    simp only [ixs, List.getElem?_map, Option.map_eq_some_iff] at hi
    obtain ⟨p, _, rfl⟩ := hi
    rfl
  · rintro i args Hu hx ⟨h1, h2, h3, h4⟩
    have hi : i < c.length := by
      have := (List.getElem?_eq_some_iff.1 hx).1
      simpa [ixs_length] using this
    rw [ixs_get (by simpa using hi)] at hx
    cases hx
    refine vc_sound _ (by kernel_rfl) _ _ _ ?_
    simp (maxSteps := 1000000) (disch := omega) [go_sem, setPs, hc]
    refine vc_sound _ (by kernel_rfl) _ _ _ ?_
    simp (maxSteps := 1000000) (disch := omega) [go_sem, setPs, hc, h1, h2]
    refine clone20 _ (hs _ (List.getElem_mem _)) ?_
    simp (maxSteps := 1000000) (disch := omega) [go_sem, setPs, hc, h1, h2]
    have e : List.take i (List.map sS c) ++ sS c[i] :: List.drop (i + 1) (List.map sS c) = List.map sS c := by
      conv => rhs; rw [← List.take_append_drop i (List.map sS c), List.drop_eq_getElem_cons (by simpa using hi)]
      simp
    refine ⟨by simp [go_sem]; exact e, by simp [go_sem]; exact h2, h3.skip.set (Nat.le_refl _) _, by simp [go_sem]; omega⟩
  · rintro Hu ⟨h1, h2, h3, h4⟩
    simp (maxSteps := 1000000) (disch := omega) [go_sem, hc, h1, h2]
    rw [ht, ht]
    exact retG_fz (J := H) (h3.skip.set (by omega) _).endH (.same hnc) hK
end Go.Idl

namespace Go.Idl
open Go Go.Proofs.Tryd

set_option pp.deepTerms false in
set_option maxRecDepth 4000 in
theorem values39 (l : List IV) : Iter prog 39 [.cp [.sl 1 (l.map fun x => [x])]] (l.map fun x => [x]) [] := by
  refine ⟨by kernel_rfl, fun lp I E H hC hy h0 => ?_⟩
  refine ICalls_vc (N := 16) func39 (by kernel_rfl) rfl (by kernel_rfl) (by kernel_rfl) fun hw hbd hnb => ?_
  simp only [List.mem_cons, List.not_mem_nil, or_false, forall_eq_or_imp, forall_eq] at hbd
  have hl : l.length ≤ 9223372036854775807 := by
    have h := hbd.2
    cases h with | cp _ h => exact (by simpa [maxN] using (Bd_sl.1 (h (.sl 1 (l.map fun x => [x])) (by simp))).1)
  simp (maxSteps := 1000000) (disch := omega) [go_sem]
  refine vcLoop_mk (fun tm' H' => ∃ i : Nat, tm' 0 = yv lp ∧ tm' 5 = .sl 1 (l.map fun x => [x]) ∧ tm' 6 = .v (.int .i64 l.length) ∧ tm' 7 = .v (.int .i64 i) ∧ i ≤ l.length ∧ I i H') (fun tm' _ => l.length - (intOf (tm' 7)).toNat) (.same ?_) ?_
  · exact ⟨0, by simp [go_sem], by simp [go_sem], by simp [go_sem], by simp [go_sem], by omega, h0⟩
  · rintro I' μ' hI hμ tm' H' ⟨i, h0, h5, h6, h7, hi, hI0⟩
    refine vc_sound _ (by kernel_rfl) _ _ _ ?_
    simp (maxSteps := 1000000) (disch := omega) [go_sem, h0, h5, h6, h7]
    refine condB ?_ ?_ <;> intro hc <;> (try simp at hc)
    · simp (maxSteps := 1000000) (disch := omega) [go_sem, h0, h5, h6, h7]
      refine IOper_yield' (l := lp) (is := [l[i]]) rfl (by kernel_rfl) (by simp [go_sem]) (by simp [go_sem]) ((hy i _ H' (by simp [hc]) hI0).mono ?_)
      rintro b H'' (⟨rfl, h⟩ | ⟨rfl, h⟩)
      · simp (maxSteps := 1000000) (disch := omega) [go_sem, h0, h5, h6, h7]
        exact .of hI hμ ⟨i + 1, by simp [go_sem, h0], by simp [go_sem, h5], by simp [go_sem, h6], by simp [go_sem], by omega, h⟩ (by simp [go_sem, h7]; omega)
      · simp (maxSteps := 1000000) (disch := omega) [go_sem, h0, h5, h6, h7]
        exact retG_all ⟨⟨_, rfl⟩, .inr h⟩
    · simp (maxSteps := 1000000) (disch := omega) [go_sem, h0, h5, h6, h7]
      have e : i = l.length := by omega
      subst e
      exact retG_all ⟨⟨_, rfl⟩, .inl hI0⟩

theorem values23 {H : IHeap} {K : IEnd → IHeap → Prop} (x : IV) (hx : cellsI x = some [x]) (hK : K (.ret (.fn (.func 39) [] [.cp [x]])) H) : ICalls prog 23 [x] H K := by
  refine ICalls_vc (N := 4) func23 (by kernel_rfl) rfl (by kernel_rfl) (by kernel_rfl) fun hw hbd hnb => ?_
  have hnx := hnb x (by simp)
  simp (maxSteps := 1000000) (disch := omega) [go_sem, hx]
  exact retG_fz (J := H) (Ext.refl hw |>.new _).endH (.clos1 (.ptr (cs := [x]) (hw _ (Nat.le_refl _)) (by simp [go_sem]) (by simpa using hnx))) hK

/-- An own slice of texts. -/
def Own (J : IHeap) (n : Nat) (r : IV) (l : List (List UInt8)) : Prop :=
  (l = [] ∧ r = .v (.slice none 0 0)) ∨ (l ≠ [] ∧ ∃ k, n ≤ k ∧ r = .bs k 0 l.length ∧ J.obj k = some (.cells (l.map fun s => .v (str s))))

set_option pp.deepTerms false in
set_option maxRecDepth 4000 in
theorem appendSeq46 {H : IHeap} {K : IEnd → IHeap → Prop} (l : List (List UInt8)) (hl : l.length ≤ 1000000) (gf : FuncId) (cap : List IV) (C : List (Nat × HO)) (hit : Iter prog gf cap (l.map fun s => [.v (str s)]) C) (hC : ∀ p, p ∈ C → H.obj p.1 = some p.2)
    (hK : ∀ r J, Ext H J → Own J H.next r l → K (.ret r) J) : ICalls prog 46 [.v (.slice none 0 0), .fn (.func gf) [] cap] H K := by
  refine ICalls_vc (N := 13) func46 (by kernel_rfl) rfl (by kernel_rfl) (by kernel_rfl) fun hw hbd hnb => ?_
  simp (maxSteps := 1000000) (disch := omega) [go_sem]
  refine IWp_rangeFunc (gf := gf) (cap := cap) (by kernel_rfl) (by simp [go_sem]) hit
    (fun i Hu => Ext H Hu ∧ H.next < Hu.next ∧ ((i = 0 ∧ Hu.obj H.next = some (.cells [.v (.slice none 0 0)])) ∨ (0 < i ∧ ∃ k, H.next < k ∧ k < Hu.next ∧ Hu.obj H.next = some (.cells [.os k i]) ∧ Hu.obj k = some (.row 1 ((l.take i).map fun s => [.v (str s)]))))) ?_ ?_ ?_ ?_ ?_
  · exact ⟨(Ext.refl hw).new _, by simp [go_sem], .inl ⟨rfl, by simp [go_sem]⟩⟩
  · rintro i Hu ⟨he, _⟩ p hp
    exact he.sub _ _ (hC p hp)
  · intro args h
    simp at h
    obtain ⟨s, _, rfl⟩ := h
    rfl
  · rintro i args Hu hx ⟨he, hn, hI⟩
    have hi : i < l.length := by
      have := (List.getElem?_eq_some_iff.1 hx).1
      simpa using this
    simp [hi] at hx
    subst hx
    refine vc_sound _ (by kernel_rfl) _ _ _ ?_
    simp (maxSteps := 1000000) (disch := omega) [go_sem, setPs]
    refine vc_sound _ (by kernel_rfl) _ _ _ ?_
    rcases hI with ⟨rfl, h1⟩ | ⟨h0, k, hk, hk', h1, h2⟩
    · have e1 : ¬ H.next = Hu.next + 1 := by omega
      simp (maxSteps := 1000000) (disch := omega) [go_sem, setPs, h1, e1]
      refine ⟨((he.skip).new _).set (Nat.le_refl _) _, by simp [go_sem]; omega, Hu.next + 1, by omega, by simp [go_sem], by simp [go_sem], ?_⟩
      have e2 : ¬ Hu.next + 1 = H.next := by omega
      simp [go_sem, e2, List.take_one]
      rw [List.head?_eq_getElem?, List.getElem?_eq_getElem hi]
      simp
    · have e1 : ¬ H.next = k := by omega
      have e2 : ¬ k = H.next := by omega
      simp (maxSteps := 1000000) (disch := omega) [go_sem, setPs, h1, h2, e1, e2]
      refine ⟨((he.skip).set (by omega) _).set (Nat.le_refl _) _, by simp [go_sem]; omega, k, hk, by simp [go_sem]; omega, by simp [go_sem], ?_⟩
      simp [go_sem, e2]
      rw [List.take_succ_eq_append_getElem (by simpa using hi)]
      simp
  · rintro Hu ⟨he, hn, hI⟩
    rcases hI with ⟨e, h1⟩ | ⟨h0, k, hk, hk', h1, h2⟩
    · have e' : l = [] := by simpa using e
      simp (maxSteps := 1000000) (disch := omega) [go_sem, h1]
      exact retG_all (hK _ _ he.skip (.inl ⟨e', rfl⟩))
    · have hne : l ≠ [] := by rintro rfl; simp at h0
      have hpos : 0 < l.length := by simpa using h0
      have h2' : Hu.skip.obj k = some (.row 1 (l.map fun s => [.v (str s)])) := by simpa [go_sem] using h2
      simp (maxSteps := 1000000) (disch := omega) [go_sem, h1, h2]
      have hf : GhR (.os k (l.map fun s => ([.v (str s)] : List IV)).length) Hu.skip (.bs Hu.skip.next 0 (l.map fun s => ([.v (str s)] : List IV)).length) (Hu.skip.fix k (l.map fun s => ([.v (str s)] : List IV)).flatten) := GhR.fix h2' (by simpa using hpos)
      rw [List.length_map] at hf
      refine retG_gh hf (hK _ _ (he.skip.fix (by omega) _) (.inr ⟨hne, _, by simp [go_sem]; omega, rfl, ?_⟩))
      simp [go_sem, List.flatten_eq_flatMap, List.flatMap_map]
      clear hK hit hC hl hf h2' h2 h1 h0 hpos hne
      induction l with
      | nil => rfl
      | cons s l ih => simp [ih]
end Go.Idl

namespace Go.Proofs
open Go.Shelf
def Tryd.lays190_ren : Go.Shelf.Ren := ⟨fun | 190 => 38 | 125 => 48 | 258 => 47 | 128 => 61 | 129 => 62 | 302 => 52 | 303 => 53 | 304 => 54 | 305 => 55 | 306 => 56 | 307 => 57 | 308 => 58 | 309 => 59 | 310 => 60 | 333 => 67 | 329 => 68 | 330 => 69 | 334 => 70 | 335 => 71 | 336 => 72 | 344 => 77 | n => n, fun | 31 => 22 | 9 => 9 | 3 => 3 | 46 => 75 | 0 => 0 | 51 => 89 | 53 => 91 | 4 => 4 | 183 => 81 | 182 => 80 | 131 => 86 | 5 => 5 | 218 => 96 | 222 => 100 | 228 => 106 | 229 => 107 | n => n, fun | n => n⟩
theorem Tryd.lays190 : Go.Proofs.Lays.n190 Tryd.prog Tryd.lays190_ren := {
  mixed := by kernel_rfl
  f125 := Tryd.func48.trans (congrArg some (by kernel_rfl))
  f128 := Tryd.func61.trans (congrArg some (by kernel_rfl))
  f129 := Tryd.func62.trans (congrArg some (by kernel_rfl))
  f190 := Tryd.func38.trans (congrArg some (by kernel_rfl))
  f258 := Tryd.func47.trans (congrArg some (by kernel_rfl))
  f302 := Tryd.func52.trans (congrArg some (by kernel_rfl))
  f303 := Tryd.func53.trans (congrArg some (by kernel_rfl))
  f304 := Tryd.func54.trans (congrArg some (by kernel_rfl))
  f305 := Tryd.func55.trans (congrArg some (by kernel_rfl))
  f306 := Tryd.func56.trans (congrArg some (by kernel_rfl))
  f307 := Tryd.func57.trans (congrArg some (by kernel_rfl))
  f308 := Tryd.func58.trans (congrArg some (by kernel_rfl))
  f309 := Tryd.func59.trans (congrArg some (by kernel_rfl))
  f310 := Tryd.func60.trans (congrArg some (by kernel_rfl))
  f329 := Tryd.func68.trans (congrArg some (by kernel_rfl))
  f330 := Tryd.func69.trans (congrArg some (by kernel_rfl))
  f333 := Tryd.func67.trans (congrArg some (by kernel_rfl))
  f334 := Tryd.func70.trans (congrArg some (by kernel_rfl))
  f335 := Tryd.func71.trans (congrArg some (by kernel_rfl))
  f336 := Tryd.func72.trans (congrArg some (by kernel_rfl))
  f344 := Tryd.func77.trans (congrArg some (by kernel_rfl))
  t0 := Tryd.underlying0
  a0 := Tryd.isAgg0
  z0 := Tryd.sizeOf0
  v0 := Tryd.zeroValue0
  t3 := Tryd.underlying3
  a3 := Tryd.isAgg3
  z3 := Tryd.sizeOf3
  v3 := Tryd.zeroValue3
  t4 := Tryd.underlying4
  a4 := Tryd.isAgg4
  z4 := Tryd.sizeOf4
  v4 := Tryd.zeroValue4
  t5 := Tryd.underlying5
  a5 := Tryd.isAgg5
  z5 := Tryd.sizeOf5
  v5 := Tryd.zeroValue5
  t9 := Tryd.underlying9
  a9 := Tryd.isAgg9
  z9 := Tryd.sizeOf9
  v9 := Tryd.zeroValue9
  t31 := Tryd.underlying22
  a31 := Tryd.isAgg22
  z31 := Tryd.sizeOf22
  v31 := Tryd.zeroValue22
  t46 := Tryd.underlying75
  a46 := Tryd.isAgg75
  z46 := Tryd.sizeOf75
  v46 := Tryd.zeroValue75
  t51 := Tryd.underlying89
  a51 := Tryd.isAgg89
  z51 := Tryd.sizeOf89
  v51 := Tryd.zeroValue89
  t53 := Tryd.underlying91
  a53 := Tryd.isAgg91
  z53 := Tryd.sizeOf91
  v53 := Tryd.zeroValue91
  t131 := Tryd.underlying86
  a131 := Tryd.isAgg86
  z131 := Tryd.sizeOf86
  v131 := Tryd.zeroValue86
  t182 := Tryd.underlying80
  a182 := Tryd.isAgg80
  z182 := Tryd.sizeOf80
  v182 := Tryd.zeroValue80
  t183 := Tryd.underlying81
  a183 := Tryd.isAgg81
  z183 := Tryd.sizeOf81
  v183 := Tryd.zeroValue81
  t218 := Tryd.underlying96
  a218 := Tryd.isAgg96
  z218 := Tryd.sizeOf96
  v218 := Tryd.zeroValue96
  t222 := Tryd.underlying100
  a222 := Tryd.isAgg100
  z222 := Tryd.sizeOf100
  v222 := Tryd.zeroValue100
  t228 := Tryd.underlying106
  a228 := Tryd.isAgg106
  z228 := Tryd.sizeOf106
  v228 := Tryd.zeroValue106
  t229 := Tryd.underlying107
  a229 := Tryd.isAgg107
  z229 := Tryd.sizeOf107
  v229 := Tryd.zeroValue107 }
def Tryd.lays169_ren : Go.Shelf.Ren := ⟨fun | 169 => 31 | n => n, fun | 70 => 50 | 9 => 9 | 0 => 0 | 72 => 53 | 37 => 51 | 127 => 70 | 3 => 3 | 5 => 5 | n => n, fun | n => n⟩
theorem Tryd.lays169 : Go.Proofs.Lays.n169 Tryd.prog Tryd.lays169_ren := {
  mixed := by kernel_rfl
  f169 := Tryd.func31.trans (congrArg some (by kernel_rfl))
  t0 := Tryd.underlying0
  a0 := Tryd.isAgg0
  z0 := Tryd.sizeOf0
  v0 := Tryd.zeroValue0
  t3 := Tryd.underlying3
  a3 := Tryd.isAgg3
  z3 := Tryd.sizeOf3
  v3 := Tryd.zeroValue3
  t9 := Tryd.underlying9
  a9 := Tryd.isAgg9
  z9 := Tryd.sizeOf9
  v9 := Tryd.zeroValue9
  t37 := Tryd.underlying51
  a37 := Tryd.isAgg51
  z37 := Tryd.sizeOf51
  v37 := Tryd.zeroValue51
  t70 := Tryd.underlying50
  a70 := Tryd.isAgg50
  z70 := Tryd.sizeOf50
  v70 := Tryd.zeroValue50
  t72 := Tryd.underlying53
  a72 := Tryd.isAgg53
  z72 := Tryd.sizeOf53
  v72 := Tryd.zeroValue53
  t127 := Tryd.underlying70
  a127 := Tryd.isAgg70
  z127 := Tryd.sizeOf70
  v127 := Tryd.zeroValue70 }
def Tryd.lays171_ren : Go.Shelf.Ren := ⟨fun | 171 => 30 | 243 => 43 | 246 => 51 | 283 => 63 | 284 => 64 | 285 => 65 | 286 => 66 | 129 => 62 | 317 => 73 | 318 => 74 | 319 => 75 | 320 => 76 | 337 => 78 | 338 => 79 | n => n, fun | 3 => 3 | 9 => 9 | 2 => 2 | 4 => 4 | 171 => 92 | 0 => 0 | 53 => 91 | 37 => 51 | 5 => 5 | 173 => 94 | 212 => 103 | 51 => 89 | 20 => 20 | 213 => 104 | 46 => 75 | 232 => 109 | 233 => 110 | n => n, fun | 17 => 0 | 18 => 1 | 19 => 2 | n => n⟩
theorem Tryd.lays171 : Go.Proofs.Lays.n171 Tryd.prog Tryd.lays171_ren := {
  mixed := by kernel_rfl
  f129 := Tryd.func62.trans (congrArg some (by kernel_rfl))
  f171 := Tryd.func30.trans (congrArg some (by kernel_rfl))
  f243 := Tryd.func43.trans (congrArg some (by kernel_rfl))
  f246 := Tryd.func51.trans (congrArg some (by kernel_rfl))
  f283 := Tryd.func63.trans (congrArg some (by kernel_rfl))
  f284 := Tryd.func64.trans (congrArg some (by kernel_rfl))
  f285 := Tryd.func65.trans (congrArg some (by kernel_rfl))
  f286 := Tryd.func66.trans (congrArg some (by kernel_rfl))
  f317 := Tryd.func73.trans (congrArg some (by kernel_rfl))
  f318 := Tryd.func74.trans (congrArg some (by kernel_rfl))
  f319 := Tryd.func75.trans (congrArg some (by kernel_rfl))
  f320 := Tryd.func76.trans (congrArg some (by kernel_rfl))
  f337 := Tryd.func78.trans (congrArg some (by kernel_rfl))
  f338 := Tryd.func79.trans (congrArg some (by kernel_rfl))
  t0 := Tryd.underlying0
  a0 := Tryd.isAgg0
  z0 := Tryd.sizeOf0
  v0 := Tryd.zeroValue0
  t2 := Tryd.underlying2
  a2 := Tryd.isAgg2
  z2 := Tryd.sizeOf2
  v2 := Tryd.zeroValue2
  t3 := Tryd.underlying3
  a3 := Tryd.isAgg3
  z3 := Tryd.sizeOf3
  v3 := Tryd.zeroValue3
  t4 := Tryd.underlying4
  a4 := Tryd.isAgg4
  z4 := Tryd.sizeOf4
  v4 := Tryd.zeroValue4
  t5 := Tryd.underlying5
  a5 := Tryd.isAgg5
  z5 := Tryd.sizeOf5
  v5 := Tryd.zeroValue5
  t9 := Tryd.underlying9
  a9 := Tryd.isAgg9
  z9 := Tryd.sizeOf9
  v9 := Tryd.zeroValue9
  t20 := Tryd.underlying20
  a20 := Tryd.isAgg20
  z20 := Tryd.sizeOf20
  v20 := Tryd.zeroValue20
  t37 := Tryd.underlying51
  a37 := Tryd.isAgg51
  z37 := Tryd.sizeOf51
  v37 := Tryd.zeroValue51
  t46 := Tryd.underlying75
  a46 := Tryd.isAgg75
  z46 := Tryd.sizeOf75
  v46 := Tryd.zeroValue75
  t51 := Tryd.underlying89
  a51 := Tryd.isAgg89
  z51 := Tryd.sizeOf89
  v51 := Tryd.zeroValue89
  t53 := Tryd.underlying91
  a53 := Tryd.isAgg91
  z53 := Tryd.sizeOf91
  v53 := Tryd.zeroValue91
  t171 := Tryd.underlying92
  a171 := Tryd.isAgg92
  z171 := Tryd.sizeOf92
  v171 := Tryd.zeroValue92
  t173 := Tryd.underlying94
  a173 := Tryd.isAgg94
  z173 := Tryd.sizeOf94
  v173 := Tryd.zeroValue94
  t212 := Tryd.underlying103
  a212 := Tryd.isAgg103
  z212 := Tryd.sizeOf103
  v212 := Tryd.zeroValue103
  t213 := Tryd.underlying104
  a213 := Tryd.isAgg104
  z213 := Tryd.sizeOf104
  t232 := Tryd.underlying109
  a232 := Tryd.isAgg109
  z232 := Tryd.sizeOf109
  v232 := Tryd.zeroValue109
  t233 := Tryd.underlying110
  a233 := Tryd.isAgg110
  z233 := Tryd.sizeOf110
  v233 := Tryd.zeroValue110
  g17 := by kernel_rfl
  g18 := by kernel_rfl
  g19 := by kernel_rfl }
end Go.Proofs

namespace Go.Idl
open Go Go.RowKit Go.Proofs Go.Shelf

variable {P : Program} {H : IHeap}

theorem ICalls_sortStr {ρ : Go.Shelf.Ren} {f : FuncId} (Ly : Lays.n190 P ρ) (hf : ρ.f 190 = f) (hb : hasBody P f = true) {K : IEnd → IHeap → Prop} (l : List (List UInt8)) (k : Nat) (hk : H.obj k = some (.cells (l.map fun s => .v (str s)))) (hl : l.length < 4611686018427387904)
    (hK : K (.ret (.tu [])) (H.set k (.cells ((l.mergeSort fun x y => decide (x ≤ y)).map fun s => .v (str s))))) : ICalls P f [.bs k 0 l.length] H K := by
  refine ⟨hb, fun w g vs s rl => ?_⟩
  obtain ⟨hsz, hrl⟩ := rl
  have h0 : 0 < vs.size := by rw [hsz]; simp
  have hv := hrl 0 vs[0] (.bs k 0 l.length) (Array.getElem?_eq_getElem (by rw [hsz]; simp)) rfl
  obtain ⟨b, xs, el, fr, h1, h2, h3, h4⟩ := s.obj k _ hk
  have hsh : g.sh k = some .fx := by rw [s.sh, IHeap.sh, hk]; rfl
  have ⟨cap, hx⟩ : ∃ cap, vs[0] = .slice (some ⟨b, 0, none⟩) l.length cap := by
    generalize vs[0] = x at hv
    cases hv with
    | bs _ _ _ _ _ _ h =>
      obtain ⟨b', cap, q1, q2⟩ := h .fx hsh rfl
      rw [h1] at q1
      cases q1
      exact ⟨cap, q2⟩
  have hvs : vs = #[.slice (some ⟨b, 0, none⟩) l.length cap] := by
    apply Array.ext
    · simpa using hsz
    · intro i h5 h6
      have e : i = 0 := by rw [hsz] at h5; simpa using h5
      subst e
      simpa using hx
  have hcell : ∀ j (hj : j < l.length), xs[j]? = some (str l[j]) := by
    intro j hj
    obtain ⟨x, q1, _, q2⟩ := h4.2 j (.v (str l[j])) (by simp [hj])
    rw [q1, q2.v_eq]
  have hH : Go.Sort.Holds encStr w b 0 l.toArray := by
    intro j hj
    have hj' : j < l.length := by simpa using hj
    have e : l.toArray[j]! = l[j] := by simp [hj']
    refine ⟨?_, ?_⟩
    · rw [e]
      simp only [World.cell?, h2, Nat.zero_add]
      simpa [encStr] using hcell j hj'
    · simp only [World.frozen?, h2, Nat.zero_add]
      have hlt : j < xs.size := (Array.getElem?_eq_some_iff.1 (hcell j hj')).1
      have := h3 j hlt
      obtain ⟨lo, hi⟩ := fr
      simp only [Bool.and_eq_false_iff, decide_eq_false_iff_not]
      by_cases e : lo ≤ j
      · exact .inr fun e' => this ⟨e, e'⟩
      · exact .inl e
  have hc := Go.Proofs.Any.slices_Sort_string Ly b 0 cap l w hH (heap_lt h2) hl
  rw [hf, ← hvs] at hc
  refine hc.mono ?_
  rintro e w' ⟨rfl, n, os, rfl⟩
  generalize hS : (l.mergeSort fun x y => decide (x ≤ y)) = S at *
  have hSl : S.length = l.length := by rw [← hS]; simp
  have hlt := heap_lt h2
  have hheap : (Go.Sort.grow (Go.Sort.putRow encStr (Go.Sort.ahead w n) b 0 S.toArray) os).heap = w.heap.modify b (Go.Sort.onCells (Go.Sort.putCells encStr 0 S.toArray)) ++ os := rfl
  have hat : (Go.Sort.grow (Go.Sort.putRow encStr (Go.Sort.ahead w n) b 0 S.toArray) os).heap[b]? = some (.cells (Go.Sort.putCells encStr 0 S.toArray xs) el fr) := by
    rw [hheap, Array.getElem?_append_left (by simpa using hlt), Array.getElem?_modify, if_pos rfl, h2]
    rfl
  have hne : ∀ i, i < w.heap.size → i ≠ b → (Go.Sort.grow (Go.Sort.putRow encStr (Go.Sort.ahead w n) b 0 S.toArray) os).heap[i]? = w.heap[i]? := by
    intro i hi hn
    rw [hheap, Array.getElem?_append_left (by simpa using hi), Array.getElem?_modify, if_neg (Ne.symm hn)]
  have hsize : w.heap.size ≤ (Go.Sort.grow (Go.Sort.putRow encStr (Go.Sort.ahead w n) b 0 S.toArray) os).heap.size := by
    rw [hheap]; simp
  have hg : ∀ o : HO, o.sh = .fx → g.put k (g.mu k) o.sh (H.set k o).next = g := by
    intro o ho
    rw [ho]
    show g.put k (g.mu k) .fx H.next = g
    rw [← s.nx]
    exact g.put_self k _ hsh
  have hu := s.upd (H' := H.set k (.cells (S.map fun s => .v (str s)))) (w' := Go.Sort.grow (Go.Sort.putRow encStr (Go.Sort.ahead w n) b 0 S.toArray) os) k (g.mu k) (.cells (S.map fun s => .v (str s))) rfl (Nat.le_refl _) (s.lt k (by rw [hk]; rfl)) hsize rfl rfl rfl
    (fun i hi => by
      by_cases e : i = b
      · exact .inl ⟨by rw [hsh]; rfl, by rw [h1, e]; rfl⟩
      · exact .inr (hne i hi e))
    (fun i hi => by
      rw [h1] at hi
      cases hi
      exact ⟨Nat.lt_of_lt_of_le hlt hsize, .inr ⟨by rw [hsh]; rfl, by rw [h1]; rfl⟩⟩)
    (.inr (.inl ⟨hsh, rfl, rfl⟩))
    (fun g' m e => by
      have hxl : l.length ≤ xs.size := by have := h4.1; simpa using this
      refine ⟨b, _, el, fr, h1, hat, ?_, ?_, ?_⟩
      · simpa [Go.Sort.putCells] using h3
      · simp [Go.Sort.putCells]; omega
      · intro j c hj
        simp only [List.getElem?_map, Option.map_eq_some_iff] at hj
        obtain ⟨x, hx', rfl⟩ := hj
        have hjl := (List.getElem?_eq_some_iff.1 hx').1
        have hjx : j < xs.size := by omega
        refine ⟨str x, ?_, rfl, .v _⟩
        have e2 : S[j]? = some x := hx'
        simp [Go.Sort.putCells, hjx, hjl, encStr]
        exact (List.getElem?_eq_some_iff.1 e2).2)
  rw [hg _ rfl] at hu
  exact ⟨.ret (.tu []), g, _, hu.2, hu.1, .ret _ _ (.tu #[] [] rfl (by simp)), hK⟩
end Go.Idl

namespace Go.Idl
open Go Go.Proofs.Tryd

theorem collect37 {H : IHeap} {K : IEnd → IHeap → Prop} (l : List (List UInt8)) (hl : l.length ≤ 1000000) (gf : FuncId) (cap : List IV) (C : List (Nat × HO)) (hit : Iter prog gf cap (l.map fun s => [.v (str s)]) C) (hC : ∀ p, p ∈ C → H.obj p.1 = some p.2)
    (hK : ∀ r J, Ext H J → Own J H.next r l → K (.ret r) J) : ICalls prog 37 [.fn (.func gf) [] cap] H K := by
  refine ICalls_vc (N := 5) func37 (by kernel_rfl) rfl (by kernel_rfl) (by kernel_rfl) fun hw hbd hnb => ?_
  simp (maxSteps := 1000000) (disch := omega) [go_sem]
  refine appendSeq46 l hl gf cap C hit hC fun r J he ho => ?_
  simp (maxSteps := 1000000) (disch := omega) [go_sem]
  exact retG_all (hK r J he ho)

set_option maxRecDepth 4000 in
theorem len62 {H : IHeap} {K : IEnd → IHeap → Prop} (hK : K (.ret (.v (.int .i64 0))) H) : ICalls prog 62 [.v (.int .u64 0)] H K := by
  refine ICalls_vc (N := 25) func62 (by kernel_rfl) rfl (by kernel_rfl) (by kernel_rfl) fun hw hbd hnb => ?_
  simp (maxSteps := 1000000) (disch := omega) [go_sem]
  have e1 : (bytes Lib.len8tab).length = 256 := by kernel_rfl
  have e2 : (bytes Lib.len8tab)[0]? = some 0 := by kernel_rfl
  rw [e1, e2]
  exact ⟨by simp [Side], retG_pure (.refl hw) (.v _) hK⟩

set_option maxRecDepth 4000 in
theorem len48 {H : IHeap} {K : IEnd → IHeap → Prop} (hK : K (.ret (.v (.int .i64 0))) H) : ICalls prog 48 [.v (.int .u64 0)] H K := by
  refine ICalls_vc (N := 8) func48 (by kernel_rfl) rfl (by kernel_rfl) (by kernel_rfl) fun hw hbd hnb => ?_
  simp (maxSteps := 1000000) (disch := omega) [go_sem]
  refine len62 ?_
  simp (maxSteps := 1000000) (disch := omega) [go_sem]
  exact retG_pure (.refl hw) (.v _) hK

set_option maxRecDepth 4000 in
theorem ins52 {H : IHeap} {K : IEnd → IHeap → Prop} (hK : K (.ret (.tu [])) H) : ICalls prog 52 [.v (.slice none 0 0), .v (.int .i64 0), .v (.int .i64 0)] H K := by
  refine ICalls_vc (N := 49) func52 (by kernel_rfl) rfl (by kernel_rfl) (by kernel_rfl) fun hw hbd hnb => ?_
  simp (maxSteps := 1000000) (disch := omega) [go_sem]
  refine vcLoop_mk (fun tm' H' => H' = H ∧ tm' 6 = .v (.int .i64 1) ∧ tm' 2 = .v (.int .i64 0)) (fun _ _ => 0) (.same ?_) ?_
  · simp [go_sem]
  · rintro I' μ' hI hμ tm' H' ⟨rfl, h6, h2⟩
    refine vc_sound _ (by kernel_rfl) _ _ _ ?_
    simp (maxSteps := 1000000) (disch := omega) [go_sem, h6, h2]
    exact retG_pure (.refl hw) (by simp [NB_tu]) hK

set_option maxRecDepth 4000 in
theorem pdq47 {H : IHeap} {K : IEnd → IHeap → Prop} (hK : K (.ret (.tu [])) H) : ICalls prog 47 [.v (.slice none 0 0), .v (.int .i64 0), .v (.int .i64 0), .v (.int .i64 0)] H K := by
  refine ICalls_vc (N := 134) func47 (by kernel_rfl) rfl (by kernel_rfl) (by kernel_rfl) fun hw hbd hnb => ?_
  simp (maxSteps := 1000000) (disch := omega) [go_sem]
  refine vcLoop_mk (fun tm' H' => H' = H ∧ tm' 0 = .v (.slice none 0 0) ∧ tm' 1 = .v (.int .i64 0) ∧ tm' 2 = .v (.int .i64 0)) (fun _ _ => 0) (.same ?_) ?_
  · simp [go_sem]
  · rintro I' μ' hI hμ tm' H' ⟨rfl, h0, h1, h2⟩
    refine vc_sound _ (by kernel_rfl) _ _ _ ?_
    simp (maxSteps := 1000000) (disch := omega) [go_sem, h0, h1, h2]
    refine ins52 ?_
    simp (maxSteps := 1000000) (disch := omega) [go_sem]
    exact retG_pure (.refl hw) (by simp [NB_tu]) hK

theorem sort38 {H : IHeap} {K : IEnd → IHeap → Prop} (hK : K (.ret (.tu [])) H) : ICalls prog 38 [.v (.slice none 0 0)] H K := by
  refine ICalls_vc (N := 11) func38 (by kernel_rfl) rfl (by kernel_rfl) (by kernel_rfl) fun hw hbd hnb => ?_
  simp (maxSteps := 1000000) (disch := omega) [go_sem]
  refine len48 ?_
  simp (maxSteps := 1000000) (disch := omega) [go_sem]
  refine pdq47 ?_
  simp (maxSteps := 1000000) (disch := omega) [go_sem]
  exact retG_pure (.refl hw) (by simp [NB_tu]) hK

/-- Texts, in order. -/
def sortS (l : List (List UInt8)) : List (List UInt8) := l.mergeSort fun x y => decide (x ≤ y)
theorem sortS_length (l : List (List UInt8)) : (sortS l).length = l.length := by simp [sortS]

theorem sorted22 {H : IHeap} {K : IEnd → IHeap → Prop} (l : List (List UInt8)) (hl : l.length ≤ 1000000) (gf : FuncId) (cap : List IV) (C : List (Nat × HO)) (hit : Iter prog gf cap (l.map fun s => [.v (str s)]) C) (hC : ∀ p, p ∈ C → H.obj p.1 = some p.2)
    (hK : ∀ r J, Ext H J → Own J H.next r (sortS l) → K (.ret r) J) : ICalls prog 22 [.fn (.func gf) [] cap] H K := by
  refine ICalls_vc (N := 9) func22 (by kernel_rfl) rfl (by kernel_rfl) (by kernel_rfl) fun hw hbd hnb => ?_
  simp (maxSteps := 1000000) (disch := omega) [go_sem]
  refine collect37 l hl gf cap C hit hC fun r J he ho => ?_
  simp (maxSteps := 1000000) (disch := omega) [go_sem]
  rcases ho with ⟨rfl, rfl⟩ | ⟨hne, k, hk, rfl, ho⟩
  · refine sort38 ?_
    simp (maxSteps := 1000000) (disch := omega) [go_sem]
    exact retG_all (hK _ J he (.inl ⟨by simp [sortS], rfl⟩))
  · refine ICalls_sortStr Go.Proofs.Tryd.lays190 rfl (by kernel_rfl) l k ho (by omega) ?_
    simp (maxSteps := 1000000) (disch := omega) [go_sem]
    refine retG_all (hK _ _ (he.set hk _) (.inr ⟨?_, k, hk, by rw [sortS_length], by simp [go_sem, sortS]⟩))
    intro e
    have := sortS_length l
    rw [e] at this
    exact hne (List.eq_nil_of_length_eq_zero this.symm)
end Go.Idl

namespace Go.Idl
open Go Go.RowKit

variable {P : Program} {N : Nat} {tm : Tm} {H : IHeap}

theorem IOper_clear {o : Oper} {K : IV → IHeap → Prop} {Qp : List PanicEntry → IHeap → Prop} {t e : TypeId} {x : Operand} {k off n : Nat} {z z0 : Value} {cs : List IV} (ho : o.op = .call { callee := .builtin .clear, args := #[x], argTypes := #[t] }) (hok : okO N o = true)
    (hu : P.underlying t = some (.slice e)) (hz : zeroOf P e = some z) (hz0 : z.cells = #[z0]) (hone : z0.oneCell' = true) (hx : ev tm x = .bs k off n) (hk : H.obj k = some (.cells cs)) (hn : 0 < n) (hl : off + n ≤ cs.length)
    (hK : K (.tu []) (H.set k (.cells (putL cs (List.replicate n (.v z0)) off)))) : IOper P N o tm H K Qp := by
  obtain ⟨dst, op, type, pos, after, guard⟩ := o
  simp only at ho
  subst ho
  refine IOper_of (by simp) fun w g a s r hN => ?_
  subst hN
  have rx := r.ev (x := x) (by simp [okO, Op.operands, Call.operands] at hok; exact hok.1)
  rw [hx] at rx
  obtain ⟨b, xs, el, f, hmu, hb, hf, hc⟩ := s.obj k _ hk
  have hsh : g.sh k = some .fx := by rw [s.sh, IHeap.sh, hk]; rfl
  have ⟨cap, hxe⟩ : ∃ cap, a.eval x = .slice (some ⟨b, off, none⟩) n cap := by
    generalize a.eval x = y at rx
    cases rx with
    | bs _ _ _ _ _ _ h =>
      obtain ⟨b', cap, q1, q2⟩ := h .fx hsh rfl
      rw [hmu] at q1
      cases q1
      exact ⟨cap, q2⟩
  have hlt := heap_lt hb
  have hzc : (Builtin.zeroCells z.cells n).toList = List.replicate n z0 := by
    unfold Builtin.zeroCells
    rw [hz0]
    apply List.ext_getElem
    · simp
    · intro i h1 h2
      simp [Nat.mod_one]
  have hcl := hc.1
  have hrun := run_storeCells_free (P := P) (b := b) (off := off) (el := el) (f := f) (List.replicate n z0) 0 xs w hb hf (by simp; omega) (fun v hv => by rw [List.eq_of_mem_replicate hv]; exact hone)
  have hp := s.put (w' := w.putObj b (.cells (putA xs (List.replicate n z0) off) el f)) k b (.cells cs) (.cells (putL cs (List.replicate n (.v z0)) off)) hk rfl (by rw [hmu]; rfl) (by simp) rfl rfl rfl
    (fun i hi => World.putObj_heap_other hi)
    (fun m => ⟨b, _, el, f, hmu, by rw [putObj_get _ _ _ hlt, if_pos rfl], by rw [putA_size]; exact hf, hc.put m (by simpa using hl) (by simp) (fun v hv => by rw [List.eq_of_mem_replicate hv]; exact hone) (fun j y c q1 q2 => by
      have e1 := List.eq_of_mem_replicate (List.mem_of_getElem? q1)
      have e2 := List.eq_of_mem_replicate (List.mem_of_getElem? q2)
      subst e1
      subst e2
      exact .v _)⟩)
  refine ⟨.tuple #[], _, g, _, .tu [], .inl ?_, hp.2, hp.1, .tu #[] [] rfl (by simp), hK⟩
  have hn' : n ≠ 0 := by omega
  obtain ⟨n, rfl⟩ : ∃ m, n = m + 1 := ⟨n - 1, by omega⟩
  rw [Nat.add_zero] at hrun
  have hcr : (Builtin.clear_ #[t] type #[.slice (some ⟨b, off, none⟩) (n + 1) cap]).run P w = .ok (.tuple #[]) (w.putObj b (.cells (putA xs (List.replicate (n + 1) z0) off) el f)) := by
    simp [Builtin.clear_, run_underlying hu, run_zeroValue hz, hzc, hrun]
  simp [execOp, resolve, invoke, builtin, hxe, hcr]
@[go_sem] theorem vcOp_clear {d : Option Tmp} {t : TypeId} {p : String} {af : Array Edge} {gd : Option (Nat × Bool)} {K : IV → IHeap → Prop} {Qp : List PanicEntry → IHeap → Prop} {x : Operand} {a : TypeId} :
    vcOp P N ⟨d, .call ⟨.builtin .clear, #[x], #[a]⟩, t, p, af, gd⟩ tm H K Qp = IOper P N ⟨d, .call ⟨.builtin .clear, #[x], #[a]⟩, t, p, af, gd⟩ tm H K Qp := rfl
end Go.Idl

namespace Go.Idl
open Go Go.Proofs.Tryd

/-- Each run of equal texts once. -/
def compT (p : List UInt8) : List (List UInt8) → List (List UInt8)
  | [] => []
  | x :: t => if x = p then compT x t else x :: compT x t
def compactS : List (List UInt8) → List (List UInt8)
  | [] => []
  | x :: t => x :: compT x t

theorem compT_snoc (x : List UInt8) : ∀ (t : List (List UInt8)) (p : List UInt8), compT p (t ++ [x]) = compT p t ++ (if x = (p :: t).getLast (by simp) then [] else [x])
  | [], p => by
    simp only [List.nil_append, compT, List.getLast_singleton]
    first | rfl | (split <;> rfl)
  | y :: t, p => by
    simp only [List.cons_append, compT]
    rw [compT_snoc x t y]
    have e : (p :: y :: t).getLast (by simp) = (y :: t).getLast (by simp) := by simp
    rw [e]
    split <;> simp

theorem compact_take (l : List (List UInt8)) (i : Nat) (h1 : 1 ≤ i) (h : i < l.length) : compactS (l.take (i + 1)) = compactS (l.take i) ++ (if l[i] = l[i - 1] then [] else [l[i]]) := by
  rw [List.take_succ_eq_append_getElem h]
  cases l with
  | nil => simp at h
  | cons x t =>
    obtain ⟨j, rfl⟩ : ∃ j, i = j + 1 := ⟨i - 1, by omega⟩
    simp only [List.take_succ_cons, List.cons_append, compactS, List.getElem_cons_succ]
    rw [compT_snoc]
    have hj : j < t.length := by simpa using h
    have e : (x :: t.take j).getLast (by simp) = (x :: t)[j + 1 - 1] := by
      rw [List.getLast_eq_getElem]
      simp only [List.length_cons, List.length_take]
      have : min j t.length = j := by omega
      simp only [this, Nat.add_sub_cancel]
      cases j with
      | zero => rfl
      | succ j => simp
    rw [e]

theorem chunks_take : ∀ (m : Nat) (l : List IV), m ≤ l.length → chunks 1 m l = (l.take m).map fun x => [x]
  | 0, l, _ => by simp [chunks]
  | m + 1, [], h => by simp at h
  | m + 1, x :: l, h => by
    simp [chunks, chunks_take m l (by simpa using h)]

theorem fz_bs {H J : IHeap} {k m : Nat} {cs : List (List UInt8)} {r : List (List UInt8)} (hk : J.obj k = none) (ho : H.obj k = some (.cells (cs.map fun s => .v (str s)))) (hr : cs.take m = r) (hm : m ≤ cs.length) (hl : cs.length ≤ 1000000) : Fz H J (.bs k 0 m) (sS r) := by
  have := Fz.bs (J := J) k 0 m 1 _ _ hk ho rfl (by simp; omega) (by simp only [maxN]; omega) (fzs (by simp [NB_v]))
  rw [List.drop_zero, chunks_take _ _ (by simpa using hm), ← List.map_take, hr] at this
  rw [List.map_map] at this
  exact this

theorem fz_bs' {H J : IHeap} {k m : Nat} {A : List IV} {r : List (List UInt8)} (hk : J.obj k = none) (ho : H.obj k = some (.cells A)) (hr : A.take m = r.map fun s => .v (str s)) (hm : m ≤ A.length) (hl : m ≤ 1000000) (hnb : ∀ c, c ∈ A → NB J.next c) : Fz H J (.bs k 0 m) (sS r) := by
  have := Fz.bs (J := J) k 0 m 1 _ _ hk ho rfl (by omega) (by simp only [maxN]; omega) (fzs hnb)
  rw [List.drop_zero, chunks_take _ _ hm, hr, List.map_map] at this
  exact this

theorem set_self {H : IHeap} {k : Nat} {o : HO} (h : H.obj k = some o) : H = H.set k o := by
  unfold IHeap.set
  have e : (fun i => if i = k then some o else H.obj i) = H.obj := by
    funext i
    by_cases e : i = k
    · rw [if_pos e, e, h]
    · rw [if_neg e]
  rw [e]

@[go_sem] theorem set_set {H : IHeap} {k : Nat} {a b : HO} : (H.set k a).set k b = H.set k b := by
  unfold IHeap.set
  simp only
  congr 1
  funext i
  split <;> rfl

theorem put_form {f : List UInt8 → IV} (cs : List (List UInt8)) (i : Nat) (x : List UInt8) (h : i < cs.length) : List.take i (cs.map f) ++ f x :: List.drop (i + 1) (cs.map f) = (cs.set i x).map f := by
  rw [List.set_eq_take_append_cons_drop, if_pos h]
  simp

set_option pp.deepTerms false in
set_option maxRecDepth 4000 in
theorem compact21 {H0 H : IHeap} {K : IEnd → IHeap → Prop} (l : List (List UInt8)) (hl : l.length ≤ 1000000) (r : IV) (h0 : Ext H0 H) (hr : Own H H0.next r l) (hK : ∀ J, Ext H0 J → K (.ret (sS (compactS l))) J) : ICalls prog 21 [r] H K := by
  refine ICalls_vc (N := 61) func21 (by kernel_rfl) rfl (by kernel_rfl) (by kernel_rfl) fun hw hbd hnb => ?_
  rcases hr with ⟨rfl, rfl⟩ | ⟨hne, kk, hkk, rfl, hob⟩
  · simp (maxSteps := 1000000) (disch := omega) [go_sem]
    exact retG_gh (GhR.wk (.nil 1)) (hK H h0)
  have hdel : Ext H0 (H.del kk) := h0.del hkk
  simp (maxSteps := 1000000) (disch := omega) [go_sem]
  refine condB ?_ ?_ <;> intro hc <;> (try simp at hc)
  · simp (maxSteps := 1000000) (disch := omega) [go_sem]
    refine retG_gh (GhR.drop (J := H.del kk) (fun i o h => ?_) rfl rfl (fz_bs (r := compactS l) (by simp [go_sem]) hob ?_ (Nat.le_refl _) hl)) (hK _ hdel)
    · simp only [IHeap.del] at h; split at h <;> simp_all
    · match l, hne, hc with
      | [x], _, _ => rfl
      | x :: y :: t, _, hc => simp at hc; omega
  · simp (maxSteps := 1000000) (disch := omega) [go_sem]
    refine vcLoop_mk (fun tm' H' => H' = H ∧ ∃ k : Nat, tm' 0 = .bs kk 0 l.length ∧ tm' 3 = .v (.int .i64 k) ∧ 1 ≤ k ∧ k ≤ l.length ∧ compactS (l.take k) = l.take k) (fun tm' _ => l.length - (intOf (tm' 3)).toNat) (.same ?_) ?_
    · refine ⟨rfl, 1, by simp [go_sem], by simp [go_sem], by omega, by omega, ?_⟩
      cases l with
      | nil => rfl
      | cons x t => simp [compactS, compT]
    rintro I' μ' hI hμ tm' H' ⟨rfl, k, h0', h3, hk1, hk2, hcomp⟩
    refine vc_sound _ (by kernel_rfl) _ _ _ ?_
    simp (maxSteps := 1000000) (disch := omega) [go_sem, h0', h3]
    refine condB ?_ ?_ <;> intro hc1 <;> (try simp at hc1)
    · simp (maxSteps := 1000000) (disch := omega) [go_sem, h0', h3]
      refine IWp_draw [0, 1, 2, 3, 4, 5, 6, 7, 8, 9] (by kernel_rfl) (by kernel_rfl) (fun _ _ _ _ h => h) ?_
      simp (maxSteps := 1000000) (disch := omega) [go_sem, h0', h3, hob]
      refine condB ?_ ?_ <;> intro he <;> (try simp at he)
      · simp (maxSteps := 1000000) (disch := omega) [go_sem, h0', h3]
        refine vcLoop_mk (fun tm' H2 => ∃ (cs : List (List UInt8)) (k2 kc : Nat), H2 = H'.set kk (.cells (cs.map fun s => .v (str s))) ∧ tm' 0 = .bs kk 0 l.length ∧ tm' 3 = .v (.int .i64 kc) ∧ tm' 4 = .bs kk k (l.length - k) ∧ tm' 5 = .v (.int .i64 k2) ∧
          1 ≤ k2 ∧ k + k2 ≤ l.length ∧ cs.length = l.length ∧ 1 ≤ kc ∧ kc + 1 ≤ k + k2 ∧ cs.take kc = compactS (l.take (k + k2)) ∧ cs.drop (k + k2 - 1) = l.drop (k + k2 - 1)) (fun tm' _ => l.length - (intOf (tm' 5)).toNat) (.same ?_) ?_
        · refine ⟨l, 1, k, set_self hob, by simp [go_sem, h0'], by simp [go_sem, h3], by simp [go_sem], by simp [go_sem], by omega, by omega, rfl, hk1, by omega, ?_, rfl⟩
          rw [compact_take l k hk1 hc1, if_pos he, List.append_nil, hcomp]
        rintro I2 μ2 hI2 hμ2 tm2 H2 ⟨cs, k2, kc, rfl, g0, g3, g4, g5, q1, q2, q3, q4, q5, q6, q7⟩
        refine vc_sound _ (by kernel_rfl) _ _ _ ?_
        simp (maxSteps := 1000000) (disch := omega) [go_sem, g0, g3, g4, g5]
        refine condB ?_ ?_ <;> intro hc2 <;> (try simp at hc2)
        · have hlt : k + k2 < cs.length := by omega
          simp (maxSteps := 1000000) (disch := omega) [go_sem, g0, g3, g4, g5]
          refine IWp_draw [0, 1, 2, 3, 4, 5, 6, 7, 8, 9] (by kernel_rfl) (by kernel_rfl) (fun _ _ _ _ h => h) ?_
          simp (maxSteps := 1000000) (disch := omega) [go_sem, g0, g3, g4, g5]
          have hge : ∀ j (h : j < cs.length) (h' : j < l.length), k + k2 - 1 ≤ j → cs[j] = l[j] := by
            intro j h h' hj
            have e := congrArg (fun x => x[j - (k + k2 - 1)]?) q7
            simp only [List.getElem?_drop] at e
            rw [show k + k2 - 1 + (j - (k + k2 - 1)) = j by omega, List.getElem?_eq_getElem h, List.getElem?_eq_getElem h'] at e
            exact Option.some.inj e
          have e1 := hge (k + k2) hlt (by omega) (by omega)
          have e2 : cs[k + (k2 - 1)] = l[k + k2 - 1] := by
            rw [hge _ _ (by omega) (by omega)]
            congr 1
            omega
          have hdrop : List.drop (k + (k2 + 1) - 1) cs = List.drop (k + (k2 + 1) - 1) l := by
            have e := congrArg (List.drop 1) q7
            simp only [List.drop_drop] at e
            rw [show k + (k2 + 1) - 1 = k + k2 - 1 + 1 by omega]
            exact e
          have hct := compact_take l (k + k2) (by omega) (by omega)
          refine condB ?_ ?_ <;> intro hd <;> (try simp at hd)
          · simp (maxSteps := 1000000) (disch := omega) [go_sem, g0, g3, g4, g5]
            refine .of hI2 hμ2 ⟨cs.set kc cs[k + k2], k2 + 1, kc + 1, ?_, by simp [go_sem, g0], by simp [go_sem], by simp [go_sem, g4], by simp [go_sem], by omega, by omega, by simpa using q3, by omega, by omega, ?_, ?_⟩ (by simp [go_sem, g5]; omega)
            · rw [← put_form cs kc _ (by omega)]
            · rw [show k + (k2 + 1) = k + k2 + 1 by omega, hct, if_neg (by rw [← e1, ← e2]; exact hd), ← q6, List.take_succ_eq_append_getElem (by simpa using (by omega : kc < cs.length)), List.take_set_of_le (Nat.le_refl _)]
              simp [e1]
            · rw [List.drop_set_of_lt (by omega)]
              exact hdrop
          · simp (maxSteps := 1000000) (disch := omega) [go_sem, g0, g3, g4, g5]
            refine .of hI2 hμ2 ⟨cs, k2 + 1, kc, rfl, by simp [go_sem, g0], by simp [go_sem, g3], by simp [go_sem, g4], by simp [go_sem], by omega, by omega, q3, q4, by omega, ?_, hdrop⟩ (by simp [go_sem, g5]; omega)
            rw [show k + (k2 + 1) = k + k2 + 1 by omega, hct, if_pos (by rw [← e1, ← e2]; exact hd), List.append_nil, q6]
        · simp (maxSteps := 1000000) (disch := omega) [go_sem, g0, g3, g4, g5]
          have e : k + k2 = l.length := by omega
          have hkc : kc < l.length := by omega
          refine IOper_clear (k := kk) (off := kc) (n := l.length - kc) rfl (by kernel_rfl) underlying22 zero9 rfl rfl (by simp [go_sem]) (by simp [go_sem]; rfl) (by omega) (by simp; omega) ?_
          simp (maxSteps := 1000000) (disch := omega) [go_sem, g0, g3, g4, g5]
          refine retG_gh (GhR.drop (J := H'.del kk) (fun i o h => ?_) rfl rfl (fz_bs' (r := compactS l) (by simp [go_sem]) (by simp [go_sem]; rfl) ?_ ?_ (by omega) ?_)) (hK _ hdel)
          · simp only [IHeap.del] at h
            split at h
            · cases h
            · rename_i hi
              simp [go_sem, hi]
              exact h
          · rw [List.take_append_of_le_length (by simp; omega), List.take_take, Nat.min_self, ← List.map_take, q6, e, List.take_length]
          · simp; omega
          · intro c hc
            simp only [List.mem_append] at hc
            rcases hc with hc | hc | hc
            · obtain ⟨s, _, rfl⟩ := List.mem_map.1 (List.mem_of_mem_take hc)
              exact .v _
            · rw [List.eq_of_mem_replicate hc]
              exact .v _
            · obtain ⟨s, _, rfl⟩ := List.mem_map.1 (List.mem_of_mem_drop hc)
              exact .v _
      · simp (maxSteps := 1000000) (disch := omega) [go_sem, h0', h3]
        refine .of hI hμ ⟨rfl, k + 1, by simp [go_sem, h0'], by simp [go_sem], by omega, by omega, ?_⟩ (by simp [go_sem, h3]; omega)
        rw [compact_take l k hk1 hc1, if_neg he, hcomp, List.take_succ_eq_append_getElem hc1]
    · simp (maxSteps := 1000000) (disch := omega) [go_sem, h0', h3]
      refine retG_gh (GhR.drop (J := H'.del kk) (fun i o h => ?_) rfl rfl (fz_bs (r := compactS l) (by simp [go_sem]) hob ?_ (Nat.le_refl _) hl)) (hK _ hdel)
      · simp only [IHeap.del] at h; split at h <;> simp_all
      · have e : k = l.length := by omega
        subst e
        simpa using hcomp.symm
end Go.Idl

namespace Go.Idl
open Go Go.Proofs.Tryd

theorem most33 {H : IHeap} {K : IEnd → IHeap → Prop} (f : Int) (hK : K (.ret (.v (.int .i64 (if 6 ≤ f then 8 else 1)))) H) : ICalls prog 33 [.v (.int .i64 f)] H K := by
  refine ICalls_vc (N := 5) func33 (by kernel_rfl) rfl (by kernel_rfl) (by kernel_rfl) fun hw hbd hnb => ?_
  simp (maxSteps := 1000000) (disch := omega) [go_sem]
  refine condB ?_ ?_ <;> intro hc <;> (try simp at hc)
  · simp (maxSteps := 1000000) (disch := omega) [go_sem]
    rw [if_pos hc] at hK
    exact retG_pure (.refl hw) (.v _) hK
  · simp (maxSteps := 1000000) (disch := omega) [go_sem]
    rw [if_neg (by omega)] at hK
    exact retG_pure (.refl hw) (.v _) hK

theorem most40 {H : IHeap} {K : IEnd → IHeap → Prop} (f : Int) (hK : K (.ret (.v (.int .i64 (if 6 ≤ f then 8 else 1)))) H) : ICalls prog 40 [.v (.int .i64 f)] H K := by
  refine ICalls_vc (N := 5) func40 (by kernel_rfl) rfl (by kernel_rfl) (by kernel_rfl) fun hw hbd hnb => ?_
  simp (maxSteps := 1000000) (disch := omega) [go_sem]
  refine condB ?_ ?_ <;> intro hc <;> (try simp at hc)
  · simp (maxSteps := 1000000) (disch := omega) [go_sem]
    rw [if_pos hc] at hK
    exact retG_pure (.refl hw) (.v _) hK
  · simp (maxSteps := 1000000) (disch := omega) [go_sem]
    rw [if_neg (by omega)] at hK
    exact retG_pure (.refl hw) (.v _) hK

theorem value32 {H : IHeap} {K : IEnd → IHeap → Prop} (f : Int) (hK : K (.ret (.fn (.func 44) [] [.cp [.v (.int .i64 f)]])) H) : ICalls prog 32 [.v (.int .i64 f)] H K := by
  refine ICalls_vc (N := 4) func32 (by kernel_rfl) rfl (by kernel_rfl) (by kernel_rfl) fun hw hbd hnb => ?_
  simp (maxSteps := 1000000) (disch := omega) [go_sem]
  exact retG_fz (J := H) (Ext.refl hw |>.new _).endH (.clos1 (.ptr (cs := [.v (.int .i64 f)]) (hw _ (Nat.le_refl _)) (by simp [go_sem]) (by simp [NB_v]))) hK

/-- Each text is less than the next. -/
def risesS : List (List UInt8) → Bool
  | x :: y :: t => Op.bytesLess x y && risesS (y :: t)
  | _ => true

theorem rises_take (l : List (List UInt8)) (i : Nat) (h1 : 1 ≤ i) (h : i < l.length) : risesS (l.take (i + 1)) = (risesS (l.take i) && Op.bytesLess l[i - 1] l[i]) := by
  induction l generalizing i with
  | nil => simp at h
  | cons x t ih =>
    obtain ⟨j, rfl⟩ : ∃ j, i = j + 1 := ⟨i - 1, by omega⟩
    cases t with
    | nil => simp at h
    | cons y t =>
      cases j with
      | zero => simp [risesS]
      | succ j =>
        have := ih (j + 1) (by omega) (by simpa using h)
        simp only [List.take_succ_cons, risesS, List.getElem_cons_succ] at this ⊢
        rw [this, Bool.and_assoc]
        rfl

theorem rises_pref : ∀ (l : List (List UInt8)) (n : Nat), risesS l = true → risesS (l.take n) = true
  | [], n, _ => by simp [risesS]
  | [x], n, _ => by cases n <;> simp [risesS]
  | x :: y :: t, n, h => by
    simp only [risesS, Bool.and_eq_true] at h
    match n with
    | 0 => simp [risesS]
    | 1 => simp [risesS]
    | n + 2 =>
      have := rises_pref (y :: t) (n + 1) h.2
      simp only [List.take_succ_cons] at this ⊢
      simp only [risesS, h.1, this, Bool.and_self]

set_option pp.deepTerms false in
set_option maxRecDepth 4000 in
theorem rises36 {H : IHeap} {K : IEnd → IHeap → Prop} (l : List (List UInt8)) (hl : l.length ≤ 1000000) (hK : K (.ret (.v (.bool (risesS l)))) H) : ICalls prog 36 [sS l] H K := by
  refine ICalls_vc (N := 20) func36 (by kernel_rfl) rfl (by kernel_rfl) (by kernel_rfl) fun hw hbd hnb => ?_
  simp (maxSteps := 1000000) (disch := omega) [go_sem]
  refine vcLoop_mk (fun tm' H' => H' = H ∧ ∃ i : Nat, tm' 0 = sS l ∧ tm' 3 = .v (.int .i64 i) ∧ 1 ≤ i ∧ (i ≤ l.length ∨ l = []) ∧ risesS (l.take i) = true) (fun tm' _ => l.length - (intOf (tm' 3)).toNat) (.same ?_) ?_
  · refine ⟨rfl, 1, by simp [go_sem], by simp [go_sem], by omega, ?_, ?_⟩
    · cases l with
      | nil => exact .inr rfl
      | cons x t => exact .inl (by simp)
    · cases l with
      | nil => rfl
      | cons x t => simp [risesS]
  rintro I' μ' hI hμ tm' H' ⟨rfl, i, h0, h3, hi, hi2, hr⟩
  refine vc_sound _ (by kernel_rfl) _ _ _ ?_
  have hix : (i : Int) ≤ 1000001 ∨ (l.length : Int) < i := by omega
  simp (maxSteps := 1000000) (disch := omega) [go_sem, h0, h3]
  refine condB ?_ ?_ <;> intro hc <;> (try simp at hc)
  · simp (maxSteps := 1000000) (disch := omega) [go_sem, h0, h3]
    refine IWp_draw [0, 1, 2, 3, 4, 5, 6, 7, 8, 9] (by kernel_rfl) (by kernel_rfl) (fun _ _ _ _ h => h) ?_
    simp (maxSteps := 1000000) (disch := omega) [go_sem, h0, h3]
    have hrt := rises_take l i hi hc
    refine condB ?_ ?_ <;> intro he <;> (try simp at he)
    · simp (maxSteps := 1000000) (disch := omega) [go_sem, h0, h3]
      have e : risesS l = false := by
        cases hh : risesS l with
        | false => rfl
        | true =>
          have := rises_pref l (i + 1) hh
          rw [hrt, he, Bool.and_false] at this
          cases this
      rw [e] at hK
      exact retG_pure (.refl hw) (.v _) hK
    · simp (maxSteps := 1000000) (disch := omega) [go_sem, h0, h3]
      refine .of hI hμ ⟨rfl, i + 1, by simp [go_sem, h0], by simp [go_sem], by omega, .inl (by omega), ?_⟩ (by simp [go_sem, h3]; omega)
      rw [hrt, hr, he]; rfl
  · simp (maxSteps := 1000000) (disch := omega) [go_sem, h0, h3]
    have e : l.take i = l := by rw [List.take_of_length_le (by omega)]
    rw [e] at hr
    rw [hr] at hK
    exact retG_pure (.refl hw) (.v _) hK

/-- The place of the first text that p takes. -/
def indexS (p : List UInt8 → Bool) (l : List (List UInt8)) : Int := match l.findIdx? p with | some i => i | none => -1

set_option pp.deepTerms false in
set_option maxRecDepth 4000 in
theorem index45 {H : IHeap} {K : IEnd → IHeap → Prop} (l : List (List UInt8)) (hl : l.length ≤ 1000000) (ff : FuncId) (cap : List IV) (p : List UInt8 → Bool)
    (hp : ∀ s, s ∈ l → ∀ K' : IEnd → IHeap → Prop, K' (.ret (.v (.bool (p s)))) H → ICalls prog ff (.v (str s) :: cap) H K')
    (hK : ∀ n : Int, (0 ≤ n ↔ l.any p = true) → K (.ret (.v (.int .i64 n))) H) : ICalls prog 45 [sS l, .fn (.func ff) [] cap] H K := by
  refine ICalls_vc (N := 19) func45 (by kernel_rfl) rfl (by kernel_rfl) (by kernel_rfl) fun hw hbd hnb => ?_
  simp (maxSteps := 1000000) (disch := omega) [go_sem]
  refine vcLoop_mk (fun tm' H' => H' = H ∧ ∃ i : Nat, tm' 0 = sS l ∧ tm' 1 = .fn (.func ff) [] cap ∧ tm' 7 = .v (.int .i64 l.length) ∧ tm' 8 = .v (.int .i64 i) ∧ i ≤ l.length ∧ ∀ s ∈ l.take i, p s = false) (fun tm' _ => l.length - (intOf (tm' 8)).toNat) (.same ?_) ?_
  · exact ⟨rfl, 0, by simp [go_sem], by simp [go_sem], by simp [go_sem], by simp [go_sem], by omega, by simp⟩
  rintro I' μ' hI hμ tm' H' ⟨rfl, i, h0, h1, h7, h8, hi, hr⟩
  refine vc_sound _ (by kernel_rfl) _ _ _ ?_
  simp (maxSteps := 1000000) (disch := omega) [go_sem, h0, h1, h7, h8]
  refine condB ?_ ?_ <;> intro hc <;> (try simp at hc)
  · simp (maxSteps := 1000000) (disch := omega) [go_sem, h0, h1, h7, h8]
    refine hp l[i] (List.getElem_mem _) _ ?_
    simp (maxSteps := 1000000) (disch := omega) [go_sem, h0, h1, h7, h8]
    refine condB ?_ ?_ <;> intro he <;> (try simp at he)
    · simp (maxSteps := 1000000) (disch := omega) [go_sem, h0, h1, h7, h8]
      refine retG_pure (.refl hw) (.v _) (hK _ ⟨fun _ => ?_, fun _ => by omega⟩)
      exact List.any_eq_true.2 ⟨l[i], List.getElem_mem _, he⟩
    · simp (maxSteps := 1000000) (disch := omega) [go_sem, h0, h1, h7, h8]
      refine .of hI hμ ⟨rfl, i + 1, by simp [go_sem, h0], by simp [go_sem, h1], by simp [go_sem, h7], by simp [go_sem], by omega, fun s hs => ?_⟩ (by simp [go_sem, h8]; omega)
      rw [List.take_succ_eq_append_getElem hc, List.mem_append] at hs
      rcases hs with hs | hs
      · exact hr s hs
      · simp at hs; subst hs; exact he
  · simp (maxSteps := 1000000) (disch := omega) [go_sem, h0, h1, h7, h8]
    refine retG_pure (.refl hw) (.v _) (hK _ ⟨fun h => by omega, fun h => ?_⟩)
    have e : i = l.length := by omega
    subst e
    obtain ⟨s, hs, hps⟩ := List.any_eq_true.1 h
    rw [hr s (by simpa using hs)] at hps
    cases hps

theorem contains34 {H : IHeap} {K : IEnd → IHeap → Prop} (l : List (List UInt8)) (hl : l.length ≤ 1000000) (ff : FuncId) (cap : List IV) (p : List UInt8 → Bool)
    (hp : ∀ s, s ∈ l → ∀ K' : IEnd → IHeap → Prop, K' (.ret (.v (.bool (p s)))) H → ICalls prog ff (.v (str s) :: cap) H K')
    (hK : K (.ret (.v (.bool (l.any p)))) H) : ICalls prog 34 [sS l, .fn (.func ff) [] cap] H K := by
  refine ICalls_vc (N := 9) func34 (by kernel_rfl) rfl (by kernel_rfl) (by kernel_rfl) fun hw hbd hnb => ?_
  simp (maxSteps := 1000000) (disch := omega) [go_sem]
  refine index45 l hl ff cap p hp fun n hn => ?_
  simp (maxSteps := 1000000) (disch := omega) [go_sem]
  have e : l.any p = decide (0 ≤ n) := by
    cases h : l.any p with
    | true => simp [hn.2 h]
    | false => simp only [h] at hn; simp at hn; simp; omega
  rw [e] at hK
  exact retG_pure (.refl hw) (.v _) hK
end Go.Idl
