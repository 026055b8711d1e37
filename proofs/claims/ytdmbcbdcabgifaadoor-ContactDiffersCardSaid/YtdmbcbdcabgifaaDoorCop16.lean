/- Own memory lent to a call that changes nothing; a copy of a contact whose values are its own. Conditions: none. -/
import Derived.Test.YtdmbcbdcabgifaaDoorFnC
import Derived.Test.YtdmbcbdcabgifaaDoorFnA
set_option linter.unusedSimpArgs false
set_option linter.unusedVariables false

namespace Go.Idl
open Go Go.RowKit

variable {P : Program} {H : IHeap}

/-- The heap with nothing of one's own. -/
def IHeap.bare (H : IHeap) : IHeap := { H with obj := fun _ => none }
@[go_sem] theorem bare_obj {k : Nat} : H.bare.obj k = none := rfl
@[go_sem] theorem bare_next : H.bare.next = H.next := rfl
theorem bare_sub : SubH H.bare H := fun k o h => by simp [IHeap.bare] at h

theorem Sim.bare {w : World} {g : Gs} (s : Sim w g H) : Sim w (g.to H.bare) H.bare where
  nx := rfl
  sh := fun _ => rfl
  lt := fun k h => by simp [IHeap.bare] at h
  bk := fun k b h => by simp [Gs.to, IHeap.bare, IHeap.sh] at h
  inj := fun k k' b h => by simp [Gs.to, IHeap.bare, IHeap.sh] at h
  obj := fun k o h => by simp [IHeap.bare] at h
  old := s.old
  snap := fun p hp i hi => by
    have h := s.snap p hp i hi
    refine h.monoR ⟨Nat.le_refl _, fun _ _ _ => rfl, fun b _ e => to_ow (bare_sub.sh s) e, ?_, fun k _ e => ?_, fun k m _ e => ?_⟩
    · show g.nx ≤ H.next
      exact Nat.le_of_eq s.nx
    · simp [Gs.to, IHeap.bare, IHeap.sh] at e
    · simp [Gs.to, IHeap.bare, IHeap.sh] at e

/-- Behind a call that had nothing of one's own all is as it was. -/
theorem Mono.of_bare {w w' : World} {g g' : Gs} (m : Mono w (g.to H.bare) w' g') : Mono w g w' g where
  size := m.size
  os := m.os
  tape := m.tape
  output := m.output
  keep := fun b hb _ => m.keep b hb fun ⟨k, h1, _⟩ => by simp [Gs.to, IHeap.bare, IHeap.sh] at h1
  own := fun _ _ e => e
  oth := rfl
  nx := Nat.le_refl _
  fx := fun _ _ e => ⟨e, rfl⟩
  row := fun k m' _ e => ⟨m', e, Nat.le_refl _, fun _ => rfl⟩

theorem Sim.of_bare {w w' : World} {g g' : Gs} (s : Sim w g H) (m : Mono w (g.to H.bare) w' g') : Sim w' g H where
  nx := s.nx
  sh := s.sh
  lt := s.lt
  bk := fun k b h1 h2 => ⟨(s.bk k b h1 h2).1, Nat.lt_of_lt_of_le (s.bk k b h1 h2).2 m.size⟩
  inj := s.inj
  obj := fun k o h => ObjR.mono (m.of_bare) (fun b hb => m.keep b (s.bk k b (by rw [s.sh, IHeap.sh, h]; rfl) hb).2 fun ⟨k, h1, _⟩ => by simp [Gs.to, IHeap.bare, IHeap.sh] at h1) (s.obj k o h)
  old := fun b hb => Nat.lt_of_lt_of_le (s.old b hb) m.size
  snap := fun p hp i hi => (s.snap p hp i hi).mono m.of_bare

/-- **Lending.** -/
theorem ICalls_lend {f : FuncId} {args args' : List IV} {x : Value} (hl : args'.length = args.length) (ha : ∀ (j : Nat) (a a' : IV), args[j]? = some a → args'[j]? = some a' → Fz H H.bare a a')
    (hp : ∀ (H : IHeap) (K : IEnd → IHeap → Prop), K (.ret (.v x)) H → ICalls P f args' H K) {K : IEnd → IHeap → Prop} (hK : K (.ret (.v x)) H) : ICalls P f args H K := by
  have h := hp H.bare (fun e _ => e = .ret (.v x)) rfl
  refine ⟨h.body, fun w g vs s rl => ?_⟩
  refine (h.run w (g.to H.bare) vs s.bare ⟨by rw [rl.1, hl], fun j y c h1 h2 => ?_⟩).mono ?_
  · obtain ⟨a, ha'⟩ := get_same hl h2
    exact (ha j a c ha' h2).sound s bare_sub (rl.2 j y a h1 ha')
  · rintro e w' ⟨ie, g', H', m, _, hr, rfl⟩
    refine ⟨_, g, H, m.of_bare, s.of_bare m, ?_, hK⟩
    cases hr with
    | ret y i hy => exact .ret _ _ (by rw [hy.v_eq]; exact .v _)

/-- Arguments lent one by one. -/
inductive FzL (H J : IHeap) : List IV → List IV → Prop
  | nil : FzL H J [] []
  | cons {a b : IV} {l m : List IV} (h : Fz H J a b) (t : FzL H J l m) : FzL H J (a :: l) (b :: m)
theorem FzL.len {J : IHeap} {l m : List IV} (h : FzL H J l m) : m.length = l.length := by
  induction h with
  | nil => rfl
  | cons _ _ ih => simp [ih]
theorem FzL.get {J : IHeap} {l m : List IV} (h : FzL H J l m) : ∀ (j : Nat) (a b : IV), l[j]? = some a → m[j]? = some b → Fz H J a b := by
  induction h with
  | nil => intro j a b h; simp at h
  | cons h _ ih =>
    intro j a b h1 h2
    cases j with
    | zero => simp at h1 h2; subst h1; subst h2; exact h
    | succ j => exact ih j a b (by simpa using h1) (by simpa using h2)
theorem ICalls_lendL {f : FuncId} {args args' : List IV} {x : Value} (ha : FzL H H.bare args args') (hp : ∀ (H : IHeap) (K : IEnd → IHeap → Prop), K (.ret (.v x)) H → ICalls P f args' H K) {K : IEnd → IHeap → Prop} (hK : K (.ret (.v x)) H) : ICalls P f args H K :=
  ICalls_lend ha.len ha.get hp hK
end Go.Idl

namespace Go.Idl
open Go Go.Proofs.Tryd

/-- Own values, or none. -/
def OwnS (J : IHeap) (n : Nat) (r : IV) (l : List (List UInt8)) : Prop :=
  (l = [] ∧ r = sS []) ∨ (l ≠ [] ∧ ∃ k, n ≤ k ∧ k < J.next ∧ r = .bs k 0 l.length ∧ J.obj k = some (.cells (l.map fun s => .v (str s))))

theorem flat1 (l : List (List UInt8)) : (l.map fun s => ([.v (str s)] : List IV)).flatten = l.map fun s => .v (str s) := by
  induction l with
  | nil => rfl
  | cons s l ih => simp [ih]

theorem clone20o {H : IHeap} {K : IEnd → IHeap → Prop} (l : List (List UInt8)) (hl : l.length ≤ 1000000) (hK : ∀ r J, Ext H J → OwnS J H.next r l → K (.ret r) J) : ICalls prog 20 [sS l] H K := by
  refine ICalls_vc (N := 8) func20 (by kernel_rfl) rfl (by kernel_rfl) (by kernel_rfl) fun hw hbd hnb => ?_
  have hnl := hnb (sS l) (by simp)
  simp (maxSteps := 1000000) (disch := omega) [go_sem]
  refine IOper_slnil rfl (by kernel_rfl) underlying22 (by simp [go_sem]; exact ⟨rfl, rfl⟩) rfl (.inl rfl) fun b hb => ?_
  simp (maxSteps := 1000000) (disch := omega) [go_sem]
  refine condB ?_ ?_ <;> intro hc <;> (try simp at hc)
  · simp (maxSteps := 1000000) (disch := omega) [go_sem]
    have e : l = [] := by simpa using hb hc
    subst e
    exact retG_fz (J := H) (Ext.refl hw).endH (.wk _ _ (.nil 1) hnl) (hK _ _ (.refl hw) (.inl ⟨rfl, rfl⟩))
  · simp (maxSteps := 1000000) (disch := omega) [go_sem]
    refine IOper_buildEmpty (sz := 1) (rs := []) rfl (by simp [bsI, underlying22, zero9, cells9, Value.cells, Value.oneCell', rep, fillI]) ?_
    simp (maxSteps := 1000000) (disch := omega) [go_sem]
    have he := ((Ext.refl hw).new (.row 1 []) |>.set (Nat.le_refl _) (.row 1 (l.map fun s => [.v (str s)])))
    by_cases h0 : l = []
    · subst h0
      exact retG_fz (J := H) he.endH (.row (hw _ (Nat.le_refl _)) (by simp [go_sem]) (by simp) hnl) (hK _ _ (.refl hw) (.inl ⟨rfl, rfl⟩))
    · have hpos : 0 < l.length := by
        rcases l with _ | ⟨a, t⟩
        · exact absurd rfl h0
        · simp
      have hf := GhR.fix (H := (H.new (.row 1 [])).set H.next (.row 1 (l.map fun s => [.v (str s)]))) (k := H.next) (sz := 1) (es := l.map fun s => ([.v (str s)] : List IV)) (by simp [go_sem]) (by simpa using hpos)
      rw [List.length_map] at hf
      refine retG_gh hf (hK _ _ (he.fix (Nat.le_refl _) _) (.inr ⟨h0, _, ?_, ?_, rfl, ?_⟩))
      · simp [go_sem]
      · simp [go_sem]
      · simp [go_sem, flat1]
end Go.Idl

namespace Go.Idl
open Go Go.Proofs.Tryd

/-- Own values, field by field, each of its own. -/
def OwnL (J : IHeap) (n : Nat) (rs : List IV) (c : List (List (List UInt8))) : Prop :=
  rs.length = c.length ∧ (∀ (j : Nat) r l, rs[j]? = some r → c[j]? = some l → OwnS J n r l) ∧ ∀ (j j' k m m' : Nat), rs[j]? = some (IV.bs k 0 m) → rs[j']? = some (IV.bs k 0 m') → j = j'

theorem OwnS.mono {J J' : IHeap} {n n' : Nat} {r : IV} {l : List (List UInt8)} (h : OwnS J n r l) (hn : n' ≤ n) (hx : J.next ≤ J'.next) (ho : ∀ k o, n ≤ k → k < J.next → J.obj k = some o → J'.obj k = some o) : OwnS J' n' r l := by
  rcases h with h | ⟨h1, k, h2, h3, h4, h5⟩
  · exact .inl h
  · exact .inr ⟨h1, k, by omega, by omega, h4, ho k _ h2 h3 h5⟩
theorem OwnL.mono {J J' : IHeap} {n : Nat} {rs : List IV} {c : List (List (List UInt8))} (h : OwnL J n rs c) (hx : J.next ≤ J'.next) (ho : ∀ k o, n ≤ k → k < J.next → J.obj k = some o → J'.obj k = some o) : OwnL J' n rs c :=
  ⟨h.1, fun j r l h1 h2 => (h.2.1 j r l h1 h2).mono (Nat.le_refl _) hx ho, h.2.2⟩
theorem OwnL.nil {J : IHeap} {n : Nat} : OwnL J n [] [] := ⟨rfl, fun j r l h => by simp at h, fun j j' k m m' h => by simp at h⟩
theorem OwnL.snoc {J J' : IHeap} {n : Nat} {rs : List IV} {c : List (List (List UInt8))} {r : IV} {l : List (List UInt8)} (h : OwnL J n rs c) (hn : n ≤ J.next) (hx : J.next ≤ J'.next) (ho : ∀ k o, n ≤ k → k < J.next → J.obj k = some o → J'.obj k = some o) (hr : OwnS J' J.next r l) : OwnL J' n (rs ++ [r]) (c ++ [l]) := by
  have hlen := h.1
  have old : ∀ (j k m : Nat), rs[j]? = some (IV.bs k 0 m) → k < J.next := by
    intro j k m e
    have hj : j < rs.length := (List.getElem?_eq_some_iff.1 e).1
    rcases h.2.1 j _ _ e (List.getElem?_eq_getElem (by omega : j < c.length)) with ⟨_, e'⟩ | ⟨_, k', _, h3, e', _⟩
    · cases e'
    · cases e'; exact h3
  have new : ∀ (k m : Nat), r = .bs k 0 m → J.next ≤ k := by
    intro k m e
    rcases hr with ⟨_, e'⟩ | ⟨_, k', h2, _, e', _⟩
    · rw [e'] at e; cases e
    · rw [e'] at e; cases e; exact h2
  have get : ∀ (j : Nat) (x : IV), (rs ++ [r])[j]? = some x → rs[j]? = some x ∨ (j = rs.length ∧ r = x) := by
    intro j x e
    rcases Nat.lt_or_ge j rs.length with q | q
    · rw [List.getElem?_append_left q] at e; exact .inl e
    · rw [List.getElem?_append_right q] at e
      rcases Nat.eq_zero_or_pos (j - rs.length) with z | z
      · rw [z] at e; simp at e; exact .inr ⟨by omega, e⟩
      · rw [List.getElem?_eq_none (by simp; omega)] at e; cases e
  refine ⟨by simp [hlen], fun j x y h1 h2 => ?_, fun j j' k m m' h1 h2 => ?_⟩
  · rcases get j x h1 with e | ⟨rfl, rfl⟩
    · have hj : j < c.length := by rw [← hlen]; exact (List.getElem?_eq_some_iff.1 e).1
      rw [List.getElem?_append_left hj] at h2
      exact (h.2.1 j x y e h2).mono (Nat.le_refl _) hx ho
    · rw [hlen] at h2
      simp at h2
      subst h2
      exact hr.mono hn (Nat.le_refl _) fun _ _ _ _ e => e
  · rcases get j _ h1 with e | ⟨e1, e2⟩ <;> rcases get j' _ h2 with e' | ⟨e1', e2'⟩
    · exact h.2.2 j j' k m m' e e'
    · have := old _ _ _ e; have := new _ _ e2'; omega
    · have := old _ _ _ e'; have := new _ _ e2; omega
    · omega

def CpI (H Hu : IHeap) (c : List (List (List UInt8))) (i : Nat) : Prop :=
  ∃ rs : List IV, rs.length = i ∧ Hu.obj H.next = some (.cells (rs ++ (c.map sS).drop i)) ∧ Hu.obj (H.next + 1) = some (.cells (List.replicate 8 (.v (.slice none 0 0)))) ∧ Ext H Hu ∧ H.next + 2 ≤ Hu.next ∧ OwnL Hu (H.next + 2) rs (c.take i)

set_option pp.deepTerms false in
set_option maxRecDepth 4000 in
theorem copy16o {H : IHeap} {K : IEnd → IHeap → Prop} (c : List (List (List UInt8))) (hc : c.length = 8) (hs : ∀ s, s ∈ c → s.length ≤ 1000000) (hK : ∀ rs J, Ext H J → OwnL J (H.next + 2) rs c → K (.ret (.ag rs)) J) : ICalls prog 16 [cS c] H K := by
  refine ICalls_vc (N := 14) func16 (by kernel_rfl) rfl (by kernel_rfl) (by kernel_rfl) fun hw hbd hnb => ?_
  have hnc := hnb (cS c) (by simp)
  have ht : List.take 8 (c.map sS) = c.map sS := by rw [List.take_of_length_le]; simp [hc]
  simp (maxSteps := 1000000) (disch := omega) [go_sem, hc, ht]
  refine fields25 c hc ?_
  simp (maxSteps := 1000000) (disch := omega) [go_sem, hc]
  refine IWp_rangeFunc (gf := 49) (cap := [.cp [.sl 1 ((c.map sS).map fun x => [x])]]) (by kernel_rfl) (by simp [go_sem]) (all49 (c.map sS))
    (fun i Hu => CpI H Hu c i) ?_ (by simp) ?_ ?_ ?_
  · exact ⟨[], rfl, by simp [go_sem], by simp [go_sem], (Ext.refl hw).new _ |>.new _, by simp [go_sem], .nil⟩
  · intro args h
    obtain ⟨i, hi⟩ := List.getElem?_of_mem h
    simp only [ixs, List.getElem?_map, Option.map_eq_some_iff] at hi
    obtain ⟨p, _, rfl⟩ := hi
    rfl
  · rintro i args Hu hx ⟨rs, h0, h1, h2, h3, h4, h5⟩
    have hi : i < c.length := by
      have := (List.getElem?_eq_some_iff.1 hx).1
      simpa [ixs_length] using this
    rw [ixs_get (by simpa using hi)] at hx
    cases hx
    refine vc_sound _ (by kernel_rfl) _ _ _ ?_
    simp (maxSteps := 1000000) (disch := omega) [go_sem, setPs, hc]
    refine vc_sound _ (by kernel_rfl) _ _ _ ?_
    simp (maxSteps := 1000000) (disch := omega) [go_sem, setPs, hc, h1, h2]
    refine clone20o _ (hs _ (List.getElem_mem _)) fun r J he ho => ?_
    have j1 := he.sub _ _ (show Hu.skip.obj H.next = _ by simpa [go_sem] using h1)
    have j2 := he.sub _ _ (show Hu.skip.obj (H.next + 1) = _ by simpa [go_sem] using h2)
    have hle : Hu.next + 1 ≤ J.next := he.le
    have hcr : cellsI r = some [r] := by
      rcases ho with ⟨_, rfl⟩ | ⟨_, k, _, _, rfl, _⟩ <;> rfl
    have hlen : (rs ++ (c.map sS).drop i).length = 8 := by simp [h0, hc]; omega
    simp (maxSteps := 1000000) (disch := omega) [go_sem, setPs, hc, j1, j2, hcr]
    have e : rs ++ r :: List.drop (i + 1) (rs ++ List.drop i (List.map sS c)) = (rs ++ [r]) ++ List.drop (i + 1) (List.map sS c) := by
      rw [List.drop_append, List.drop_of_length_le (by omega : rs.length ≤ i + 1), List.drop_drop]
      simp [h0]
    rw [e]
    have htk : List.take (i + 1) c = List.take i c ++ [c[i]] := by rw [List.take_add_one, List.getElem?_eq_getElem hi]; rfl
    have keep : ∀ k o, H.next + 2 ≤ k → k < Hu.next → Hu.obj k = some o → (J.set H.next (HO.cells ((rs ++ [r]) ++ List.drop (i + 1) (List.map sS c)))).obj k = some o := fun k o hk _ e => by
      simp only [go_sem, if_neg (show ¬ k = H.next by omega)]
      exact he.sub k o e
    refine ⟨rs ++ [r], by simp [h0], by simp [go_sem], by simp [go_sem]; exact j2, (h3.skip.trans he).set (Nat.le_refl _) _, by simp [go_sem]; omega, ?_⟩
    rw [htk]
    refine h5.snoc h4 (by simp [go_sem]; omega) keep ?_
    refine ho.mono (by simp [go_sem]) (by simp [go_sem]) fun k o hk _ e => ?_
    have hk' : Hu.next + 1 ≤ k := hk
    simp only [go_sem, if_neg (show ¬ k = H.next by omega)]
    exact e
  · rintro Hu ⟨rs, h0, h1, h2, h3, h4, h5⟩
    have hx : (ixs (c.map sS)).length = 8 := by simp [ixs_length, hc]
    rw [hx] at h0 h1 h5
    rw [List.drop_of_length_le (by simp [hc]), List.append_nil] at h1
    rw [List.take_of_length_le (by omega)] at h5
    have ht2 : List.take 8 rs = rs := List.take_of_length_le (by omega)
    simp (maxSteps := 1000000) (disch := omega) [go_sem, hc, h0, h1, h2]
    rw [ht2, ht2]
    refine retG_all (hK _ _ (h3.skip.set (by omega) _) (h5.mono (by simp [go_sem]) fun k o hk _ e => ?_))
    simp [go_sem, show ¬ k = H.next + 1 by omega]
    exact e
end Go.Idl
