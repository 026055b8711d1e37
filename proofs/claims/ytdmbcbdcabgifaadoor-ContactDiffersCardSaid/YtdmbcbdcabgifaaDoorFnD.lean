/- What the plain functions come to; texts put in order; what two contacts differ in. Conditions: none. -/
import Derived.Test.YtdmbcbdcabgifaaDoorFnC
import Derived.Test.YtdmbcbdcabgifaaDoorGen16
import Derived.Test.YtdmbcbdcabgifaaDoorFnB
import Derived.Sort.Walk0
set_option linter.unusedSimpArgs false
set_option linter.unusedVariables false

namespace Go.Idl
open Go Go.Proofs.Tryd Go.RowKit Go.Proofs Go.Shelf

set_option pp.deepTerms false in
set_option maxRecDepth 8000 in
theorem known8 {H : IHeap} {K : IEnd → IHeap → Prop} (hK : K (.ret (.v (.bool true))) H) : ICalls prog 8 [] H K := by
  refine ICalls_vc (N := 30) func8 (by kernel_rfl) rfl (by kernel_rfl) (by kernel_rfl) fun hw hbd hnb => ?_
  simp (maxSteps := 1000000) (disch := omega) [go_sem, bdP]
  refine ICalls.wkL (args' := [cS annC, .v (.int .i64 6), sS [[98], [97], [98]]]) ?_ (with9 annC 6 [[98], [97], [98]] rfl (by decide) (by decide) ?_)
  · repeat (first | exact WkL.nil | refine WkL.cons ?_ ?_ | exact Wk.refl _ | exact Wk.nil _ | refine Wk.agL ?_)
  · rw [with_ann]
    have hl : annD.length = 8 := rfl
    have ht : List.take 8 (List.map sS annD) = List.map sS annD := by rw [List.take_of_length_le]; simp [hl]
    generalize hd : annD = d at hl ht
    simp (maxSteps := 1000000) (disch := omega) [go_sem, hl, ht]
    refine text18 d hl ?_ ?_
    · subst hd; decide
    · subst hd
      rw [text_ann]
      have h : checkS annD = true := by decide
      rw [if_pos h]
      simp (maxSteps := 1000000) (disch := omega) [go_sem]
      exact retG_pure (((Ext.refl hw).new _).set (Nat.le_refl _) _ |>.new _ |>.set (Nat.le_succ _) _) (.v _) hK
end Go.Idl

namespace Go.Idl
open Go

theorem wrap_nat {i : Nat} (h : i < 9223372036854775807) : IntKind.i64.wrap ((i : Int) + 1) = ((i + 1 : Nat) : Int) := by
  rw [wrap_i64 (by omega) (by omega)]; rfl

/-- A loop that counts from 0 up to some n. -/
theorem loopO_for {ρ : Type} {step : Int → Option (Int ⊕ ρ)} {Post : ρ → Prop} (n : Nat) (Inv : Nat → Prop) (h0 : Inv 0)
    (hs : ∀ i : Nat, i < n → Inv i → (step i = some (.inl ((i + 1 : Nat) : Int)) ∧ Inv (i + 1)) ∨ ∃ r, step i = some (.inr r) ∧ Post r)
    (hf : Inv n → ∃ r, step n = some (.inr r) ∧ Post r) : ∃ r, loopO step 0 = some r ∧ Post r := by
  refine loopO_inv (fun s : Int => ∃ i : Nat, i ≤ n ∧ s = (i : Int) ∧ Inv i) (fun s : Int => n - s.toNat) ?_ ⟨0, Nat.zero_le _, rfl, h0⟩
  rintro s ⟨i, hi, rfl, hI⟩
  by_cases h : i < n
  · rcases hs i h hI with ⟨h1, h2⟩ | h1
    · exact .inl ⟨_, h1, ⟨i + 1, h, rfl, h2⟩, by simp; omega⟩
    · exact .inr h1
  · have e : i = n := by omega
    subst e
    exact .inr (hf hI)

/-- The same, with more of a state. -/
theorem loopO_for2 {σ ρ : Type} {step : σ × Int → Option ((σ × Int) ⊕ ρ)} {Post : ρ → Prop} (n : Nat) (Inv : Nat → σ → Prop) {a : σ} (h0 : Inv 0 a)
    (hs : ∀ (i : Nat) (a : σ), i < n → Inv i a → (∃ a', step (a, (i : Int)) = some (.inl (a', ((i + 1 : Nat) : Int))) ∧ Inv (i + 1) a') ∨ ∃ r, step (a, (i : Int)) = some (.inr r) ∧ Post r)
    (hf : ∀ a, Inv n a → ∃ r, step (a, (n : Int)) = some (.inr r) ∧ Post r) : ∃ r, loopO step (a, 0) = some r ∧ Post r := by
  refine loopO_inv (fun s : σ × Int => ∃ i : Nat, i ≤ n ∧ s.2 = (i : Int) ∧ Inv i s.1) (fun s : σ × Int => n - s.2.toNat) ?_ ⟨0, Nat.zero_le _, rfl, h0⟩
  rintro ⟨a, s⟩ ⟨i, hi, hs2, hI⟩
  simp only at hs2 hI
  subst hs2
  by_cases h : i < n
  · rcases hs i a h hI with ⟨a', h1, h2⟩ | h1
    · exact .inl ⟨_, h1, ⟨i + 1, h, rfl, h2⟩, by simp; omega⟩
    · exact .inr h1
  · have e : i = n := by omega
    subst e
    exact .inr (hf a hI)
/-- The state the other way round. -/
theorem loopO_for3 {σ ρ : Type} {step : Int × σ → Option ((Int × σ) ⊕ ρ)} {Post : ρ → Prop} (n : Nat) (Inv : Nat → σ → Prop) {a : σ} (h0 : Inv 0 a)
    (hs : ∀ (i : Nat) (a : σ), i < n → Inv i a → (∃ a', step ((i : Int), a) = some (.inl (((i + 1 : Nat) : Int), a')) ∧ Inv (i + 1) a') ∨ ∃ r, step ((i : Int), a) = some (.inr r) ∧ Post r)
    (hf : ∀ a, Inv n a → ∃ r, step ((n : Int), a) = some (.inr r) ∧ Post r) : ∃ r, loopO step (0, a) = some r ∧ Post r := by
  refine loopO_inv (fun s : Int × σ => ∃ i : Nat, i ≤ n ∧ s.1 = (i : Int) ∧ Inv i s.2) (fun s : Int × σ => n - s.1.toNat) ?_ ⟨0, Nat.zero_le _, rfl, h0⟩
  rintro ⟨s, a⟩ ⟨i, hi, hs2, hI⟩
  simp only at hs2 hI
  subst hs2
  by_cases h : i < n
  · rcases hs i a h hI with ⟨a', h1, h2⟩ | h1
    · exact .inl ⟨_, h1, ⟨i + 1, h, rfl, h2⟩, by simp; omega⟩
    · exact .inr h1
  · have e : i = n := by omega
    subst e
    exact .inr (hf a hI)
theorem getD_some {α : Type} {l : List α} {i : Nat} (h : i < l.length) (d : α) : l.getD i d = l[i] := by simp [h]
end Go.Idl

namespace Go.Idl
open Go

abbrev Str := List UInt8
def textsOk (l : List Str) : Bool := decide (l.length ≤ 20 ∧ ∀ s ∈ l, s.length ≤ 400)

theorem F7_eq (l : List Str) : F7 l = some (textsOk l) := by
  unfold F7
  by_cases hc : 20 < (l.length : Int)
  · rw [if_pos hc]
    have : textsOk l = false := by simp [textsOk]; omega
    rw [this]
  · rw [if_neg hc]
    obtain ⟨r, h1, h2⟩ := loopO_for (step := fun (s : Int) => F7_b8 l s) (Post := fun y => (y = .inl () ∧ ∀ s ∈ l, s.length ≤ 400) ∨ (y = .inr false ∧ ¬ ∀ s ∈ l, s.length ≤ 400)) l.length (fun i => ∀ s ∈ l.take i, s.length ≤ 400) (by simp)
      (fun i hi hI => by
        have hw := wrap_nat (i := i) (by omega)
        simp only [F7_b8]
        rw [if_pos (by omega), gd_pos (by omega), Int.toNat_natCast, getD_some hi]
        by_cases h : 400 < (l[i].length : Int)
        · rw [if_pos h]
          exact .inr ⟨_, rfl, .inr ⟨rfl, fun h' => by have := h' l[i] (List.getElem_mem _); omega⟩⟩
        · rw [if_neg h, hw]
          refine .inl ⟨rfl, fun s hs => ?_⟩
          rw [List.take_succ_eq_append_getElem hi, List.mem_append] at hs
          rcases hs with hs | hs
          · exact hI s hs
          · simp at hs; subst hs; omega)
      (fun hI => by
        simp only [F7_b8]
        rw [if_neg (by omega)]
        exact ⟨_, rfl, .inl ⟨rfl, by simpa using hI⟩⟩)
    rw [h1]
    rcases h2 with ⟨rfl, h⟩ | ⟨rfl, h⟩
    · have : textsOk l = true := by simp only [textsOk, decide_eq_true_eq]; exact ⟨by omega, h⟩
      simp [F7_k8, this]
    · have : textsOk l = false := by simp only [textsOk, decide_eq_false_iff_not]; exact fun h' => h h'.2
      simp [this]

theorem F17_eq (a b : List Str) (ha : a.length ≤ 1000000) : F17 a b = some (decide (a = b)) := by
  unfold F17
  by_cases hc : (a.length : Int) = b.length
  · rw [if_neg (by simpa using hc)]
    obtain ⟨r, h1, h2⟩ := loopO_for (step := fun (s : Int) => F17_b8 a b s) (Post := fun y => (y = .inl () ∧ a = b) ∨ (y = .inr false ∧ a ≠ b)) a.length (fun i => a.take i = b.take i) (by simp)
      (fun i hi hI => by
        have hw := wrap_nat (i := i) (by omega)
        have hib : i < b.length := by omega
        simp only [F17_b8]
        rw [if_pos (by omega), gd_pos (by omega), gd_pos (by omega), Int.toNat_natCast, getD_some hi, getD_some hib]
        by_cases h : a[i] = b[i]
        · rw [if_neg (by simpa using h), hw]
          exact .inl ⟨rfl, by rw [List.take_succ_eq_append_getElem hi, List.take_succ_eq_append_getElem hib, hI, h]⟩
        · rw [if_pos h]
          exact .inr ⟨_, rfl, .inr ⟨rfl, by rintro rfl; exact h rfl⟩⟩)
      (fun hI => by
        simp only [F17_b8]
        rw [if_neg (by omega)]
        have e : b.length = a.length := by omega
        rw [List.take_length, ← e, List.take_length] at hI
        exact ⟨_, rfl, .inl ⟨rfl, hI⟩⟩)
    rw [h1]
    rcases h2 with ⟨rfl, h⟩ | ⟨rfl, h⟩
    · simp [F17_k8, h]
    · simp [h]
  · rw [if_pos hc]
    have : ¬ a = b := by rintro rfl; exact hc rfl
    simp [this]

theorem F26_eq (a b : List Str) (ha : a.length ≤ 1000000) : F26 a b = some (decide (a = b)) := by
  have e : F26 = F17 := rfl
  rw [e]; exact F17_eq a b ha

def lightS (c : List (List Str)) : Bool := decide (∀ l ∈ c, textsOk l = true)

theorem F6_eq (c : List (List Str)) (hc : c.length = 8) : F6 c = some (lightS c) := by
  unfold F6
  obtain ⟨r, h1, h2⟩ := loopO_for (step := fun (s : Int) => F6_b4 c s) (Post := fun y => (y = .inl () ∧ ∀ l ∈ c, textsOk l = true) ∨ (y = .inr false ∧ ¬ ∀ l ∈ c, textsOk l = true)) 8 (fun i => ∀ l ∈ c.take i, textsOk l = true) (by simp)
    (fun i hi hI => by
      have hw := wrap_nat (i := i) (by omega)
      have hi' : i < c.length := by omega
      simp only [F6_b4]
      rw [if_pos (by omega), gd_pos (by omega), gd_pos hc, Int.toNat_natCast, getD_some hi', F7_eq]
      simp only [Option.bind_some]
      by_cases h : textsOk c[i] = true
      · rw [if_neg (by simpa using h), hw]
        refine .inl ⟨rfl, fun s hs => ?_⟩
        rw [List.take_succ_eq_append_getElem hi', List.mem_append] at hs
        rcases hs with hs | hs
        · exact hI s hs
        · simp at hs; subst hs; exact h
      · rw [if_pos h]
        exact .inr ⟨_, rfl, .inr ⟨rfl, fun h' => h (h' _ (List.getElem_mem _))⟩⟩)
    (fun hI => by
      simp only [F6_b4]
      rw [if_neg (by omega)]
      refine ⟨_, rfl, .inl ⟨rfl, ?_⟩⟩
      rwa [List.take_of_length_le (by omega)] at hI)
  rw [h1]
  rcases h2 with ⟨rfl, h⟩ | ⟨rfl, h⟩
  · have : lightS c = true := by simp only [lightS, decide_eq_true_eq]; exact h
    simp [F6_k4, this]
  · have : lightS c = false := by simp only [lightS, decide_eq_false_iff_not]; exact h
    simp [this]

theorem F40_eq (f : Int) : F40 f = some (mostS f) := by
  unfold F40 mostS
  split <;> rfl

def nS' (l : List Nat) : List Int := l.map fun (n : Nat) => (n : Int)
theorem F14_eq (a b : List (List Str)) (ha : a.length = 8) (hb : b.length = 8) (hs : ∀ l ∈ a, l.length ≤ 1000000) : F14 a b = some (nS' (differS a b 8)) := by
  unfold F14
  obtain ⟨r, h1, h2⟩ := loopO_for2 (step := fun (s : (List Int) × Int) => F14_b5 a b s.1 s.2) (Post := fun y => y = nS' (differS a b 8)) 8 (fun i o => o = nS' (differS a b i)) (a := []) rfl
    (fun i o hi hI => by
      have hw := wrap_nat (i := i) (by omega)
      have hia : i < a.length := by omega
      have hib : i < b.length := by omega
      simp only [F14_b5]
      rw [if_pos (by omega), gd_pos (by omega), gd_pos ha, gd_pos hb, Int.toNat_natCast, getD_some hia, getD_some hib, F17_eq _ _ (hs _ (List.getElem_mem _))]
      have hsu := differ_succ a b i
      rw [getD_some hia, getD_some hib] at hsu
      have hl : o.length ≤ 8 := by
        rw [hI]
        simp only [nS', differS, List.length_map]
        exact Nat.le_trans (List.length_filter_le _ _) (by simp; omega)
      simp only [Option.bind_some]
      by_cases h : a[i] = b[i]
      · rw [if_neg (by simpa using h), hw]
        refine .inl ⟨_, rfl, ?_⟩
        rw [hI, hsu, if_pos h, List.append_nil]
      · rw [if_pos (by simpa using h), gd_pos (by simp; omega), hw]
        refine .inl ⟨_, rfl, ?_⟩
        rw [hI, hsu, if_neg h]
        simp [nS'])
    (fun o hI => by
      simp only [F14_b5]
      rw [if_neg (by omega)]
      exact ⟨_, rfl, hI⟩)
  rw [h1, h2]
  rfl

theorem F11_eq (a b : List (List Str)) (ha : a.length = 8) (hb : b.length = 8) (hs : ∀ l ∈ a, l.length ≤ 1000000) : F11 a b = some (decide (a = b)) := by
  unfold F11
  rw [gd_pos ha, gd_pos hb, F14_eq a b ha hb hs]
  have := differ_nil ha hb
  simp [nS', this]

/-- May a field hold these, as the document says? -/
def valuesR (f : Int) (l : List Str) : Bool := fieldOk f l && (!decide (f = 0) || decide (l.length = 1))

theorem F24_eq (f : Int) (l : List Str) (hl : l.length ≤ 1000000 ∧ ∀ s, s ∈ l → s.length ≤ 1000000) : F24 f l = some (valuesR f l) := by
  unfold F24
  rw [F40_eq]
  simp only [Option.bind_some]
  by_cases h1 : mostS f < (l.length : Int)
  · rw [if_pos h1]
    have : ¬ ((l.length : Int) ≤ mostS f) := by omega
    simp [valuesR, fieldOk, this]
  · rw [if_neg h1]
    have main : ((!decide (f = 0) || decide (l.length = 1)) = true) → F24_k2 f l = some (valuesR f l) := by
      intro hz
      unfold F24_k2
      obtain ⟨r, q1, q2⟩ := loopO_for (step := fun (s : Int) => F24_b5 f l s) (Post := fun y => (y = .inl () ∧ l.all (valueS f) = true ∧ risesS l = true) ∨ (y = .inr false ∧ (l.all (valueS f) && risesS l) = false)) l.length (fun i => (l.take i).all (valueS f) = true ∧ risesS (l.take i) = true) (by simp [risesS])
        (fun i hi hI => by
          have hw := wrap_nat (i := i) (by omega)
          have hli := hl.2 l[i] (List.getElem_mem _)
          -- the bytes of a value
          have inner : 1 ≤ l[i].length → l[i].length ≤ 200 → F24_k12 f l i = if valueS f l[i] = true then some (.inl ((i + 1 : Nat) : Int)) else some (.inr (.inr false)) := by
            intro hlo hhi
            unfold F24_k12
            obtain ⟨r, p1, p2⟩ := loopO_for (step := fun (s : Int) => F24_b14 f l i s) (Post := fun y => (y = .inl () ∧ l[i].all (byteOk f) = true) ∨ (y = .inr false ∧ l[i].all (byteOk f) = false)) l[i].length (fun j => (l[i].take j).all (byteOk f) = true) (by simp)
              (fun j hj hJ => by
                have hwj := wrap_nat (i := j) (by omega)
                simp only [F24_b14]
                rw [gd_pos (by omega), Int.toNat_natCast, getD_some hi, if_pos (by omega), gd_pos (by omega), Int.toNat_natCast, getD_some hj, hwj]
                have bad : byteOk f l[i][j] = false → l[i].all (byteOk f) = false := fun h => by
                  rw [List.all_eq_false]
                  exact ⟨l[i][j], List.getElem_mem _, by simp [h]⟩
                have good : byteOk f l[i][j] = true → (l[i].take (j + 1)).all (byteOk f) = true := fun h => by
                  rw [List.take_succ_eq_append_getElem hj, List.all_append, hJ]
                  simp [h]
                by_cases b1 : ((l[i][j].toNat : Int)) < 32
                · rw [if_pos b1]
                  by_cases b2 : ((l[i][j].toNat : Int)) = 10
                  · rw [if_neg (by simpa using b2)]
                    by_cases b3 : f = 5
                    · rw [if_neg (by simpa using b3)]
                      exact .inl ⟨rfl, good (by simp [byteOk, b3]; omega)⟩
                    · rw [if_pos b3]
                      exact .inr ⟨_, rfl, .inr ⟨rfl, bad (by simp [byteOk, b3]; omega)⟩⟩
                  · rw [if_pos b2]
                    exact .inr ⟨_, rfl, .inr ⟨rfl, bad (by simp [byteOk]; omega)⟩⟩
                · rw [if_neg b1]
                  exact .inl ⟨rfl, good (by simp [byteOk]; omega)⟩)
              (fun hJ => by
                simp only [F24_b14]
                rw [gd_pos (by omega), Int.toNat_natCast, getD_some hi, if_neg (by omega)]
                rw [List.take_length] at hJ
                exact ⟨_, rfl, .inl ⟨rfl, hJ⟩⟩)
            rw [p1]
            rcases p2 with ⟨rfl, h⟩ | ⟨rfl, h⟩
            · simp [F24_k14, valueS, h, hlo, hhi, hw]
            · simp [valueS, h]
          have badv : valueS f l[i] = false → (l.all (valueS f) && risesS l) = false := fun h => by
            have : l.all (valueS f) = false := by
              rw [List.all_eq_false]
              exact ⟨l[i], List.getElem_mem _, by simp [h]⟩
            rw [this, Bool.false_and]
          have step2 : (i = 0 ∨ risesS (l.take (i + 1)) = true) → 1 ≤ l[i].length → l[i].length ≤ 200 → (F24_k12 f l i = some (.inl ((i + 1 : Nat) : Int)) ∧ ((l.take (i + 1)).all (valueS f) = true ∧ risesS (l.take (i + 1)) = true)) ∨ ∃ r, F24_k12 f l i = some (.inr r) ∧ ((r = .inl () ∧ l.all (valueS f) = true ∧ risesS l = true) ∨ (r = .inr false ∧ (l.all (valueS f) && risesS l) = false)) := by
            intro hr hlo hhi
            rw [inner hlo hhi]
            cases hv : valueS f l[i] with
            | true =>
              refine .inl ⟨rfl, ?_, ?_⟩
              · rw [List.take_succ_eq_append_getElem hi, List.all_append, hI.1]
                simp [hv]
              · rcases hr with rfl | hr
                · cases l with
                  | nil => simp at hi
                  | cons x t => simp [risesS]
                · exact hr
            | false => exact .inr ⟨_, rfl, .inr ⟨rfl, badv hv⟩⟩
          simp only [F24_b5]
          rw [if_pos (by omega), gd_pos (by omega), Int.toNat_natCast, getD_some hi]
          by_cases c1 : (l[i].length : Int) < 1
          · rw [if_pos c1]
            exact .inr ⟨_, rfl, .inr ⟨rfl, badv (by simp [valueS]; omega)⟩⟩
          · rw [if_neg c1]
            by_cases c2 : 200 < (l[i].length : Int)
            · rw [if_pos c2]
              exact .inr ⟨_, rfl, .inr ⟨rfl, badv (by simp [valueS]; omega)⟩⟩
            · rw [if_neg c2]
              by_cases c3 : 0 < (i : Int)
              · have e1 : IntKind.i64.wrap ((i : Int) - 1) = ((i - 1 : Nat) : Int) := by rw [wrap_i64 (by omega) (by omega)]; omega
                have hi1 : i - 1 < l.length := by omega
                have hrt := rises_take l i (by omega) hi
                rw [if_pos c3, e1, gd_pos (by omega), Int.toNat_natCast, getD_some hi1]
                by_cases c4 : Op.bytesLess l[i - 1] l[i] = true
                · rw [if_neg (by simpa using c4)]
                  exact step2 (.inr (by rw [hrt, hI.2, c4]; rfl)) (by omega) (by omega)
                · rw [if_pos c4]
                  refine .inr ⟨_, rfl, .inr ⟨rfl, ?_⟩⟩
                  have : risesS l = false := by
                    cases hh : risesS l with
                    | false => rfl
                    | true =>
                      have := rises_pref l (i + 1) hh
                      rw [hrt] at this
                      simp [c4] at this
                  rw [this, Bool.and_false]
              · rw [if_neg c3]
                exact step2 (.inl (by omega)) (by omega) (by omega))
        (fun hI => by
          simp only [F24_b5]
          rw [if_neg (by omega)]
          rw [List.take_length] at hI
          exact ⟨_, rfl, .inl ⟨rfl, hI⟩⟩)
      rw [q1]
      have hm : (l.length : Int) ≤ mostS f := by omega
      rcases q2 with ⟨rfl, h2, h3⟩ | ⟨rfl, h2⟩
      · have e : (l.any fun s => !valueS f s) = false := by
          rw [List.any_eq_false]
          intro s hs'
          simp [List.all_eq_true.1 h2 s hs']
        simp [F24_k5, valuesR, fieldOk, e, h3, hm, hz]
      · have e : (!(l.any fun s => !valueS f s) && risesS l) = false := by
          rw [← h2]
          congr 1
          rw [Bool.eq_iff_iff]
          simp
        simp only [Option.bind_some, Sum.elim_inr, valuesR, fieldOk, Bool.and_assoc] at e ⊢
        rw [← Bool.and_assoc (!_), e]
        simp
    by_cases h2 : f = 0
    · rw [if_pos h2]
      by_cases h3 : (l.length : Int) = 1
      · rw [if_neg (by simpa using h3)]
        exact main (by simp; omega)
      · rw [if_pos h3]
        have : ¬ l.length = 1 := by omega
        simp [valuesR, h2, this]
    · rw [if_neg h2]
      exact main (by simp [h2])

/-- A contact of small pieces. -/
def smallC (c : List (List Str)) : Prop := c.length = 8 ∧ ∀ l ∈ c, l.length ≤ 1000000 ∧ ∀ s ∈ l, s.length ≤ 1000000

theorem check_iff (c : List (List Str)) (hc : c.length = 8) : checkS c = true ↔ ∀ (i : Nat) (h : i < c.length), valuesR i c[i] = true := by
  unfold checkS
  simp only [Bool.and_eq_true, List.all_eq_true, decide_eq_true_eq]
  constructor
  · rintro ⟨h1, h2⟩ i hi
    have := h1 (c[i], i) (by rw [List.mem_zipIdx_iff_getElem?]; simp [hi])
    simp only [valuesR, this, Bool.true_and, Bool.or_eq_true, Bool.not_eq_true', decide_eq_false_iff_not, decide_eq_true_eq]
    by_cases e : i = 0
    · subst e
      rw [getD_some hi] at h2
      exact .inr h2
    · exact .inl (by omega)
  · intro h
    refine ⟨fun p hp => ?_, ?_⟩
    · obtain ⟨l, i⟩ := p
      rw [List.mem_zipIdx_iff_getElem?] at hp
      obtain ⟨hi, he⟩ := List.getElem?_eq_some_iff.1 hp
      have := h i hi
      simp only [valuesR, Bool.and_eq_true] at this
      simp only at he
      rw [← he]; exact this.1
    · have h0 : 0 < c.length := by omega
      have := h 0 h0
      simp only [valuesR, Bool.and_eq_true] at this
      rw [getD_some h0]
      simpa using this.2

theorem F10_eq (c : List (List Str)) (hs : smallC c) : F10 c = some (checkS c) := by
  obtain ⟨hc, hs⟩ := hs
  unfold F10
  obtain ⟨r, h1, h2⟩ := loopO_for (step := fun (s : Int) => F10_b4 c s) (Post := fun y => (y = .inl () ∧ checkS c = true) ∨ (y = .inr false ∧ checkS c = false)) 8 (fun i => ∀ (j : Nat) (h : j < c.length), j < i → valuesR j c[j] = true) (by intro j _ h; omega)
    (fun i hi hI => by
      have hw := wrap_nat (i := i) (by omega)
      have hi' : i < c.length := by omega
      simp only [F10_b4]
      rw [if_pos (by omega), gd_pos (by omega), gd_pos hc, Int.toNat_natCast, getD_some hi', F24_eq _ _ (hs _ (List.getElem_mem _))]
      simp only [Option.bind_some]
      by_cases h : valuesR i c[i] = true
      · rw [if_neg (by simpa using h), hw]
        refine .inl ⟨rfl, fun j hj hji => ?_⟩
        by_cases e : j = i
        · subst e; exact h
        · exact hI j hj (by omega)
      · rw [if_pos h]
        refine .inr ⟨_, rfl, .inr ⟨rfl, ?_⟩⟩
        rw [Bool.eq_false_iff]
        intro h'
        exact h ((check_iff c hc).1 h' i hi'))
    (fun hI => by
      simp only [F10_b4]
      rw [if_neg (by omega)]
      exact ⟨_, rfl, .inl ⟨rfl, (check_iff c hc).2 fun i hi => hI i hi (by omega)⟩⟩)
  rw [h1]
  rcases h2 with ⟨rfl, h⟩ | ⟨rfl, h⟩
  · simp [F10_k4, h]
  · simp [h]

/-! ### Values put in order -/
/-- One more value, in order. -/
def insS : List Str → Str → List Str
  | [], s => [s]
  | x :: l, s => if Op.bytesLess x s = true then x :: insS l s else if x = s then x :: l else s :: x :: l
def ordR (f : Int) (l : List Str) : List Str := if f < 6 then l else l.foldl insS []

theorem insS_eq (l : List Str) (s : Str) : insS l s = if h : (l.takeWhile fun x => Op.bytesLess x s).length < l.length ∧ l.getD (l.takeWhile fun x => Op.bytesLess x s).length [] = s then l
    else l.take (l.takeWhile fun x => Op.bytesLess x s).length ++ [s] ++ l.drop (l.takeWhile fun x => Op.bytesLess x s).length := by
  induction l with
  | nil => simp [insS]
  | cons x l ih =>
    simp only [insS, List.takeWhile_cons]
    by_cases h : Op.bytesLess x s = true
    · rw [if_pos h, if_pos h, ih]
      simp only [List.length_cons, List.getD_cons_succ, List.take_succ_cons, List.drop_succ_cons, List.cons_append, Nat.add_lt_add_iff_right]
      split <;> rfl
    · rw [if_neg h, if_neg h]
      simp
theorem insS_len (l : List Str) (s : Str) : (insS l s).length ≤ l.length + 1 := by
  induction l with
  | nil => simp [insS]
  | cons x l ih =>
    simp only [insS]
    split
    · simp; omega
    · split <;> simp

theorem F12_eq (f : Int) (l : List Str) (hl : l.length ≤ 1000) : F12 f l = some (ordR f l) := by
  unfold F12 ordR
  by_cases hf : f < 6
  · rw [if_pos hf, if_pos hf, gd_pos (by omega)]
  · rw [if_neg hf, if_neg hf]
    obtain ⟨r, h1, h2⟩ := loopO_for2 (step := fun (s : List Str × Int) => F12_b10 l s.1 s.2) (Post := fun y => y = l.foldl insS []) l.length (fun i o => o = (l.take i).foldl insS [] ∧ o.length ≤ i) (a := []) (by simp)
      (fun i o hi hI => by
        have hw := wrap_nat (i := i) (by omega)
        simp only [F12_b10]
        rw [if_pos (by omega)]
        obtain ⟨hI, hlen⟩ := hI
        generalize hn : (o.takeWhile fun x => Op.bytesLess x l[i]).length = n
        have hno : n ≤ o.length := by rw [← hn]; exact (List.takeWhile_prefix _).length_le
        have hloop : loopO (fun (s : Int) => F12_b20 l o i s) 0 = some (n : Int) := by
          obtain ⟨r, q1, q2⟩ := loopO_for (step := fun (s : Int) => F12_b20 l o i s) (Post := fun y => y = (n : Int)) n (fun j => True) trivial
            (fun j hj _ => by
              have hwj := wrap_nat (i := j) (by omega)
              have hjo : j < o.length := by omega
              simp only [F12_b20]
              rw [if_pos (by omega), gd_pos (by omega), gd_pos (by omega), Int.toNat_natCast, Int.toNat_natCast, getD_some hjo, getD_some hi]
              have : Op.bytesLess o[j] l[i] = true := by
                have hlt : j < (o.takeWhile fun x => Op.bytesLess x l[i]).length := by omega
                have hm := List.all_takeWhile (l := o) (p := fun x => Op.bytesLess x l[i])
                have := List.all_eq_true.1 hm _ (List.getElem_mem hlt)
                have he : (o.takeWhile fun x => Op.bytesLess x l[i])[j] = o[j] := by
                  have hp := List.takeWhile_prefix (l := o) (fun x => Op.bytesLess x l[i])
                  exact List.IsPrefix.getElem hp hlt
                rwa [he] at this
              rw [if_pos this, hwj]
              exact .inl ⟨rfl, trivial⟩)
            (fun _ => by
              simp only [F12_b20]
              by_cases hlt : n < o.length
              · rw [if_pos (by omega), gd_pos (by omega), gd_pos (by omega), Int.toNat_natCast, Int.toNat_natCast, getD_some hlt, getD_some hi]
                have : ¬ Op.bytesLess o[n] l[i] = true := by
                  intro hb
                  have := List.takeWhile_append_dropWhile (p := fun x => Op.bytesLess x l[i]) (l := o)
                  have hd : (o.dropWhile fun x => Op.bytesLess x l[i])[0]? = some o[n] := by
                    have h0 : o[n]? = some o[n] := List.getElem?_eq_getElem hlt
                    conv at h0 => lhs; rw [← this]
                    rw [List.getElem?_append_right (by omega), hn, Nat.sub_self] at h0
                    exact h0
                  cases hdw : (o.dropWhile fun x => Op.bytesLess x l[i]) with
                  | nil => rw [hdw] at hd; simp at hd
                  | cons y t =>
                    rw [hdw] at hd
                    simp at hd
                    have := List.head_dropWhile_not (p := fun x => Op.bytesLess x l[i]) (l := o) (by rw [hdw]; simp)
                    simp only [hdw, List.head_cons, hd] at this
                    rw [hb] at this
                    cases this
                rw [if_neg this]
                exact ⟨_, rfl, rfl⟩
              · rw [if_neg (by omega)]
                exact ⟨_, rfl, rfl⟩)
          rw [q1, q2]
        rw [hloop]
        simp only [Option.bind_some]
        refine .inl ⟨insS o l[i], ?_, ?_, ?_⟩
        · rw [insS_eq]
          simp only [hn]
          simp only [F12_k20]
          have lens : (o.take n).length ≤ n := by simp; omega
          have lens2 : (o.drop n).length ≤ o.length := by simp
          by_cases hlt : n < o.length
          · rw [if_pos (by omega), gd_pos (by omega), gd_pos (by omega), Int.toNat_natCast, Int.toNat_natCast, getD_some hlt, getD_some hi, hw]
            by_cases he : o[n] = l[i]
            · rw [if_pos he, dif_pos ⟨hlt, he⟩]
            · rw [if_neg he, dif_neg (fun h => he h.2), gd_pos (by omega), gd_pos (by omega), gd_pos (by omega), gd_pos (by simp; omega), gd_pos (by simp; omega)]
          · rw [if_neg (by omega), dif_neg (fun h => hlt h.1), gd_pos (by omega), gd_pos (by omega), gd_pos (by omega), Int.toNat_natCast, Int.toNat_natCast, getD_some hi, hw, gd_pos (by omega), gd_pos (by simp; omega), gd_pos (by simp; omega)]
        · rw [List.take_succ_eq_append_getElem hi, List.foldl_append, ← hI]
          rfl
        · have := insS_len o l[i]; omega)
      (fun o hI => by
        simp only [F12_b10]
        rw [if_neg (by omega)]
        rw [List.take_length] at hI
        exact ⟨_, rfl, hI.1⟩)
    rw [h1, h2]
    rfl
end Go.Idl

namespace Go.Idl
open Go

def lt8 (a b : Str) : Prop := Op.bytesLess a b = true
theorem lt8_iff (a b : Str) : lt8 a b ↔ a < b := by rw [lt8, Go.Proofs.bytesLess_eq, decide_eq_true_eq]
theorem lt8_irrefl (a : Str) : ¬ lt8 a a := by rw [lt8_iff]; exact List.lt_irrefl a
theorem lt8_trans {a b c : Str} (h : lt8 a b) (k : lt8 b c) : lt8 a c := by rw [lt8_iff] at *; exact List.lt_trans h k
theorem lt8_tri {a b : Str} (h : ¬ lt8 a b) (hne : ¬ a = b) : lt8 b a := by
  rw [lt8_iff] at *
  have h1 : b ≤ a := List.not_lt.1 h
  rcases List.le_iff_lt_or_eq.1 h1 with h2 | h2
  · exact h2
  · exact absurd h2.symm hne

abbrev Rise (l : List Str) : Prop := l.Pairwise lt8

/-- Rising lists of the same texts are the same. -/
theorem rise_uniq : ∀ {l m : List Str}, Rise l → Rise m → (∀ x, x ∈ l ↔ x ∈ m) → l = m
  | [], [], _, _, _ => rfl
  | [], y :: m, _, _, h => by have := (h y).2 (by simp); simp at this
  | x :: l, [], _, _, h => by have := (h x).1 (by simp); simp at this
  | x :: l, y :: m, hl, hm, h => by
    rw [Rise, List.pairwise_cons] at hl hm
    have hxy : x = y := by
      have h1 := (h x).1 (by simp)
      have h2 := (h y).2 (by simp)
      rcases List.mem_cons.1 h1 with h1 | h1
      · exact h1
      · rcases List.mem_cons.1 h2 with h2 | h2
        · exact h2.symm
        · exact absurd (lt8_trans (hm.1 x h1) (hl.1 y h2)) (lt8_irrefl y)
    subst hxy
    rw [rise_uniq hl.2 hm.2 fun z => ?_]
    constructor
    · intro hz
      have := (h z).1 (by simp [hz])
      rcases List.mem_cons.1 this with e | e
      · exact absurd (e ▸ hl.1 z hz) (lt8_irrefl _)
      · exact e
    · intro hz
      have := (h z).2 (by simp [hz])
      rcases List.mem_cons.1 this with e | e
      · exact absurd (e ▸ hm.1 z hz) (lt8_irrefl _)
      · exact e

theorem insS_mem (l : List Str) (s x : Str) : x ∈ insS l s ↔ x ∈ l ∨ x = s := by
  induction l with
  | nil => simp [insS]
  | cons y l ih =>
    simp only [insS]
    split
    · simp [ih, or_assoc]
    · split
      · rename_i e
        simp only [List.mem_cons]
        constructor
        · exact .inl
        · rintro (h | h)
          · exact h
          · exact .inl (h.trans e.symm)
      · simp only [List.mem_cons]
        constructor
        · rintro (h | h | h)
          · exact .inr h
          · exact .inl (.inl h)
          · exact .inl (.inr h)
        · rintro ((h | h) | h)
          · exact .inr (.inl h)
          · exact .inr (.inr h)
          · exact .inl h
theorem insS_rise (l : List Str) (s : Str) (h : Rise l) : Rise (insS l s) := by
  induction l with
  | nil => simp [insS, Rise]
  | cons y l ih =>
    rw [Rise, List.pairwise_cons] at h
    simp only [insS]
    split
    · rename_i hlt
      rw [Rise, List.pairwise_cons]
      refine ⟨fun z hz => ?_, ih h.2⟩
      rcases (insS_mem l s z).1 hz with hz | hz
      · exact h.1 z hz
      · exact hz ▸ hlt
    · rename_i hlt
      split
      · rw [Rise, List.pairwise_cons]; exact h
      · rename_i hne
        have hys : lt8 s y := lt8_tri hlt hne
        rw [Rise, List.pairwise_cons, List.pairwise_cons]
        refine ⟨fun z hz => ?_, h⟩
        rcases List.mem_cons.1 hz with hz | hz
        · exact hz ▸ hys
        · exact lt8_trans hys (h.1 z hz)
theorem fold_ins (l : List Str) : ∀ (a : List Str), Rise a → Rise (l.foldl insS a) ∧ ∀ x, x ∈ l.foldl insS a ↔ x ∈ a ∨ x ∈ l := by
  induction l with
  | nil => intro a h; exact ⟨h, by simp⟩
  | cons s l ih =>
    intro a h
    have := ih (insS a s) (insS_rise a s h)
    refine ⟨this.1, fun x => ?_⟩
    rw [List.foldl_cons, this.2, insS_mem, List.mem_cons, or_assoc]

theorem compT_mem' : ∀ (t : List Str) (p x : Str), x ∈ t → x = p ∨ x ∈ compT p t
  | [], _, _, h => by simp at h
  | y :: t, p, x, h => by
    simp only [compT]
    rcases List.mem_cons.1 h with h | h
    · by_cases e : y = p
      · exact .inl (h.trans e)
      · rw [if_neg e]; exact .inr (by simp [h])
    · rcases compT_mem' t y x h with h | h
      · by_cases e : y = p
        · exact .inl (h.trans e)
        · rw [if_neg e]; exact .inr (by simp [h])
      · split
        · exact .inr h
        · exact .inr (by simp [h])
theorem compT_rise : ∀ (t : List Str) (p : Str), (p :: t).Pairwise (fun a b => a ≤ b) → Rise (compT p t) ∧ ∀ x ∈ compT p t, lt8 p x
  | [], p, _ => by simp [compT, Rise]
  | y :: t, p, h => by
    rw [List.pairwise_cons] at h
    obtain ⟨h1, h2⟩ := compT_rise t y h.2
    have hpy := h.1 y (by simp)
    simp only [compT]
    by_cases e : y = p
    · rw [if_pos e]
      exact ⟨h1, fun x hx => e ▸ h2 x hx⟩
    · rw [if_neg e]
      have hlt : lt8 p y := by
        rw [lt8_iff]
        rcases List.le_iff_lt_or_eq.1 hpy with h | h
        · exact h
        · exact absurd h.symm e
      rw [Rise, List.pairwise_cons]
      refine ⟨⟨h2, h1⟩, fun x hx => ?_⟩
      rcases List.mem_cons.1 hx with hx | hx
      · exact hx ▸ hlt
      · exact lt8_trans hlt (h2 x hx)

theorem compact_sort (l : List Str) : Rise (compactS (sortS l)) ∧ ∀ x, x ∈ compactS (sortS l) ↔ x ∈ l := by
  have hs : (sortS l).Pairwise (fun a b => a ≤ b) := by
    have := List.pairwise_mergeSort (le := fun (x y : Str) => decide (x ≤ y)) (fun a b c h1 h2 => by simp only [decide_eq_true_eq] at *; exact List.le_trans h1 h2) (fun a b => by simp only [Bool.or_eq_true, decide_eq_true_eq]; exact List.le_total a b) l
    exact this.imp fun h => by simpa using h
  have hm : ∀ x, x ∈ sortS l ↔ x ∈ l := fun x => by simp [sortS]
  generalize sortS l = m at hs hm
  cases m with
  | nil =>
    refine ⟨by simp [compactS, Rise], fun x => ?_⟩
    rw [← hm x]; simp [compactS]
  | cons p t =>
    obtain ⟨h1, h2⟩ := compT_rise t p hs
    refine ⟨by rw [compactS, Rise, List.pairwise_cons]; exact ⟨h2, h1⟩, fun x => ?_⟩
    rw [← hm x]
    constructor
    · exact fun h => compact_mem h
    · intro h
      rw [compactS, List.mem_cons]
      rcases List.mem_cons.1 h with h | h
      · exact .inl h
      · exact compT_mem' t p x h

theorem ord_eq (f : Int) (l : List Str) : ordR f l = orderS f l := by
  unfold ordR orderS
  by_cases h : f < 6
  · rw [if_pos h, if_neg (by omega)]
  · rw [if_neg h, if_pos (by omega)]
    have h1 := fold_ins l [] (by simp [Rise])
    have h2 := compact_sort l
    exact rise_uniq h1.1 h2.1 fun x => by rw [h1.2, h2.2]; simp
end Go.Idl

namespace Go.Idl
open Go Go.Proofs.Tryd Go.RowKit Go.Proofs Go.Shelf

def DInv (H : IHeap) (a b : List (List (List UInt8))) (i : Nat) (Hu : IHeap) : Prop := Hu.obj (H.next + 1) = some (.cells (b.map sS)) ∧ Ext H Hu ∧ H.next + 3 ≤ Hu.next ∧ ((Hu.obj (H.next + 2) = some (.cells [.v (.slice none 0 0)]) ∧ differS a b i = []) ∨ ∃ k, H.next + 3 ≤ k ∧ k < Hu.next ∧ Hu.obj (H.next + 2) = some (.cells [.os k (differS a b i).length]) ∧ Hu.obj k = some (.row 1 (nS (differS a b i))))

set_option pp.deepTerms false in
set_option maxRecDepth 8000 in
theorem differ13 {H : IHeap} {K : IEnd → IHeap → Prop} (a b : List (List (List UInt8))) (ha : a.length = 8) (hb : b.length = 8) (hs : ∀ l ∈ a, l.length ≤ 1000000) (hK : K (.ret (.sl 1 (nS (differS a b 8)))) H) : ICalls prog 13 [cS a, cS b] H K := by
  have hta : List.take 8 (a.map sS) = a.map sS := by rw [List.take_of_length_le]; simp [ha]
  have htb : List.take 8 (b.map sS) = b.map sS := by rw [List.take_of_length_le]; simp [hb]
  refine ICalls_vc (N := 23) func13 (by kernel_rfl) rfl (by kernel_rfl) (by kernel_rfl) fun hw hbd hnb => ?_
  simp (maxSteps := 1000000) (disch := omega) [go_sem, ha, hb, hta, htb]
  refine fields25 a ha ?_
  simp (maxSteps := 1000000) (disch := omega) [go_sem, ha, hb, hta, htb]
  refine IWp_rangeFunc (gf := 49) (cap := [.cp [.sl 1 ((a.map sS).map fun x => [x])]]) (by kernel_rfl) (by simp [go_sem]) (all49 (a.map sS))
    (fun i Hu => DInv H a b i Hu) ?_ (by simp) ?_ ?_ ?_
  · exact ⟨by simp [go_sem], (Ext.refl hw).new _ |>.new _ |>.new _, by simp [go_sem], .inl ⟨by simp [go_sem], rfl⟩⟩
  · intro args h
    obtain ⟨i, hi⟩ := List.getElem?_of_mem h
    simp only [ixs, List.getElem?_map, Option.map_eq_some_iff] at hi
    obtain ⟨p, _, rfl⟩ := hi
    rfl
  · rintro i args Hu hx ⟨h1, h3, h4, hd⟩
    have hi : i < a.length := by
      have := (List.getElem?_eq_some_iff.1 hx).1
      simpa [ixs_length] using this
    have hib : i < b.length := by omega
    rw [ixs_get (by simpa using hi)] at hx
    cases hx
    rw [List.getElem_map]
    have hsu := differ_succ a b i
    rw [getD_some hi, getD_some hib] at hsu
    have hl8 : (differS a b i).length ≤ 8 := by
      simp only [differS]
      exact Nat.le_trans (List.length_filter_le _ _) (by simp; omega)
    refine vc_sound _ (by kernel_rfl) _ _ _ ?_
    simp (maxSteps := 1000000) (disch := omega) [go_sem, setPs, ha, hb]
    refine vc_sound _ (by kernel_rfl) _ _ _ ?_
    simp (maxSteps := 1000000) (disch := omega) [go_sem, setPs, ha, hb, h1]
    refine F26_ok a[i] b[i] (F26_eq _ _ (hs _ (List.getElem_mem _))) ?_
    simp (maxSteps := 1000000) (disch := omega) [go_sem, setPs, ha, hb, h1]
    refine condB ?_ ?_ <;> intro g1 <;> (try simp at g1)
    · rw [if_neg g1] at hsu
      rcases hd with ⟨h2, hd⟩ | ⟨k, hk, hk', h2, hd⟩
      · have n1 : ¬ H.next + 1 = Hu.next + 1 := by omega
        have n2 : ¬ H.next + 2 = Hu.next + 1 := by omega
        have n3 : ¬ Hu.next + 1 = H.next + 2 := by omega
        simp (maxSteps := 1000000) (disch := omega) [go_sem, setPs, ha, hb, h1, h2, n1, n2]
        unfold DInv
        refine ⟨by simp [go_sem, n1, h1]; omega, (h3.skip.new _).set (by omega) _, by simp [go_sem]; omega, .inr ⟨Hu.next + 1, by omega, by simp [go_sem], ?_⟩⟩
        rw [hsu, hd]
        simp [go_sem, nS, n3]
        omega
      · have n1 : ¬ H.next + 1 = k := by omega
        have n2 : ¬ H.next + 2 = k := by omega
        have n3 : ¬ k = H.next + 2 := by omega
        simp (maxSteps := 1000000) (disch := omega) [go_sem, setPs, ha, hb, h1, h2, hd, n1, n2, nS]
        unfold DInv
        refine ⟨by simp [go_sem, n1, h1], (h3.skip.set (by omega) _).set (by omega) _, by simp [go_sem]; omega, .inr ⟨k, hk, by simp [go_sem]; omega, ?_⟩⟩
        rw [hsu]
        simp [go_sem, nS, n3]
    · rw [if_pos g1, List.append_nil] at hsu
      simp (maxSteps := 1000000) (disch := omega) [go_sem, setPs, ha, hb, h1]
      unfold DInv
      rw [hsu]
      refine ⟨by simp [go_sem, h1], h3.skip, by simp [go_sem]; omega, ?_⟩
      rcases hd with ⟨h2, hd⟩ | ⟨k, hk, hk', h2, hd⟩
      · exact .inl ⟨h2, hd⟩
      · exact .inr ⟨k, hk, by simp [go_sem]; omega, h2, hd⟩
  · rintro Hu ⟨h1, h3, h4, hd⟩
    rw [ixs_length, List.length_map, ha] at hd
    rcases hd with ⟨h2, hd⟩ | ⟨k, hk, hk', h2, hd⟩
    · simp (maxSteps := 1000000) (disch := omega) [go_sem, h2]
      rw [hd] at hK
      exact retG_fz (J := H) h3.skip.endH (.wk _ _ (.nil 1) (NB_sl.2 (by simp [nS]))) hK
    · simp (maxSteps := 1000000) (disch := omega) [go_sem, h2]
      refine retG_fz (J := H) h3.skip.endH (.row (hw k (by omega)) hd (by simp [nS]) (NB_sl.2 fun x hx y hy => ?_)) hK
      obtain ⟨n, _, rfl⟩ := List.mem_map.1 hx
      simp at hy
      subst hy
      exact .v _
end Go.Idl

namespace Go.Idl
open Go Go.Proofs.Tryd Go.RowKit Go.Proofs Go.Shelf

/-- Small enough: a contact, values. -/
def smallL (l : List Str) : Prop := l.length ≤ 1000000 ∧ ∀ s ∈ l, s.length ≤ 1000000
instance (l : List Str) : Decidable (smallL l) := by unfold smallL; infer_instance
instance (c : List (List Str)) : Decidable (smallC c) := by unfold smallC; infer_instance

def F8 : Option Bool := some true
theorem F8_ok {H : IHeap} {K : IEnd → IHeap → Prop} {r : Bool} (h : F8 = some r) (hK : K (.ret (.v (.bool r))) H) : ICalls prog 8 [] H K := by
  cases h; exact known8 hK

def F9 (c : List (List Str)) (f : Int) (v : List Str) : Option (List (List Str) × Int) := gd (smallC c) (gd (smallL v) (some (withS c f v)))
theorem F9_ok {H : IHeap} {K : IEnd → IHeap → Prop} (c : List (List Str)) (f : Int) (v : List Str) {r : List (List Str) × Int} (h : F9 c f v = some r)
    (hK : K (.ret (.tu [.ag (r.1.map fun x => .sl 1 (x.map fun x => [.v (str x)])), .v (.int .i64 r.2)])) H) : ICalls prog 9 [.ag (c.map fun x => .sl 1 (x.map fun x => [.v (str x)])), .v (.int .i64 f), .sl 1 (v.map fun x => [.v (str x)])] H K := by
  unfold F9 at h
  obtain ⟨h1, h⟩ := gd_some.1 h
  obtain ⟨h2, h⟩ := gd_some.1 h
  cases h
  exact with9 c f v h1.1 h1.2 h2 hK

noncomputable def F13 (a b : List (List Str)) : Option (List Int) := gd (a.length = 8) (gd (b.length = 8) (gd (∀ l ∈ a, l.length ≤ 1000000) (some (nS' (differS a b 8)))))
theorem F13_ok {H : IHeap} {K : IEnd → IHeap → Prop} (a b : List (List Str)) {r : List Int} (h : F13 a b = some r) (hK : K (.ret (.sl 1 (r.map fun x => [.v (.int .i64 x)]))) H) :
    ICalls prog 13 [.ag (a.map fun x => .sl 1 (x.map fun x => [.v (str x)])), .ag (b.map fun x => .sl 1 (x.map fun x => [.v (str x)]))] H K := by
  unfold F13 at h
  obtain ⟨h1, h⟩ := gd_some.1 h
  obtain ⟨h2, h⟩ := gd_some.1 h
  obtain ⟨h3, h⟩ := gd_some.1 h
  cases h
  refine differ13 a b h1 h2 h3 ?_
  simpa [nS, nS', Function.comp_def] using hK
end Go.Idl
