/- Which pairings there are behind any calls, and what is refused Part 6. Conditions: none. -/
import Derived.Test.YtbgebljjmpklkaaGreatDoorPartE
import Derived.Sort.Walk0
import Derived.ProofKit
import Derived.OpenShut
import Derived.SizedLaws
import Derived.Handed
import Derived.ChangeSame
import Derived.Test.YtbgebljjmpklkaaGreatDoorRows
import Derived.Test.YtbgebljjmpklkaaGreatDoorTie
import Derived.Test.YtbgebljjmpklkaaGreatDoorCards
import Derived.LaidMore
import Derived.Carry
import Derived.Stop.Joined
import Derived.SevenTiedAt
import Derived.Stop.LaidErr
import Derived.Lib.LaidTab
set_option linter.unusedSimpArgs false
set_option linter.unusedVariables false

namespace Go.Idl

open Go

def findI {α ρ : Type} (f : Nat → α → Option ρ) (d : ρ) : Nat → List α → ρ
  | _, [] => d
  | i, x :: l => match f i x with
    | none => findI f d (i + 1) l
    | some r => r

def runI {α σ ρ : Type} (f : Nat → σ → α → σ ⊕ ρ) (fin : σ → ρ) : Nat → σ → List α → ρ
  | _, a, [] => fin a
  | i, a, x :: l => match f i a x with
    | .inl a' => runI f fin (i + 1) a' l
    | .inr r => r

theorem findI_cons {α ρ : Type} {f : Nat → α → Option ρ} {d : ρ} {i : Nat} {x : α} {l : List α} : findI f d i (x :: l) = match f i x with
    | none => findI f d (i + 1) l
    | some r => r := rfl

theorem runI_cons {α σ ρ : Type} {f : Nat → σ → α → σ ⊕ ρ} {fin : σ → ρ} {i : Nat} {a : σ} {x : α} {l : List α} : runI f fin i a (x :: l) = match f i a x with
    | .inl a' => runI f fin (i + 1) a' l
    | .inr r => r := rfl

theorem loopO_find {α ρ : Type} (l : List α) {step : Int → Option (Int ⊕ ρ)} (f : Nat → α → Option ρ) (d : ρ) (hl : l.length ≤ 1000000000)
    (hs : ∀ (i : Nat) (h : i < l.length), step (i : Int) = some (match f i l[i] with | none => .inl (IntKind.i64.wrap ((i : Int) + 1)) | some r => .inr r))
    (hf : step (l.length : Int) = some (.inr d)) : loopO step 0 = some (findI f d 0 l) := by
  obtain ⟨r, h1, h2⟩ := loopO_for (step := step) (Post := fun r => r = findI f d 0 l) l.length (fun i => findI f d i (l.drop i) = findI f d 0 l) (by simp)
    (fun i hi hI => by
      rw [hs i hi]
      rw [List.drop_eq_getElem_cons hi] at hI
      rw [findI_cons] at hI
      cases hfi : f i l[i] with
      | none =>
        rw [hfi] at hI
        rw [wrap_nat (by omega)]
        exact .inl ⟨rfl, hI⟩
      | some r =>
        rw [hfi] at hI
        exact .inr ⟨r, rfl, hI⟩)
    (fun hI => ⟨d, hf, by rw [List.drop_length] at hI; exact hI⟩)
  rw [h1, h2]

theorem loopO_run {α σ ρ : Type} (l : List α) {step : σ × Int → Option ((σ × Int) ⊕ ρ)} (f : Nat → σ → α → σ ⊕ ρ) (fin : σ → ρ) (Inv : Nat → σ → Prop) {a : σ} (hl : l.length ≤ 1000000000) (h0 : Inv 0 a)
    (hs : ∀ (i : Nat) (h : i < l.length) (a : σ), Inv i a → step (a, (i : Int)) = some (match f i a l[i] with | .inl a' => .inl (a', IntKind.i64.wrap ((i : Int) + 1)) | .inr r => .inr r))
    (hn : ∀ (i : Nat) (h : i < l.length) (a a' : σ), Inv i a → f i a l[i] = .inl a' → Inv (i + 1) a')
    (hf : ∀ a, Inv l.length a → step (a, (l.length : Int)) = some (.inr (fin a))) : loopO step (a, 0) = some (runI f fin 0 a l) := by
  obtain ⟨r, h1, h2⟩ := loopO_for2 (step := step) (Post := fun r => r = runI f fin 0 a l) l.length (fun i a' => Inv i a' ∧ runI f fin i a' (l.drop i) = runI f fin 0 a l) (a := a) ⟨h0, by simp⟩
    (fun i a' hi hI => by
      obtain ⟨hI, hR⟩ := hI
      rw [hs i hi a' hI]
      rw [List.drop_eq_getElem_cons hi] at hR
      rw [runI_cons] at hR
      cases hfi : f i a' l[i] with
      | inl a2 =>
        rw [hfi] at hR
        rw [wrap_nat (by omega)]
        exact .inl ⟨a2, rfl, hn i hi a' a2 hI hfi, hR⟩
      | inr r =>
        rw [hfi] at hR
        exact .inr ⟨r, rfl, hR⟩)
    (fun a' hI => ⟨_, hf a' hI.1, by have := hI.2; rw [List.drop_length] at this; exact this⟩)
  rw [h1, h2]

theorem findI_all {α ρ : Type} (p : α → Bool) (bad good : ρ) : ∀ (l : List α) (i : Nat), findI (fun _ x => if p x = true then none else some bad) good i l = if l.all p = true then good else bad
  | [], _ => by simp [findI]
  | x :: l, i => by
    unfold findI
    by_cases h : p x = true
    · rw [if_pos h]
      simp only [findI_all p bad good l (i + 1), List.all_cons, h, Bool.true_and]
    · rw [if_neg h]
      have : (List.all (x :: l) p) = false := by simp [List.all_cons, Bool.eq_false_iff.2 h]
      simp [this]

end Go.Idl

namespace Go.Idl

open Go

theorem F76_eq (f : Int) : F76 f = some (mostS f) := by
  unfold F76 mostS
  split <;> rfl

def valuesR (f : Int) (l : List Str) : Bool := fieldOk f l && (!decide (f = 0) || decide (l.length = 1))

theorem F47_eq (f : Int) (l : List Str) (hl : l.length ≤ 1000000 ∧ ∀ s, s ∈ l → s.length ≤ 1000000) : F47 f l = some (valuesR f l) := by
  unfold F47
  rw [F76_eq]
  simp only [Option.bind_some]
  by_cases h1 : mostS f < (l.length : Int)
  · rw [if_pos h1]
    have : ¬ ((l.length : Int) ≤ mostS f) := by omega
    simp [valuesR, fieldOk, this]
  · rw [if_neg h1]
    have main : ((!decide (f = 0) || decide (l.length = 1)) = true) → F47_k2 f l = some (valuesR f l) := by
      intro hz
      unfold F47_k2
      obtain ⟨r, q1, q2⟩ := loopO_for (step := fun (s : Int) => F47_b5 f l s) (Post := fun y => (y = .inl () ∧ l.all (valueS f) = true ∧ risesS l = true) ∨ (y = .inr false ∧ (l.all (valueS f) && risesS l) = false)) l.length (fun i => (l.take i).all (valueS f) = true ∧ risesS (l.take i) = true) (by simp [risesS])
        (fun i hi hI => by
          have hw := wrap_nat (i := i) (by omega)
          have hli := hl.2 l[i] (List.getElem_mem _)
          -- the bytes of a value
          have inner : 1 ≤ l[i].length → l[i].length ≤ 200 → F47_k12 f l i = if valueS f l[i] = true then some (.inl ((i + 1 : Nat) : Int)) else some (.inr (.inr false)) := by
            intro hlo hhi
            unfold F47_k12
            obtain ⟨r, p1, p2⟩ := loopO_for (step := fun (s : Int) => F47_b14 f l i s) (Post := fun y => (y = .inl () ∧ l[i].all (byteOk f) = true) ∨ (y = .inr false ∧ l[i].all (byteOk f) = false)) l[i].length (fun j => (l[i].take j).all (byteOk f) = true) (by simp)
              (fun j hj hJ => by
                have hwj := wrap_nat (i := j) (by omega)
                simp only [F47_b14]
                rw [gd_pos (by omega), Int.toNat_natCast, getD_some hi, if_pos (by omega), gd_pos (by omega), Int.toNat_natCast, getD_some hj, hwj]
                have bad : byteOk f l[i][j] = false → l[i].all (byteOk f) = false := fun h => by
                  rw [List.all_eq_false]
                  exact ⟨l[i][j], List.getElem_mem _, by simp [h]⟩
                have good : byteOk f l[i][j] = true → (l[i].take (j + 1)).all (byteOk f) = true := fun h => by
                  rw [List.take_succ_eq_append_getElem hj, List.all_append, hJ]
                  simp [h]
                by_cases b1 : ((l[i][j].toNat : Int)) < 32
                · rw [if_pos b1]
                  by_cases b2 : ((l[i][j].toNat : Int)) = 10
                  · rw [if_neg (by simpa using b2)]
                    by_cases b3 : f = 5
                    · rw [if_neg (by simpa using b3)]
                      exact .inl ⟨rfl, good (by simp [byteOk, b3]; omega)⟩
                    · rw [if_pos b3]
                      exact .inr ⟨_, rfl, .inr ⟨rfl, bad (by simp [byteOk, b3]; omega)⟩⟩
                  · rw [if_pos b2]
                    exact .inr ⟨_, rfl, .inr ⟨rfl, bad (by simp [byteOk]; omega)⟩⟩
                · rw [if_neg b1]
                  exact .inl ⟨rfl, good (by simp [byteOk]; omega)⟩)
              (fun hJ => by
                simp only [F47_b14]
                rw [gd_pos (by omega), Int.toNat_natCast, getD_some hi, if_neg (by omega)]
                rw [List.take_length] at hJ
                exact ⟨_, rfl, .inl ⟨rfl, hJ⟩⟩)
            rw [p1]
            rcases p2 with ⟨rfl, h⟩ | ⟨rfl, h⟩
            · simp [F47_k14, valueS, h, hlo, hhi, hw]
            · simp [valueS, h]
          have badv : valueS f l[i] = false → (l.all (valueS f) && risesS l) = false := fun h => by
            have : l.all (valueS f) = false := by
              rw [List.all_eq_false]
              exact ⟨l[i], List.getElem_mem _, by simp [h]⟩
            rw [this, Bool.false_and]
          have step2 : (i = 0 ∨ risesS (l.take (i + 1)) = true) → 1 ≤ l[i].length → l[i].length ≤ 200 → (F47_k12 f l i = some (.inl ((i + 1 : Nat) : Int)) ∧ ((l.take (i + 1)).all (valueS f) = true ∧ risesS (l.take (i + 1)) = true)) ∨ ∃ r, F47_k12 f l i = some (.inr r) ∧ ((r = .inl () ∧ l.all (valueS f) = true ∧ risesS l = true) ∨ (r = .inr false ∧ (l.all (valueS f) && risesS l) = false)) := by
            intro hr hlo hhi
            rw [inner hlo hhi]
            cases hv : valueS f l[i] with
            | true =>
              refine .inl ⟨rfl, ?_, ?_⟩
              · rw [List.take_succ_eq_append_getElem hi, List.all_append, hI.1]
                simp [hv]
              · rcases hr with rfl | hr
                · cases l with
                  | nil => simp at hi
                  | cons x t => simp [risesS]
                · exact hr
            | false => exact .inr ⟨_, rfl, .inr ⟨rfl, badv hv⟩⟩
          simp only [F47_b5]
          rw [if_pos (by omega), gd_pos (by omega), Int.toNat_natCast, getD_some hi]
          by_cases c1 : (l[i].length : Int) < 1
          · rw [if_pos c1]
            exact .inr ⟨_, rfl, .inr ⟨rfl, badv (by simp [valueS]; omega)⟩⟩
          · rw [if_neg c1]
            by_cases c2 : 200 < (l[i].length : Int)
            · rw [if_pos c2]
              exact .inr ⟨_, rfl, .inr ⟨rfl, badv (by simp [valueS]; omega)⟩⟩
            · rw [if_neg c2]
              by_cases c3 : 0 < (i : Int)
              · have e1 : IntKind.i64.wrap ((i : Int) - 1) = ((i - 1 : Nat) : Int) := by rw [wrap_i64 (by omega) (by omega)]; omega
                have hi1 : i - 1 < l.length := by omega
                have hrt := rises_take l i (by omega) hi
                rw [if_pos c3, e1, gd_pos (by omega), Int.toNat_natCast, getD_some hi1]
                by_cases c4 : Op.bytesLess l[i - 1] l[i] = true
                · rw [if_neg (by simpa using c4)]
                  exact step2 (.inr (by rw [hrt, hI.2, c4]; rfl)) (by omega) (by omega)
                · rw [if_pos c4]
                  refine .inr ⟨_, rfl, .inr ⟨rfl, ?_⟩⟩
                  have : risesS l = false := by
                    cases hh : risesS l with
                    | false => rfl
                    | true =>
                      have := rises_pref l (i + 1) hh
                      rw [hrt] at this
                      simp [c4] at this
                  rw [this, Bool.and_false]
              · rw [if_neg c3]
                exact step2 (.inl (by omega)) (by omega) (by omega))
        (fun hI => by
          simp only [F47_b5]
          rw [if_neg (by omega)]
          rw [List.take_length] at hI
          exact ⟨_, rfl, .inl ⟨rfl, hI⟩⟩)
      rw [q1]
      have hm : (l.length : Int) ≤ mostS f := by omega
      rcases q2 with ⟨rfl, h2, h3⟩ | ⟨rfl, h2⟩
      · have e : (l.any fun s => !valueS f s) = false := by
          rw [List.any_eq_false]
          intro s hs'
          simp [List.all_eq_true.1 h2 s hs']
        simp [F47_k5, valuesR, fieldOk, e, h3, hm, hz]
      · have e : (!(l.any fun s => !valueS f s) && risesS l) = false := by
          rw [← h2]
          congr 1
          rw [Bool.eq_iff_iff]
          simp
        simp only [Option.bind_some, Sum.elim_inr, valuesR, fieldOk, Bool.and_assoc] at e ⊢
        rw [← Bool.and_assoc (!_), e]
        simp
    by_cases h2 : f = 0
    · rw [if_pos h2]
      by_cases h3 : (l.length : Int) = 1
      · rw [if_neg (by simpa using h3)]
        exact main (by simp; omega)
      · rw [if_pos h3]
        have : ¬ l.length = 1 := by omega
        simp [valuesR, h2, this]
    · rw [if_neg h2]
      exact main (by simp [h2])

theorem check_iff (c : List (List Str)) (hc : c.length = 8) : checkS c = true ↔ ∀ (i : Nat) (h : i < c.length), valuesR i c[i] = true := by
  unfold checkS
  simp only [Bool.and_eq_true, List.all_eq_true, decide_eq_true_eq]
  constructor
  · rintro ⟨h1, h2⟩ i hi
    have := h1 (c[i], i) (by rw [List.mem_zipIdx_iff_getElem?]; simp [hi])
    simp only [valuesR, this, Bool.true_and, Bool.or_eq_true, Bool.not_eq_true', decide_eq_false_iff_not, decide_eq_true_eq]
    by_cases e : i = 0
    · subst e
      rw [getD_some hi] at h2
      exact .inr h2
    · exact .inl (by omega)
  · intro h
    refine ⟨fun p hp => ?_, ?_⟩
    · obtain ⟨l, i⟩ := p
      rw [List.mem_zipIdx_iff_getElem?] at hp
      obtain ⟨hi, he⟩ := List.getElem?_eq_some_iff.1 hp
      have := h i hi
      simp only [valuesR, Bool.and_eq_true] at this
      simp only at he
      rw [← he]; exact this.1
    · have h0 : 0 < c.length := by omega
      have := h 0 h0
      simp only [valuesR, Bool.and_eq_true] at this
      rw [getD_some h0]
      simpa using this.2

theorem F17_eq (c : List (List Str)) (hs : bigC c) : F17 c = some (checkS c) := by
  obtain ⟨hc, hs⟩ := hs
  unfold F17
  rw [gd_pos hc]
  obtain ⟨r, h1, h2⟩ := loopO_for (step := fun (s : Int) => F17_b5 c s) (Post := fun y => (y = .inl () ∧ checkS c = true) ∨ (y = .inr false ∧ checkS c = false)) 8 (fun i => ∀ (j : Nat) (h : j < c.length), j < i → valuesR j c[j] = true) (by intro j _ h; omega)
    (fun i hi hI => by
      have hw := wrap_nat (i := i) (by omega)
      have hi' : i < c.length := by omega
      simp only [F17_b5]
      rw [if_pos (by omega), gd_pos (by omega), Int.toNat_natCast, getD_some hi', F47_eq _ _ (hs _ (List.getElem_mem _))]
      simp only [Option.bind_some]
      by_cases h : valuesR i c[i] = true
      · rw [if_neg (by simpa using h), hw]
        refine .inl ⟨rfl, fun j hj hji => ?_⟩
        by_cases e : j = i
        · subst e; exact h
        · exact hI j hj (by omega)
      · rw [if_pos h]
        refine .inr ⟨_, rfl, .inr ⟨rfl, ?_⟩⟩
        rw [Bool.eq_false_iff]
        intro h'
        exact h ((check_iff c hc).1 h' i hi'))
    (fun hI => by
      simp only [F17_b5]
      rw [if_neg (by omega)]
      exact ⟨_, rfl, .inl ⟨rfl, (check_iff c hc).2 fun i hi => hI i hi (by omega)⟩⟩)
  rw [h1]
  rcases h2 with ⟨rfl, h⟩ | ⟨rfl, h⟩
  · simp [F17_k5, h]
  · simp [h]

end Go.Idl

namespace Go.Idl

open Go

theorem loopO_all {α : Type} (l : List α) (p : α → Bool) {step : Int → Option (Int ⊕ (Unit ⊕ Bool))} (hl : l.length ≤ 1000000000)
    (hs : ∀ (i : Nat) (h : i < l.length), step (i : Int) = some (if p l[i] = true then .inl (IntKind.i64.wrap ((i : Int) + 1)) else .inr (.inr false)))
    (hf : step (l.length : Int) = some (.inr (.inl ()))) : loopO step 0 = some (if l.all p = true then .inl () else .inr false) := by
  rw [loopO_find l (fun _ x => if p x = true then none else some (.inr false)) (.inl ()) hl (fun i h => by
    rw [hs i h]
    by_cases hp : p l[i] = true
    · simp [hp]
    · simp [hp]) hf, findI_all]

theorem findI_congr {α ρ : Type} {f g : Nat → α → Option ρ} {d : ρ} : ∀ {l : List α} {k : Nat}, (∀ i x, k ≤ i → f i x = g i x) → findI f d k l = findI g d k l
  | [], _, _ => rfl
  | x :: l, k, h => by
    rw [findI_cons, findI_cons, h k x (Nat.le_refl _)]
    cases g k x with
    | none => exact findI_congr fun i x hi => h i x (by omega)
    | some r => rfl

theorem findI_idx {α : Type} (p : α → Bool) : ∀ (l : List α) (k : Nat), ∃ j : Int, 0 ≤ j ∧ findI (fun i x => if p x = true then none else some (.inr (i : Int))) (.inl ()) k l = (if l.all p = true then (.inl () : Unit ⊕ Int) else .inr j)
  | [], k => ⟨0, by omega, by simp [findI]⟩
  | x :: l, k => by
    rw [findI_cons]
    by_cases h : p x = true
    · obtain ⟨j, h1, h2⟩ := findI_idx p l (k + 1)
      exact ⟨j, h1, by simp only [h, if_true]; rw [h2]; simp [h]⟩
    · exact ⟨k, by omega, by simp [h]⟩

/-! ### Uuids -/

def uuidB (x : UInt8) : Bool := decide (33 ≤ x.toNat ∧ x.toNat ≤ 126)

def uuidS (u : Str) : Bool := u.all uuidB && decide (1 ≤ u.length ∧ u.length ≤ 64)

theorem F53_eq (u : Str) (h : u.length ≤ 1000000) : F53 u = some (uuidS u) := by
  unfold F53
  rw [gd_pos (by omega), loopO_all u uuidB (by omega)
    (fun i hi => by
      simp only [F53_b5]
      rw [if_pos (by omega), gd_pos (by omega), Int.toNat_natCast, getD_some hi]
      simp only [uuidB, decide_eq_true_eq]
      by_cases a : u[i].toNat < 33
      · rw [if_pos (by omega), if_neg (by omega)]
      · rw [if_neg (by omega)]
        by_cases b : 126 < u[i].toNat
        · rw [if_pos (by omega), if_neg (by omega)]
        · rw [if_neg (by omega), if_pos (by omega)])
    (by simp only [F53_b5]; rw [if_neg (by omega)])]
  unfold uuidS
  by_cases h1 : u.all uuidB = true
  · simp only [h1, if_true, Option.bind_some, Sum.elim_inl, F53_k5, Bool.true_and]
    by_cases h2 : (1 : Int) ≤ u.length
    · rw [if_pos h2]; congr 1; rw [decide_eq_decide]; omega
    · rw [if_neg h2, decide_eq_false (by omega)]
  · rw [if_neg h1, Bool.eq_false_iff.2 h1]; simp

theorem F72_eq (u : Str) (h : u.length ≤ 1000000) : F72 u = some (uuidS u) := by
  unfold F72
  rw [loopO_all u uuidB (by omega)
    (fun i hi => by
      simp only [F72_b4]
      rw [if_pos (by omega), gd_pos (by omega), Int.toNat_natCast, getD_some hi]
      simp only [uuidB, decide_eq_true_eq]
      by_cases a : u[i].toNat < 33
      · rw [if_pos (by omega), if_neg (by omega)]
      · rw [if_neg (by omega)]
        by_cases b : 126 < u[i].toNat
        · rw [if_pos (by omega), if_neg (by omega)]
        · rw [if_neg (by omega), if_pos (by omega)])
    (by simp only [F72_b4]; rw [if_neg (by omega)])]
  unfold uuidS
  by_cases h1 : u.all uuidB = true
  · simp only [h1, if_true, Option.bind_some, Sum.elim_inl, F72_k4, Bool.true_and]
    by_cases h2 : (1 : Int) ≤ u.length
    · rw [if_pos h2]; congr 1; rw [decide_eq_decide]; omega
    · rw [if_neg h2, decide_eq_false (by omega)]
  · rw [if_neg h1, Bool.eq_false_iff.2 h1]; simp

/-! ### Hrefs -/

def plainB (x : UInt8) : Bool := decide ((97 ≤ x.toNat ∧ x.toNat ≤ 122) ∨ (65 ≤ x.toNat ∧ x.toNat ≤ 90) ∨ (48 ≤ x.toNat ∧ x.toNat ≤ 57) ∨ x.toNat = 45 ∨ x.toNat = 46 ∨ x.toNat = 95)

set_option maxHeartbeats 4000000 in
theorem F122_eq (x : UInt8) : F122 (x.toNat : Int) = some (plainB x) := by
  unfold F122 plainB
  by_cases h : (97 ≤ x.toNat ∧ x.toNat ≤ 122) ∨ (65 ≤ x.toNat ∧ x.toNat ≤ 90) ∨ (48 ≤ x.toNat ∧ x.toNat ≤ 57) ∨ x.toNat = 45 ∨ x.toNat = 46 ∨ x.toNat = 95
  · rw [decide_eq_true h]
    repeat' split
    all_goals first | rfl | (exfalso; omega) | (congr 1; rw [decide_eq_true_eq]; omega)
  · rw [decide_eq_false h]
    repeat' split
    all_goals first | rfl | (exfalso; omega) | (congr 1; rw [decide_eq_false_iff_not]; omega)

def markS (s : Str) : Bool := s.all plainB && decide (1 ≤ s.length ∧ s.length ≤ 64)

theorem F83_eq (s : Str) (h : s.length ≤ 1000000) : F83 s = some (markS s) := by
  have e : F123 s = some (s.all plainB) := by
    unfold F123
    rw [gd_pos (by omega), loopO_all s plainB (by omega)
      (fun i hi => by
        simp only [F123_b5]
        rw [if_pos (by omega), gd_pos (by omega), Int.toNat_natCast, getD_some hi, F122_eq]
        simp only [Option.bind_some]
        cases plainB s[i] <;> simp)
      (by simp only [F123_b5]; rw [if_neg (by omega)])]
    by_cases h1 : s.all plainB = true
    · simp [h1, F123_k5]
    · rw [if_neg h1, Bool.eq_false_iff.2 h1]; simp
  unfold F83 markS
  rw [e]
  by_cases h2 : (1 : Int) ≤ s.length
  · rw [if_pos h2]
    by_cases h3 : (s.length : Int) ≤ 64
    · rw [if_pos h3, decide_eq_true (by omega)]; simp
    · rw [if_neg h3, decide_eq_false (by omega)]; simp
  · rw [if_neg h2, decide_eq_false (by omega)]; simp

def rootL : Str := [47, 98, 111, 111, 107, 47]

def hrefS (s : Str) : Bool := decide (s.take 6 = rootL) && markS (s.drop 6)

theorem F55_eq (s : Str) (h : s.length ≤ 1000000) : F55 s = some (hrefS s) := by
  have e : F64 s [47, 98, 111, 111, 107, 47] = some (if s.take 6 = rootL then (s.drop 6, true) else (s, false)) := by
    unfold F64 F100 F138
    by_cases h1 : ((([47, 98, 111, 111, 107, 47] : Str).length : Int)) ≤ s.length
    · have h6 : (6 : Int) ≤ s.length := by simpa using h1
      rw [if_pos h1, gd_pos (by simp), gd_pos h1]
      simp only [Option.bind_some, List.length_cons, List.length_nil]
      by_cases h2 : s.take 6 = rootL
      · have h3 : List.take (((0 + 1 + 1 + 1 + 1 + 1 + 1 : Nat) : Int)).toNat s = [47, 98, 111, 111, 107, 47] := h2
        rw [decide_eq_true h3, if_neg (by simp), gd_pos (by omega), gd_pos (by simpa using h6), if_pos h2]
        rfl
      · have h3 : ¬ List.take (((0 + 1 + 1 + 1 + 1 + 1 + 1 : Nat) : Int)).toNat s = [47, 98, 111, 111, 107, 47] := h2
        rw [decide_eq_false h3, if_pos (by simp), if_neg h2]
        rfl
    · rw [if_neg h1]
      have h2 : ¬ s.take 6 = rootL := by
        intro e
        have := congrArg List.length e
        simp [rootL] at this
        simp at h1
        omega
      rw [if_neg h2]
      simp
  unfold F55
  rw [e]
  unfold hrefS
  by_cases h2 : s.take 6 = rootL
  · rw [if_pos h2, decide_eq_true h2]
    simp only [Option.bind_some, if_true]
    rw [F83_eq _ (by rw [List.length_drop]; omega)]
    simp
  · rw [if_neg h2, decide_eq_false h2]
    simp

set_option maxHeartbeats 4000000 in
theorem F71_eq (s : Str) (h : s.length ≤ 1000000) : F71 s = some (hrefS s) := by
  have e : ∀ s : Str, s.length ≤ 1000000 → F113 s = some (markS s) := fun s h => by
    unfold F113
    rw [loopO_all s plainB (by omega)
      (fun i hi => by
        simp only [F113_b4]
        rw [if_pos (by omega), gd_pos (by omega), Int.toNat_natCast, getD_some hi]
        generalize hx : s[i] = x
        unfold plainB
        by_cases h : (97 ≤ x.toNat ∧ x.toNat ≤ 122) ∨ (65 ≤ x.toNat ∧ x.toNat ≤ 90) ∨ (48 ≤ x.toNat ∧ x.toNat ≤ 57) ∨ x.toNat = 45 ∨ x.toNat = 46 ∨ x.toNat = 95
        · rw [decide_eq_true h, if_pos rfl]
          repeat' split
          all_goals first | rfl | (exfalso; omega)
        · rw [decide_eq_false h]
          simp only [Bool.false_eq_true, if_false]
          repeat' split
          all_goals first | rfl | (exfalso; omega))
      (by simp only [F113_b4]; rw [if_neg (by omega)])]
    unfold markS
    by_cases h1 : s.all plainB = true
    · simp only [h1, if_true, Option.bind_some, Sum.elim_inl, F113_k4, Bool.true_and]
      by_cases h2 : (1 : Int) ≤ s.length
      · rw [if_pos h2]; congr 1; rw [decide_eq_decide]; omega
      · rw [if_neg h2, decide_eq_false (by omega)]
    · rw [if_neg h1, Bool.eq_false_iff.2 h1]; simp
  unfold F71 hrefS
  by_cases h1 : (6 : Int) < s.length
  · rw [if_pos h1, gd_pos (by omega), gd_pos (by omega)]
    by_cases h2 : s.take 6 = rootL
    · have h3 : s.take 6 = [47, 98, 111, 111, 107, 47] := h2
      rw [if_pos h3, decide_eq_true h2, e _ (by rw [List.length_drop]; omega)]
      simp
    · have h3 : ¬ s.take 6 = [47, 98, 111, 111, 107, 47] := h2
      rw [if_neg h3, decide_eq_false h2]
      simp
  · rw [if_neg h1]
    have : markS (s.drop 6) = false := by
      rw [List.drop_of_length_le (by omega)]
      rfl
    rw [this]
    simp

/-! ### Names of entries -/

def letB (x : UInt8) : Bool := decide ((97 ≤ x.toNat ∧ x.toNat ≤ 122) ∨ (65 ≤ x.toNat ∧ x.toNat ≤ 90))

def worB (x : UInt8) : Bool := letB x || decide ((48 ≤ x.toNat ∧ x.toNat ≤ 57) ∨ x.toNat = 45)

def nameS (s : Str) : Bool := decide (1 ≤ s.length ∧ s.length ≤ 64) && (match s with | [] => false | c :: _ => letB c) && s.all worB

theorem F119_eq (x : UInt8) (a b : Nat) : F119 (x.toNat : Int) (a : Int) (b : Int) = some (decide (a ≤ x.toNat ∧ x.toNat ≤ b)) := by
  unfold F119
  by_cases h : (a : Int) ≤ x.toNat
  · rw [if_pos h]; congr 1; rw [decide_eq_decide]; omega
  · rw [if_neg h, decide_eq_false (by omega)]

theorem F80_eq (s : Str) (h : s.length ≤ 1000000) : F80 s = some (nameS s) := by
  unfold F80
  rw [gd_pos (by omega), loopO_find s (fun i x => if (letB x || (decide (¬ i = 0) && worB x)) = true then none else some (.inr false)) (.inl ()) (by omega)
    (fun i hi => by
      simp only [F80_b5]
      rw [if_pos (by omega), gd_pos (by omega), Int.toNat_natCast, getD_some hi]
      generalize s[i] = x
      have e1 : F119 (x.toNat : Int) 97 122 = _ := F119_eq x 97 122
      have e2 : F119 (x.toNat : Int) 65 90 = _ := F119_eq x 65 90
      have e3 : F119 (x.toNat : Int) 48 57 = _ := F119_eq x 48 57
      rw [e1, e2, e3]
      simp only [Option.bind_some, decide_eq_true_eq]
      by_cases h1 : 97 ≤ x.toNat ∧ x.toNat ≤ 122
      · have : letB x = true := by simp only [letB, decide_eq_true_eq]; exact .inl h1
        simp [h1, this]
      · by_cases h2 : 65 ≤ x.toNat ∧ x.toNat ≤ 90
        · have : letB x = true := by simp only [letB, decide_eq_true_eq]; exact .inr h2
          simp [h1, h2, this]
        · have hl : letB x = false := by simp only [letB, decide_eq_false_iff_not]; omega
          rw [if_pos h1, if_pos h2]
          by_cases h0 : i = 0
          · subst h0
            simp [hl]
          · have h0' : ¬ ((i : Int) = 0) := by omega
            rw [if_neg h0']
            by_cases h3 : 48 ≤ x.toNat ∧ x.toNat ≤ 57
            · have : worB x = true := by simp only [worB, Bool.or_eq_true, decide_eq_true_eq]; exact .inr (.inl h3)
              simp [h3, this, h0]
            · rw [if_pos h3]
              by_cases h4 : (x.toNat : Int) = 45
              · have : worB x = true := by simp only [worB, Bool.or_eq_true, decide_eq_true_eq]; exact .inr (.inr (by omega))
                simp [h4, this, h0]
              · have : worB x = false := by simp only [worB, Bool.or_eq_false_iff, hl, decide_eq_false_iff_not, true_and]; omega
                rw [if_pos h4]
                simp [this, hl])
    (by simp only [F80_b5]; rw [if_neg (by omega)])]
  unfold nameS
  cases s with
  | nil => simp [findI, F80_k5]
  | cons c t =>
    rw [findI_cons]
    by_cases hc : letB c = true
    · have hw : worB c = true := by simp [worB, hc]
      simp only [hc, Bool.true_or, if_true]
      rw [findI_congr (g := fun _ x => if worB x = true then none else some (.inr false)) (fun i x hi => by
        have : ¬ i = 0 := by omega
        by_cases hx : letB x = true
        · have : worB x = true := by simp [worB, hx]
          simp [hx, this]
        · simp [this, hx]), findI_all]
      by_cases ha : t.all worB = true
      · simp only [ha, if_true, Option.bind_some, Sum.elim_inl, F80_k5, List.all_cons, hw, Bool.and_true]
        by_cases h2 : (1 : Int) ≤ (c :: t).length
        · rw [if_pos h2]; simp; omega
        · simp at h2; omega
      · rw [if_neg ha]
        simp [List.all_cons, Bool.eq_false_iff.2 ha]
    · have hc' : letB c = false := Bool.eq_false_iff.2 hc
      simp [hc']

set_option maxHeartbeats 4000000 in
theorem F114_eq (s : Str) (h : s.length ≤ 1000000) : F114 s = some (nameS s) := by
  have eL : ∀ x : UInt8, F145 (x.toNat : Int) = some (letB x) := fun x => by
    unfold F145 letB
    by_cases h : (97 ≤ x.toNat ∧ x.toNat ≤ 122) ∨ (65 ≤ x.toNat ∧ x.toNat ≤ 90)
    · rw [decide_eq_true h]
      repeat' split
      all_goals first | rfl | (exfalso; omega) | (congr 1; rw [decide_eq_true_eq]; omega)
    · rw [decide_eq_false h]
      repeat' split
      all_goals first | rfl | (exfalso; omega) | (congr 1; rw [decide_eq_false_iff_not]; omega)
  unfold F114 nameS
  by_cases h1 : (s.length : Int) < 1
  · rw [if_pos h1, decide_eq_false (by omega)]; simp
  · rw [if_neg h1]
    by_cases h2 : (64 : Int) < s.length
    · rw [if_pos h2, decide_eq_false (by omega)]; simp
    · rw [if_neg h2, decide_eq_true (by omega), gd_pos (by omega), eL]
      cases s with
      | nil => simp at h1
      | cons c t =>
        simp only [Option.bind_some, List.getD_cons_zero, Bool.true_and]
        by_cases hc : letB c = true
        · rw [hc, if_neg (by simp), loopO_all (c :: t) worB (by omega)
            (fun i hi => by
              simp only [F114_b12]
              rw [if_pos (by omega), gd_pos (by omega), Int.toNat_natCast, getD_some hi, eL]
              generalize (c :: t)[i] = x
              simp only [Option.bind_some]
              by_cases hx : letB x = true
              · have : worB x = true := by simp [worB, hx]
                rw [if_neg (by simpa using hx), if_pos this]
              · have hx' : letB x = false := Bool.eq_false_iff.2 hx
                rw [if_pos hx]
                by_cases hw : (48 ≤ x.toNat ∧ x.toNat ≤ 57) ∨ x.toNat = 45
                · have : worB x = true := by simp only [worB, Bool.or_eq_true, decide_eq_true_eq]; exact .inr hw
                  rw [if_pos this]
                  repeat' split
                  all_goals first | rfl | (exfalso; omega)
                · have : worB x = false := by simp only [worB, Bool.or_eq_false_iff, hx', decide_eq_false_iff_not, true_and]; exact hw
                  rw [this]
                  simp only [Bool.false_eq_true, if_false]
                  repeat' split
                  all_goals first | rfl | (exfalso; omega))
            (by simp only [F114_b12]; rw [if_neg (by omega)])]
          by_cases ha : (c :: t).all worB = true
          · simp only [ha, if_true, Option.bind_some, Sum.elim_inl, F114_k12, Bool.and_true]
          · rw [if_neg ha, Bool.eq_false_iff.2 ha]; simp
        · have hc' : letB c = false := Bool.eq_false_iff.2 hc
          simp [hc']

end Go.Idl

namespace Go.Idl

open Go

/-! ### The order of texts -/

def lt8 (a b : Str) : Prop := Op.bytesLess a b = true

instance (a b : Str) : Decidable (lt8 a b) := inferInstanceAs (Decidable (_ = true))

theorem lt8_iff (a b : Str) : lt8 a b ↔ a < b := by rw [lt8, Go.Proofs.bytesLess_eq, decide_eq_true_eq]

theorem lt8_irrefl (a : Str) : ¬ lt8 a a := by rw [lt8_iff]; exact List.lt_irrefl a

theorem lt8_trans {a b c : Str} (h : lt8 a b) (k : lt8 b c) : lt8 a c := by rw [lt8_iff] at *; exact List.lt_trans h k

theorem lt8_tri {a b : Str} (h : ¬ lt8 a b) (hne : ¬ a = b) : lt8 b a := by
  rw [lt8_iff] at *
  have h1 : b ≤ a := List.not_lt.1 h
  rcases List.le_iff_lt_or_eq.1 h1 with h2 | h2
  · exact h2
  · exact absurd h2.symm hne

abbrev Rise (l : List Str) : Prop := l.Pairwise lt8

theorem rise_uniq : ∀ {l m : List Str}, Rise l → Rise m → (∀ x, x ∈ l ↔ x ∈ m) → l = m
  | [], [], _, _, _ => rfl
  | [], y :: m, _, _, h => by have := (h y).2 (by simp); simp at this
  | x :: l, [], _, _, h => by have := (h x).1 (by simp); simp at this
  | x :: l, y :: m, hl, hm, h => by
    rw [Rise, List.pairwise_cons] at hl hm
    have hxy : x = y := by
      have h1 := (h x).1 (by simp)
      have h2 := (h y).2 (by simp)
      rcases List.mem_cons.1 h1 with h1 | h1
      · exact h1
      · rcases List.mem_cons.1 h2 with h2 | h2
        · exact h2.symm
        · exact absurd (lt8_trans (hm.1 x h1) (hl.1 y h2)) (lt8_irrefl y)
    subst hxy
    rw [rise_uniq hl.2 hm.2 fun z => ?_]
    constructor
    · intro hz
      have := (h z).1 (by simp [hz])
      rcases List.mem_cons.1 this with e | e
      · exact absurd (e ▸ hl.1 z hz) (lt8_irrefl _)
      · exact e
    · intro hz
      have := (h z).2 (by simp [hz])
      rcases List.mem_cons.1 this with e | e
      · exact absurd (e ▸ hm.1 z hz) (lt8_irrefl _)
      · exact e

theorem rise_nodup {l : List Str} (h : Rise l) : l.Nodup := by
  refine h.imp fun {a b} hab e => ?_
  subst e
  exact lt8_irrefl _ hab

theorem sortS_mem (l : List Str) (x : Str) : x ∈ sortS l ↔ x ∈ l := by simp [sortS]

theorem sortS_rise {l : List Str} (h : l.Nodup) : Rise (sortS l) := by
  have hs : (sortS l).Pairwise (fun a b => a ≤ b) := by
    have := List.pairwise_mergeSort (le := fun (x y : Str) => decide (x ≤ y)) (fun a b c h1 h2 => by simp only [decide_eq_true_eq] at *; exact List.le_trans h1 h2) (fun a b => by simp only [Bool.or_eq_true, decide_eq_true_eq]; exact List.le_total a b) l
    exact this.imp fun h => by simpa using h
  have hn : (sortS l).Nodup := (List.mergeSort_perm l _).nodup_iff.2 h
  have hb := List.pairwise_and_iff.2 ⟨hs, hn⟩
  refine hb.imp fun {a b} hab => ?_
  rw [lt8_iff]
  rcases List.le_iff_lt_or_eq.1 hab.1 with h2 | h2
  · exact h2
  · exact absurd h2 hab.2

/-! ### Tables -/

section

variable {κ β : Type} [DecidableEq κ]

theorem mget_set (m : List (κ × β)) (k : κ) (v : β) (n : κ) : mget (mset m k v) n = if n = k then some v else mget m n := by
  induction m with
  | nil =>
    simp only [mset, mget]
    by_cases h : k = n
    · simp [h]
    · rw [if_neg h, if_neg (fun e => h e.symm)]
  | cons p t ih =>
    simp only [mset]
    by_cases h : p.1 = k
    · rw [if_pos h]
      simp only [mget]
      by_cases hn : k = n
      · simp [hn]
      · rw [if_neg hn, if_neg (fun e => hn e.symm), h, if_neg hn]
    · rw [if_neg h]
      simp only [mget]
      by_cases hn : p.1 = n
      · rw [if_pos hn, if_pos hn, if_neg (fun e => h (hn.trans e))]
      · rw [if_neg hn, if_neg hn]
        exact ih

theorem mget_keys {m : List (κ × β)} {n : κ} : n ∈ m.map (·.1) ↔ (mget m n).isSome = true := by
  induction m with
  | nil => simp [mget]
  | cons p t ih =>
    simp only [List.map_cons, List.mem_cons, mget] at ih ⊢
    by_cases h : p.1 = n
    · simp [h]
    · rw [if_neg h, ← ih]
      constructor
      · rintro (e | e)
        · exact absurd e.symm h
        · exact e
      · exact .inr

theorem keys_set {m : List (κ × β)} {k : κ} {v : β} {n : κ} : n ∈ (mset m k v).map (·.1) ↔ n = k ∨ n ∈ m.map (·.1) := by
  rw [mget_keys, mget_set, mget_keys]
  by_cases h : n = k
  · simp [h]
  · simp [h]

theorem nodup_set {m : List (κ × β)} (h : (m.map (·.1)).Nodup) (k : κ) (v : β) : ((mset m k v).map (·.1)).Nodup := by
  induction m with
  | nil => simp [mset]
  | cons p t ih =>
    simp only [List.map_cons, List.nodup_cons] at h
    simp only [mset]
    by_cases hp : p.1 = k
    · rw [if_pos hp]
      simp only [List.map_cons, List.nodup_cons]
      exact ⟨hp ▸ h.1, h.2⟩
    · rw [if_neg hp]
      simp only [List.map_cons, List.nodup_cons]
      refine ⟨fun hm => ?_, ih h.2⟩
      rcases keys_set.1 hm with e | e
      · exact hp e
      · exact h.1 e

theorem mdel_sub {m : List (κ × β)} {k : κ} : (mdel m k).Sublist m := by
  induction m with
  | nil => exact .slnil
  | cons p t ih =>
    simp only [mdel]
    split
    · exact List.sublist_cons_self _ _
    · exact ih.cons_cons _

theorem nodup_del {m : List (κ × β)} (h : (m.map (·.1)).Nodup) (k : κ) : ((mdel m k).map (·.1)).Nodup := h.sublist (mdel_sub.map _)

theorem mget_del {m : List (κ × β)} (hd : (m.map (·.1)).Nodup) (k n : κ) : mget (mdel m k) n = if n = k then none else mget m n := by
  induction m with
  | nil => simp [mdel, mget]
  | cons p t ih =>
    simp only [List.map_cons, List.nodup_cons] at hd
    simp only [mdel]
    by_cases h : p.1 = k
    · rw [if_pos h]
      by_cases hn : n = k
      · subst hn
        rw [if_pos rfl]
        have := hd.1
        rw [h, mget_keys] at this
        simpa using this
      · rw [if_neg hn]
        simp only [mget]
        rw [if_neg (fun e => hn (e.symm.trans h))]
    · rw [if_neg h]
      simp only [mget]
      by_cases hn : p.1 = n
      · rw [if_pos hn, if_pos hn, if_neg (fun e => h (hn.trans e))]
      · rw [if_neg hn, if_neg hn]
        exact ih hd.2

end

/-! ### A list by rising Hrefs, and the tables -/

section

variable {α : Type} {hf uf : α → Str}

structure Tabs (hf uf : α → Str) (m : List (Str × α)) (n : List (Str × Str)) (L : List α) : Prop where
  rise : L.Pairwise fun a b => lt8 (hf a) (hf b)
  mn : (m.map (·.1)).Nodup
  nn : (n.map (·.1)).Nodup
  mg : ∀ h x, mget m h = some x ↔ x ∈ L ∧ hf x = h
  ng : ∀ u h, mget n u = some h ↔ ∃ x, x ∈ L ∧ uf x = u ∧ hf x = h
  uu : L.Pairwise fun a b => ¬ uf a = uf b

variable {m : List (Str × α)} {n : List (Str × Str)} {L : List α}

theorem Tabs.nil : Tabs hf uf [] [] [] := ⟨by simp, by simp, by simp, by simp [mget], by simp [mget], by simp⟩

theorem Tabs.hrise (t : Tabs hf uf m n L) : Rise (L.map hf) := List.pairwise_map.2 t.rise

theorem Tabs.keys (t : Tabs hf uf m n L) (h : Str) : h ∈ m.map (·.1) ↔ h ∈ L.map hf := by
  rw [mget_keys, Option.isSome_iff_exists, List.mem_map]
  exact ⟨fun ⟨x, hx⟩ => ⟨x, (t.mg h x).1 hx⟩, fun ⟨x, hx⟩ => ⟨x, (t.mg h x).2 hx⟩⟩

theorem Tabs.len (t : Tabs hf uf m n L) : m.length = L.length := by
  have := ((List.perm_ext_iff_of_nodup t.mn (rise_nodup t.hrise)).2 t.keys).length_eq
  simpa using this

theorem Tabs.sort (t : Tabs hf uf m n L) : sortS (m.map (·.1)) = L.map hf :=
  rise_uniq (sortS_rise t.mn) t.hrise fun x => by rw [sortS_mem]; exact t.keys x

theorem Tabs.inj (t : Tabs hf uf m n L) {x y : α} (hx : x ∈ L) (hy : y ∈ L) (e : hf x = hf y) : x = y := by
  have h1 := (t.mg (hf x) x).2 ⟨hx, rfl⟩
  have h2 := (t.mg (hf x) y).2 ⟨hy, e.symm⟩
  rw [h1] at h2
  exact Option.some.inj h2

theorem Tabs.injU (t : Tabs hf uf m n L) {x y : α} (hx : x ∈ L) (hy : y ∈ L) (e : uf x = uf y) : x = y := by
  have h1 := (t.ng (uf x) (hf x)).2 ⟨x, hx, rfl, rfl⟩
  have h2 := (t.ng (uf x) (hf y)).2 ⟨y, hy, e.symm, rfl⟩
  rw [h1] at h2
  exact t.inj hx hy (Option.some.inj h2)

theorem Tabs.get (t : Tabs hf uf m n L) {x : α} (hx : x ∈ L) : mget m (hf x) = some x := (t.mg _ _).2 ⟨hx, rfl⟩

theorem Tabs.getU (t : Tabs hf uf m n L) {x : α} (hx : x ∈ L) : mget n (uf x) = some (hf x) := (t.ng _ _).2 ⟨x, hx, rfl, rfl⟩

theorem Tabs.nothing (t : Tabs hf uf m n L) {h : Str} : mget m h = none ↔ ∀ x ∈ L, ¬ hf x = h := by
  rw [Option.eq_none_iff_forall_ne_some]
  exact ⟨fun q x hx e => q x ((t.mg h x).2 ⟨hx, e⟩), fun q x e => q x ((t.mg h x).1 e).1 ((t.mg h x).1 e).2⟩

theorem Tabs.nothingU (t : Tabs hf uf m n L) {u : Str} : mget n u = none ↔ ∀ x ∈ L, ¬ uf x = u := by
  rw [Option.eq_none_iff_forall_ne_some]
  exact ⟨fun q x hx e => q (hf x) ((t.ng u _).2 ⟨x, hx, e, rfl⟩), fun q h e => by obtain ⟨x, h1, h2, _⟩ := (t.ng u h).1 e; exact q x h1 h2⟩

def cutL (hf : α → Str) (h : Str) : List α → Nat
  | [] => 0
  | y :: l => if lt8 (hf y) h then cutL hf h l + 1 else 0

theorem cutL_le (h : Str) : ∀ l : List α, cutL hf h l ≤ l.length
  | [] => Nat.le_refl _
  | y :: l => by
    have := cutL_le h l
    simp only [cutL, List.length_cons]
    split <;> omega

def insL (hf : α → Str) (x : α) (l : List α) : List α := l.take (cutL hf (hf x) l) ++ x :: l.drop (cutL hf (hf x) l)

theorem insL_mem {x y : α} {l : List α} : y ∈ insL hf x l ↔ y = x ∨ y ∈ l := by
  conv => rhs; rw [← List.take_append_drop (cutL hf (hf x) l) l]
  simp only [insL, List.mem_append, List.mem_cons]
  constructor
  · rintro (h | h | h)
    · exact .inr (.inl h)
    · exact .inl h
    · exact .inr (.inr h)
  · rintro (h | h | h)
    · exact .inr (.inl h)
    · exact .inl h
    · exact .inr (.inr h)

theorem insL_len (x : α) (l : List α) : (insL hf x l).length = l.length + 1 := by
  have := cutL_le (hf := hf) (hf x) l
  simp only [insL, List.length_append, List.length_cons, List.length_take, List.length_drop]
  omega

theorem insL_cons (x y : α) (l : List α) : insL hf x (y :: l) = if lt8 (hf y) (hf x) then y :: insL hf x l else x :: y :: l := by
  unfold insL
  simp only [cutL]
  split
  · simp
  · simp

theorem insL_rise {x : α} : ∀ {l : List α}, (l.Pairwise fun a b => lt8 (hf a) (hf b)) → (∀ y ∈ l, ¬ hf y = hf x) → (insL hf x l).Pairwise fun a b => lt8 (hf a) (hf b)
  | [], _, _ => by simp [insL, cutL]
  | y :: l, h, hn => by
    rw [List.pairwise_cons] at h
    rw [insL_cons]
    split
    · rename_i hy
      rw [List.pairwise_cons]
      refine ⟨fun z hz => ?_, insL_rise h.2 fun z hz => hn z (by simp [hz])⟩
      rcases insL_mem.1 hz with e | e
      · exact e ▸ hy
      · exact h.1 z e
    · rename_i hy
      have hxy := lt8_tri hy (hn y (by simp))
      rw [List.pairwise_cons, List.pairwise_cons]
      refine ⟨fun z hz => ?_, h⟩
      rcases List.mem_cons.1 hz with e | e
      · exact e ▸ hxy
      · exact lt8_trans hxy (h.1 z e)

theorem insL_perm (x : α) (l : List α) : (insL hf x l).Perm (x :: l) := by
  conv => rhs; rw [← List.take_append_drop (cutL hf (hf x) l) l]
  exact List.perm_middle

theorem Tabs.add (t : Tabs hf uf m n L) {x : α} (h1 : ∀ y ∈ L, ¬ hf y = hf x) (h2 : ∀ y ∈ L, ¬ uf y = uf x) : Tabs hf uf (mset m (hf x) x) (mset n (uf x) (hf x)) (insL hf x L) := by
  refine ⟨insL_rise t.rise h1, nodup_set t.mn _ _, nodup_set t.nn _ _, fun h y => ?_, fun u h => ?_, ?_⟩
  · rw [mget_set, insL_mem]
    by_cases e : h = hf x
    · rw [if_pos e]
      constructor
      · rintro q; cases q; exact ⟨.inl rfl, e.symm⟩
      · rintro ⟨q | q, q2⟩
        · rw [q]
        · exact absurd (q2.trans e) (h1 y q)
    · rw [if_neg e, t.mg]
      constructor
      · rintro ⟨q, q2⟩; exact ⟨.inr q, q2⟩
      · rintro ⟨q | q, q2⟩
        · subst q; exact absurd q2.symm e
        · exact ⟨q, q2⟩
  · rw [mget_set]
    by_cases e : u = uf x
    · rw [if_pos e]
      constructor
      · rintro q; cases q; exact ⟨x, insL_mem.2 (.inl rfl), e.symm, rfl⟩
      · rintro ⟨y, q, q2, q3⟩
        rcases insL_mem.1 q with q | q
        · subst q; rw [q3]
        · exact absurd (q2.trans e) (h2 y q)
    · rw [if_neg e, t.ng]
      constructor
      · rintro ⟨y, q, q2⟩; exact ⟨y, insL_mem.2 (.inr q), q2⟩
      · rintro ⟨y, q, q2, q3⟩
        rcases insL_mem.1 q with q | q
        · subst q; exact absurd q2.symm e
        · exact ⟨y, q, q2, q3⟩
  · refine (insL_perm x L).pairwise_iff (fun {a b} h e => h e.symm) |>.2 ?_
    rw [List.pairwise_cons]
    exact ⟨fun y hy e => h2 y hy e.symm, t.uu⟩

theorem Tabs.set (t : Tabs hf uf m n L) {k : Nat} (hk : k < L.length) {x : α} (h1 : hf x = hf L[k]) (h2 : uf x = uf L[k]) : Tabs hf uf (mset m (hf x) x) (mset n (uf x) (hf x)) (L.set k x) := by
  have hm : L.map hf = (L.set k x).map hf := by
    rw [List.map_set, h1]
    apply List.ext_getElem
    · simp
    · intro i q q2
      simp only [List.getElem_map, List.getElem_set]
      split
      · rename_i e; subst e; rfl
      · rfl
  have hu : L.map uf = (L.set k x).map uf := by
    rw [List.map_set, h2]
    apply List.ext_getElem
    · simp
    · intro i q q2
      simp only [List.getElem_map, List.getElem_set]
      split
      · rename_i e; subst e; rfl
      · rfl
  have hmem : ∀ y, y ∈ L.set k x ↔ y = x ∨ (y ∈ L ∧ ¬ hf y = hf x) := by
    intro y
    constructor
    · intro hy
      obtain ⟨i, hi, e⟩ := List.getElem_of_mem hy
      simp only [List.length_set] at hi
      rw [List.getElem_set] at e
      split at e
      · exact .inl e.symm
      · rename_i ne
        subst e
        refine .inr ⟨List.getElem_mem _, fun e => ne ?_⟩
        rw [h1] at e
        have := List.getElem_inj (rise_nodup t.hrise) (i := i) (j := k) (h₀ := by simpa using hi) (h₁ := by simpa using hk)
        simp only [List.getElem_map] at this
        exact (this.1 e).symm
    · rintro (e | ⟨q, q2⟩)
      · subst e
        exact List.mem_set hk y
      · obtain ⟨i, hi, e⟩ := List.getElem_of_mem q
        have hne : ¬ k = i := by
          intro e2
          subst e2
          subst e
          exact q2 h1.symm
        have : (L.set k x)[i]'(by simpa using hi) = y := by rw [List.getElem_set, if_neg hne, e]
        rw [← this]
        exact List.getElem_mem _
  have hLk : L[k] ∈ L := List.getElem_mem _
  refine ⟨?_, nodup_set t.mn _ _, nodup_set t.nn _ _, fun h y => ?_, fun u h => ?_, ?_⟩
  · have := t.hrise; rw [hm] at this; exact List.pairwise_map.1 this
  · rw [mget_set, hmem]
    by_cases e : h = hf x
    · rw [if_pos e]
      constructor
      · rintro q; cases q; exact ⟨.inl rfl, e.symm⟩
      · rintro ⟨q | q, q2⟩
        · rw [q]
        · exact absurd (q2.trans e) q.2
    · rw [if_neg e, t.mg]
      constructor
      · rintro ⟨q, q2⟩; exact ⟨.inr ⟨q, fun q3 => e (q2.symm.trans q3)⟩, q2⟩
      · rintro ⟨q | q, q2⟩
        · subst q; exact absurd q2.symm e
        · exact ⟨q.1, q2⟩
  · rw [mget_set]
    by_cases e : u = uf x
    · rw [if_pos e]
      constructor
      · rintro q; cases q; exact ⟨x, (hmem _).2 (.inl rfl), e.symm, rfl⟩
      · rintro ⟨y, q, q2, q3⟩
        rcases (hmem _).1 q with q | q
        · subst q; rw [q3]
        · have := t.injU q.1 hLk (q2.trans (e.trans h2))
          exact absurd (this ▸ h1.symm) q.2
    · rw [if_neg e, t.ng]
      constructor
      · rintro ⟨y, q, q2, q3⟩
        refine ⟨y, (hmem _).2 (.inr ⟨q, fun q4 => e ?_⟩), q2, q3⟩
        have := t.inj q hLk (q4.trans h1)
        subst this
        exact q2.symm.trans h2.symm
      · rintro ⟨y, q, q2, q3⟩
        rcases (hmem _).1 q with q | q
        · subst q; exact absurd q2.symm e
        · exact ⟨y, q.1, q2, q3⟩
  · have h3 : (L.map uf).Pairwise fun a b => ¬ a = b := List.pairwise_map.2 t.uu
    rw [hu] at h3
    exact List.pairwise_map.1 h3

theorem Tabs.drop (t : Tabs hf uf m n L) {k : Nat} (hk : k < L.length) : Tabs hf uf (mdel m (hf L[k])) (mdel n (uf L[k])) (L.take k ++ L.drop (k + 1)) := by
  have hLk : L[k] ∈ L := List.getElem_mem _
  have hs : (L.take k ++ L.drop (k + 1)).Sublist L := by
    conv => rhs; rw [← List.take_append_drop k L, List.drop_eq_getElem_cons hk]
    exact List.Sublist.append_left (List.sublist_cons_self _ _) _
  have hmem : ∀ y, y ∈ L.take k ++ L.drop (k + 1) ↔ (y ∈ L ∧ ¬ hf y = hf L[k]) := by
    intro y
    have hp : L.Perm (L[k] :: (L.take k ++ L.drop (k + 1))) := by
      conv => lhs; rw [← List.take_append_drop k L, List.drop_eq_getElem_cons hk]
      exact List.perm_middle
    have hr : (L[k] :: (L.take k ++ L.drop (k + 1))).Pairwise fun a b => ¬ hf a = hf b := by
      refine (hp.pairwise_iff (fun {a b} h e => h e.symm)).1 ?_
      refine t.rise.imp fun {a b} h e => ?_
      rw [e] at h
      exact lt8_irrefl _ h
    rw [List.pairwise_cons] at hr
    constructor
    · intro hy
      exact ⟨hs.subset hy, fun e => hr.1 y hy e.symm⟩
    · rintro ⟨q, q2⟩
      rcases List.mem_cons.1 (hp.mem_iff.1 q) with e | e
      · exact absurd (by rw [e]) q2
      · exact e
  refine ⟨t.rise.sublist hs, nodup_del t.mn _, nodup_del t.nn _, fun h y => ?_, fun u h => ?_, t.uu.sublist hs⟩
  · rw [mget_del t.mn, hmem]
    by_cases e : h = hf L[k]
    · rw [if_pos e]
      constructor
      · intro q; cases q
      · rintro ⟨q, q2⟩; exact absurd (q2.trans e) q.2
    · rw [if_neg e, t.mg]
      constructor
      · rintro ⟨q, q2⟩; exact ⟨⟨q, fun q3 => e (q2.symm.trans q3)⟩, q2⟩
      · rintro ⟨q, q2⟩; exact ⟨q.1, q2⟩
  · rw [mget_del t.nn]
    by_cases e : u = uf L[k]
    · rw [if_pos e]
      constructor
      · intro q; cases q
      · rintro ⟨y, q, q2, q3⟩
        have := t.injU ((hmem y).1 q).1 hLk (q2.trans e)
        exact absurd (by rw [this]) ((hmem y).1 q).2
    · rw [if_neg e, t.ng]
      constructor
      · rintro ⟨y, q, q2, q3⟩
        refine ⟨y, (hmem _).2 ⟨q, fun q4 => e ?_⟩, q2, q3⟩
        have := t.inj q hLk q4
        subst this
        exact q2.symm
      · rintro ⟨y, q, q2, q3⟩; exact ⟨y, ((hmem y).1 q).1, q2, q3⟩

end

/-! ### Where something stands -/

section

variable {α : Type}

def idxL (p : α → Bool) (l : List α) : Int := match l.findIdx? p with | some i => (i : Int) | none => -1

theorem idxL_cases (p : α → Bool) (l : List α) : (idxL p l = -1 ∧ ∀ x ∈ l, p x = false) ∨ ∃ k : Nat, ∃ h : k < l.length, idxL p l = (k : Int) ∧ p l[k] = true := by
  unfold idxL
  cases hf : l.findIdx? p with
  | none => exact .inl ⟨rfl, List.findIdx?_eq_none_iff.1 hf⟩
  | some k =>
    obtain ⟨h1, h2, _⟩ := List.findIdx?_eq_some_iff_getElem.1 hf
    exact .inr ⟨k, h1, rfl, h2⟩

end

end Go.Idl

namespace Go.Idl

open Go

/-! ### Names of entries -/

def rdnB (x : S89) : Bool := nameS x.fType && decide (x.fType.map lowB = x.fType) && decide (1 ≤ x.fValue.length ∧ x.fValue.length ≤ 200)

def rightD (d : List S89) : Bool := decide (d.length ≤ 16) && d.all rdnB

def bigD (d : List S89) : Prop := d.length ≤ 1000000 ∧ ∀ x, x ∈ d → x.fType.length ≤ 1000000 ∧ x.fValue.length ≤ 1000000

theorem F81_eq (s : Str) (h : s.length ≤ 1000000) : F81 s = some (s.map lowB) := gd_pos (by omega)

theorem F79_eq (x : S89) (h : x.fType.length ≤ 1000000 ∧ x.fValue.length ≤ 1000000) : F79 x = some (rdnB x) := by
  unfold F79 rdnB
  rw [F80_eq _ h.1, F81_eq _ h.1]
  simp only [Option.bind_some]
  by_cases h1 : nameS x.fType = true
  · rw [if_pos h1, h1]
    by_cases h2 : x.fType.map lowB = x.fType
    · rw [if_pos h2, decide_eq_true h2]
      by_cases h3 : (1 : Int) ≤ x.fValue.length
      · rw [if_pos h3]; congr 1; simp only [Bool.true_and]; rw [decide_eq_decide]; omega
      · rw [if_neg h3, decide_eq_false (p := 1 ≤ x.fValue.length ∧ _) (by omega)]; rfl
    · rw [if_neg h2, decide_eq_false h2]; simp
  · rw [if_neg h1, Bool.eq_false_iff.2 h1]; simp

theorem F120_eq (d : List S89) (h : bigD d) : F120 d = some (!d.all rdnB) := by
  unfold F120 F149
  obtain ⟨j, hj, hf⟩ := findI_idx rdnB d 0
  rw [loopO_find d (fun i x => if rdnB x = true then none else some (.inr (i : Int))) (.inl ()) (by have := h.1; omega)
    (fun i hi => by
      simp only [F149_b4, F121]
      rw [if_pos (by omega), gd_pos (by omega), Int.toNat_natCast, getD_some hi, F79_eq _ (h.2 _ (List.getElem_mem _))]
      simp only [Option.bind_some]
      cases rdnB d[i] <;> simp)
    (by simp only [F149_b4]; rw [if_neg (by omega)]), hf]
  by_cases h1 : d.all rdnB = true
  · rw [if_pos h1, h1]; simp [F149_k4]
  · rw [if_neg h1, Bool.eq_false_iff.2 h1]; simp [hj]

theorem F54_eq (d : List S89) (h : bigD d) : F54 d = some (if rightD d = true then 0 else 2) := by
  unfold F54 rightD
  by_cases h1 : (16 : Int) < d.length
  · rw [if_pos h1, decide_eq_false (by omega)]; simp
  · rw [if_neg h1, decide_eq_true (by omega)]
    unfold F82
    rw [F120_eq d h]
    simp only [Option.bind_some, Bool.not_not, Bool.true_and]
    by_cases h2 : d.all rdnB = true
    · rw [if_neg (by simpa using h2), if_pos h2]
    · rw [if_pos h2, if_neg h2]

theorem runI_map {f : UInt8 → UInt8} : ∀ (l acc : Str) (k : Nat), runI (fun _ (a : Str) x => (.inl (a ++ [f x]) : Str ⊕ Str)) id k acc l = acc ++ l.map f
  | [], acc, _ => by simp [runI]
  | x :: l, acc, k => by
    rw [runI_cons]
    simp only
    rw [runI_map l]
    simp

theorem F115_eq (s : Str) (h : s.length ≤ 1000000) : F115 s = some (s.map lowB) := by
  unfold F115
  have key := loopO_run (l := s) (step := fun (s_1 : Str × Int) => F115_b5 s s_1.1 s_1.2) (fun _ (a : Str) x => (.inl (a ++ [lowB x]) : Str ⊕ Str)) id (fun i a => a.length = i) (a := []) (by omega) rfl
    (fun i hi a hI => by
      simp only [F115_b5]
      rw [if_pos (by omega), gd_pos (by omega), Int.toNat_natCast, getD_some hi]
      generalize s[i] = x
      obtain ⟨e1, e2⟩ := lowB_int x
      have hx := x.toNat_lt
      by_cases h1 : (65 : Int) ≤ x.toNat
      · rw [if_pos h1]
        by_cases h2 : (x.toNat : Int) ≤ 90
        · have hw : IntKind.u8.wrap ((x.toNat : Int) + 32) = (x.toNat : Int) + 32 := wrap_u8 (by omega) (by omega)
          have e3 := e1 ⟨h1, h2⟩
          rw [if_pos h2, hw, gd_pos (by omega), gd_pos (by simp; omega)]
          have e4 : ((x.toNat : Int) + 32).toNat = (lowB x).toNat := by omega
          rw [e4, UInt8.ofNat_toNat]
        · rw [if_neg h2, gd_pos (by omega), gd_pos (by simp; omega), Int.toNat_natCast, UInt8.ofNat_toNat, e2 (by omega)]
      · rw [if_neg h1, gd_pos (by omega), gd_pos (by simp; omega), Int.toNat_natCast, UInt8.ofNat_toNat, e2 (by omega)])
    (fun i hi a a' hI e => by cases e; simp [hI])
    (fun a hI => by simp only [F115_b5]; rw [if_neg (by omega)]; rfl)
  rw [key, runI_map]
  simp [F115_k5]

theorem F73_eq (d : List S89) (h : bigD d) : F73 d = some (rightD d) := by
  unfold F73 rightD
  by_cases h1 : (16 : Int) < d.length
  · rw [if_pos h1, decide_eq_false (by omega)]; simp
  · rw [if_neg h1, decide_eq_true (by omega), loopO_all d rdnB (by omega)
      (fun i hi => by
        have hb := h.2 _ (List.getElem_mem hi)
        simp only [F73_b8]
        rw [if_pos (by omega), gd_pos (by omega), Int.toNat_natCast, getD_some hi, F114_eq _ hb.1, F115_eq _ hb.1]
        simp only [Option.bind_some]
        unfold rdnB
        by_cases a1 : nameS d[i].fType = true
        · rw [if_neg (by simpa using a1), a1]
          by_cases a2 : (d[i].fValue.length : Int) < 1
          · rw [if_pos a2, decide_eq_false (p := 1 ≤ d[i].fValue.length ∧ _) (by omega)]; simp
          · rw [if_neg a2]
            by_cases a3 : (200 : Int) < d[i].fValue.length
            · rw [if_pos a3, decide_eq_false (p := 1 ≤ d[i].fValue.length ∧ _) (by omega)]; simp
            · rw [if_neg a3, decide_eq_true (p := 1 ≤ d[i].fValue.length ∧ _) (by omega)]
              by_cases a4 : d[i].fType.map lowB = d[i].fType
              · rw [if_neg (by simpa using a4), decide_eq_true a4]; simp
              · rw [if_pos a4, decide_eq_false a4]; simp
        · rw [if_pos a1, Bool.eq_false_iff.2 a1]; simp)
      (by simp only [F73_b8]; rw [if_neg (by omega)])]
    by_cases h2 : d.all rdnB = true
    · simp [h2, F73_k8]
    · rw [if_neg h2, Bool.eq_false_iff.2 h2]; simp

/-! ### Sameness -/

theorem F51_eq (a b : List S89) (ha : a.length ≤ 1000000) : F51 a b = some (decide (a = b)) := by
  unfold F51
  by_cases hl : (a.length : Int) = b.length
  · rw [if_neg (by simpa using hl)]
    have hl' : a.length = b.length := by omega
    obtain ⟨r, h1, h2⟩ := loopO_for (step := fun (s : Int) => F51_b8 a b s) (Post := fun y => (y = .inl () ∧ a = b) ∨ (y = .inr false ∧ ¬ a = b)) a.length (fun i => a.take i = b.take i) (by simp)
      (fun i hi hI => by
        have hw := wrap_nat (i := i) (by omega)
        have hib : i < b.length := by omega
        simp only [F51_b8]
        rw [if_pos (by omega), gd_pos (by omega), gd_pos (by omega), Int.toNat_natCast, getD_some hi, getD_some hib, hw]
        by_cases e : a[i].fType = b[i].fType ∧ a[i].fValue = b[i].fValue
        · rw [if_neg (by simpa using e)]
          refine .inl ⟨rfl, ?_⟩
          have e' : a[i] = b[i] := by
            cases ha' : a[i] with | mk t v => cases hb' : b[i] with | mk t' v' => rw [ha', hb'] at e; simp at e; rw [e.1, e.2]
          rw [List.take_succ_eq_append_getElem hi, List.take_succ_eq_append_getElem hib, hI, e']
        · rw [if_pos e]
          refine .inr ⟨_, rfl, .inr ⟨rfl, fun q => e ?_⟩⟩
          subst q
          exact ⟨rfl, rfl⟩)
      (fun hI => by
        simp only [F51_b8]
        rw [if_neg (by omega)]
        refine ⟨_, rfl, .inl ⟨rfl, ?_⟩⟩
        rwa [List.take_of_length_le (Nat.le_refl _), List.take_of_length_le (by omega)] at hI)
    rw [h1]
    rcases h2 with ⟨rfl, h⟩ | ⟨rfl, h⟩
    · simp [F51_k8, h]
    · simp [h]
  · rw [if_pos hl, decide_eq_false (fun e => hl (by rw [e]))]

theorem F48_eq (a b : List (List Str)) (ha : a.length = 8) (hb : b.length = 8) : F48 a b = some (decide (a = b)) := gd_pos ⟨ha, hb⟩

theorem F19_eq (a b : S39) (ha : a.fShadow.length = 8) (hb : b.fShadow.length = 8) : F19 a b = some (decide (a = b)) := by
  unfold F19
  rw [gd_pos ha, gd_pos hb, F48_eq _ _ ha hb]
  obtain ⟨h, u, s⟩ := a
  obtain ⟨h', u', s'⟩ := b
  simp only [S39.mk.injEq, Option.bind_some]
  by_cases e1 : h = h'
  · by_cases e2 : u = u'
    · simp [e1, e2]
    · simp [e1, e2]
  · simp [e1]

theorem F25_eq (a b : S33) (ha : a.fShadow.length = 8) (hb : b.fShadow.length = 8) (hd : a.fDn.length ≤ 1000000) : F25 a b = some (decide (a = b)) := by
  unfold F25
  rw [gd_pos ha, gd_pos hb, F48_eq _ _ ha hb, F51_eq _ _ hd]
  obtain ⟨h, u, d, s⟩ := a
  obtain ⟨h', u', d', s'⟩ := b
  simp only [S33.mk.injEq, Option.bind_some]
  by_cases e1 : h = h'
  · by_cases e2 : u = u'
    · by_cases e3 : d = d'
      · simp [e1, e2, e3]
      · simp [e1, e2, e3]
    · simp [e1, e2]
  · simp [e1]

/-! ### Places -/

theorem findI_place {α : Type} (p : α → Bool) : ∀ (l : List α) (k : Nat), findI (fun i x => if p x = true then some (.inr (i : Int)) else none) (.inl ()) k l = (match l.findIdx? p with | some j => (.inr ((k + j : Nat) : Int) : Unit ⊕ Int) | none => .inl ())
  | [], k => by simp [findI]
  | x :: l, k => by
    rw [findI_cons, List.findIdx?_cons]
    by_cases h : p x = true
    · simp [h]
    · simp only [h, if_false, Bool.false_eq_true]
      rw [findI_place p l (k + 1)]
      cases l.findIdx? p with
      | none => rfl
      | some j => simp; omega

def cardI (l : List S39) (h : Str) : Int := idxL (fun x : S39 => decide (x.fHref = h)) l

def entI (l : List S39) (u : Str) : Int := idxL (fun x : S39 => decide (x.fUuid = u)) l

theorem F15_eq (l : List S39) (h : Str) (hl : l.length ≤ 1000000) : F15 l h = some (cardI l h) := by
  unfold F15
  rw [loopO_find l (fun i x => if decide (x.fHref = h) = true then some (.inr (i : Int)) else none) (.inl ()) (by omega)
    (fun i hi => by
      simp only [F15_b4]
      rw [if_pos (by omega), gd_pos (by omega), Int.toNat_natCast, getD_some hi]
      by_cases e : l[i].fHref = h <;> simp [e])
    (by simp only [F15_b4]; rw [if_neg (by omega)]), findI_place]
  unfold cardI idxL
  cases l.findIdx? (fun x : S39 => decide (x.fHref = h)) with
  | none => simp [F15_k4]
  | some j => simp

theorem F16_eq (l : List S39) (u : Str) (hl : l.length ≤ 1000000) : F16 l u = some (entI l u) := by
  unfold F16
  rw [loopO_find l (fun i x => if decide (x.fUuid = u) = true then some (.inr (i : Int)) else none) (.inl ()) (by omega)
    (fun i hi => by
      simp only [F16_b4]
      rw [if_pos (by omega), gd_pos (by omega), Int.toNat_natCast, getD_some hi]
      by_cases e : l[i].fUuid = u <;> simp [e])
    (by simp only [F16_b4]; rw [if_neg (by omega)]), findI_place]
  unfold entI idxL
  cases l.findIdx? (fun x : S39 => decide (x.fUuid = u)) with
  | none => simp [F16_k4]
  | some j => simp

end Go.Idl

namespace Go.Idl

open Go

abbrev Mp := List (Str × S39)

abbrev Np := List (Str × Str)

/-! ### The list's steps -/

def goodB (x : S39) : Bool := hrefS x.fHref && uuidS x.fUuid && checkS x.fShadow

def addD (L : List S39) (x : S39) : List S39 × Int :=
  if goodB x = true then (if 0 ≤ cardI L x.fHref then (L, 300) else if 0 ≤ entI L x.fUuid then (L, 300) else if 64 ≤ (L.length : Int) then (L, 3) else (insL (·.fHref) x L, 0)) else (L, 2)

def setD (L : List S39) (h : Str) (c : List (List Str)) : List S39 × Int :=
  if checkS c = true then (if cardI L h < 0 then (L, 5) else (L.set (cardI L h).toNat ⟨(L.getD (cardI L h).toNat S39.zero).fHref, (L.getD (cardI L h).toNat S39.zero).fUuid, c⟩, 0)) else (L, 2)

def dropD (L : List S39) (h : Str) : List S39 × Int :=
  if cardI L h < 0 then (L, 5) else (L.take (cardI L h).toNat ++ L.drop ((cardI L h).toNat + 1), 0)

def rightPr (y : S33) : Bool := ((uuidS y.fUuid && decide (y.fDn = [])) || (decide (y.fUuid = []) && (decide (¬ y.fDn = []) && rightD y.fDn))) && (hrefS y.fHref && checkS y.fShadow)

def proA (a : S41) : S33 := ⟨a.fPairing.fHref, a.fPairing.fUuid, a.fDn, a.fPairing.fShadow⟩

def stepD (d : S35) (a : S41) : S35 × Int :=
  if a.fKind = 1 then (⟨(addD d.fL a.fPairing).1, d.fP⟩, (addD d.fL a.fPairing).2)
  else if a.fKind = 2 then (⟨(setD d.fL a.fPairing.fHref a.fPairing.fShadow).1, d.fP⟩, (setD d.fL a.fPairing.fHref a.fPairing.fShadow).2)
  else if a.fKind = 3 then (⟨(dropD d.fL a.fPairing.fHref).1, d.fP⟩, (dropD d.fL a.fPairing.fHref).2)
  else if a.fKind = 4 then (if rightPr (proA a) = true then (⟨d.fL, proA a⟩, 0) else (d, 2))
  else if a.fKind = 5 then (⟨d.fL, S33.zero⟩, 0)
  else (d, 0)

/-! ### Bounds -/

def okX (x : S39) : Prop := x.fHref.length ≤ 1000000 ∧ x.fUuid.length ≤ 1000000 ∧ bigC x.fShadow

def okA (a : S41) : Prop := okX a.fPairing ∧ bigD a.fDn

theorem cardI_pos (L : List S39) (h : Str) : (0 ≤ cardI L h ∧ ∃ hk : (cardI L h).toNat < L.length, L[(cardI L h).toNat].fHref = h) ∨ (cardI L h = -1 ∧ ∀ x ∈ L, ¬ x.fHref = h) := by
  unfold cardI
  rcases idxL_cases (fun x : S39 => decide (x.fHref = h)) L with ⟨h1, h2⟩ | ⟨k, hk, h1, h2⟩
  · exact .inr ⟨h1, fun x hx => by simpa using h2 x hx⟩
  · refine .inl ⟨by omega, ?_⟩
    have e : (idxL (fun x : S39 => decide (x.fHref = h)) L).toNat = k := by omega
    simp only [e]
    exact ⟨hk, by simpa using h2⟩

theorem entI_pos (L : List S39) (u : Str) : (0 ≤ entI L u ∧ ∃ hk : (entI L u).toNat < L.length, L[(entI L u).toNat].fUuid = u) ∨ (entI L u = -1 ∧ ∀ x ∈ L, ¬ x.fUuid = u) := by
  unfold entI
  rcases idxL_cases (fun x : S39 => decide (x.fUuid = u)) L with ⟨h1, h2⟩ | ⟨k, hk, h1, h2⟩
  · exact .inr ⟨h1, fun x hx => by simpa using h2 x hx⟩
  · refine .inl ⟨by omega, ?_⟩
    have e : (idxL (fun x : S39 => decide (x.fUuid = u)) L).toNat = k := by omega
    simp only [e]
    exact ⟨hk, by simpa using h2⟩

/-! ### The reference -/

theorem loop_cut (L : List S39) (x : S39) (hl : L.length ≤ 1000000) : loopO (fun (s : Int) => F38_b24 L x s) 0 = some ((cutL (·.fHref) x.fHref L : Nat) : Int) := by
  obtain ⟨r, h1, h2⟩ := loopO_for (step := fun (s : Int) => F38_b24 L x s) (Post := fun y => y = ((cutL (·.fHref) x.fHref L : Nat) : Int)) L.length (fun i => cutL (·.fHref) x.fHref L = i + cutL (·.fHref) x.fHref (L.drop i)) (by simp)
    (fun i hi hI => by
      have hw := wrap_nat (i := i) (by omega)
      simp only [F38_b24]
      rw [if_pos (by omega), gd_pos (by omega), Int.toNat_natCast, getD_some hi, hw]
      rw [List.drop_eq_getElem_cons hi] at hI
      simp only [cutL] at hI
      by_cases h : Op.bytesLess L[i].fHref x.fHref = true
      · rw [if_pos h]
        rw [if_pos (show lt8 L[i].fHref x.fHref from h)] at hI
        exact .inl ⟨rfl, by rw [hI]; omega⟩
      · rw [if_neg h]
        rw [if_neg (show ¬ lt8 L[i].fHref x.fHref from h)] at hI
        exact .inr ⟨_, rfl, by rw [hI]; simp⟩)
    (fun hI => by
      simp only [F38_b24]
      rw [if_neg (by omega)]
      refine ⟨_, rfl, ?_⟩
      rw [hI, List.drop_length]
      simp [cutL])
  rw [h1, h2]

theorem F38_eq (L : List S39) (x : S39) (hl : L.length ≤ 1000000) (hx : okX x) : F38 L x = some (addD L x) := by
  obtain ⟨h1, h2, h3⟩ := hx
  unfold F38 addD goodB
  rw [gd_pos h3.1, F71_eq _ h1, F72_eq _ h2, F17_eq _ h3, F15_eq _ _ hl, F16_eq _ _ hl, loop_cut L x hl]
  simp only [Option.bind_some]
  by_cases a1 : hrefS x.fHref = true
  · rw [if_neg (by simpa using a1)]
    by_cases a2 : uuidS x.fUuid = true
    · rw [if_neg (by simpa using a2)]
      by_cases a3 : checkS x.fShadow = true
      · rw [if_neg (by simpa using a3), if_pos (c := (hrefS x.fHref && uuidS x.fUuid && checkS x.fShadow) = true) (by simp [a1, a2, a3])]
        by_cases a4 : 0 ≤ cardI L x.fHref
        · rw [if_pos a4, if_pos a4]
        · rw [if_neg a4, if_neg a4]
          by_cases a5 : 0 ≤ entI L x.fUuid
          · rw [if_pos a5, if_pos a5]
          · rw [if_neg a5, if_neg a5]
            by_cases a6 : (64 : Int) ≤ L.length
            · rw [if_pos a6, if_pos a6]
            · rw [if_neg a6, if_neg a6]
              have hc := cutL_le (hf := fun x : S39 => x.fHref) x.fHref L
              unfold F38_k24
              rw [gd_pos (by omega), gd_pos (by omega), Int.toNat_natCast, gd_pos (by simp; omega), gd_pos (by simp; omega), gd_pos (by simp; omega)]
              simp [insL]
      · rw [if_pos a3, if_neg (c := (hrefS x.fHref && uuidS x.fUuid && checkS x.fShadow) = true) (by simp [a3])]
    · rw [if_pos a2, if_neg (c := (hrefS x.fHref && uuidS x.fUuid && checkS x.fShadow) = true) (by simp [a2])]
  · rw [if_pos a1, if_neg (c := (hrefS x.fHref && uuidS x.fUuid && checkS x.fShadow) = true) (by simp [a1])]

theorem F39_eq (L : List S39) (h : Str) (c : List (List Str)) (hl : L.length ≤ 1000000) (hL : ∀ x ∈ L, x.fShadow.length = 8) (hc : bigC c) : F39 L h c = some (setD L h c) := by
  unfold F39 setD
  rw [gd_pos hc.1, F15_eq _ _ hl, F17_eq _ hc]
  simp only [Option.bind_some]
  by_cases a1 : checkS c = true
  · rw [if_neg (by simpa using a1), if_pos a1]
    by_cases a2 : cardI L h < 0
    · rw [if_pos a2, if_pos a2]
    · rw [if_neg a2, if_neg a2]
      rcases cardI_pos L h with ⟨q, hk, _⟩ | ⟨q, _⟩
      · rw [gd_pos (by omega), gd_pos (by omega), gd_pos (by rw [getD_some hk]; exact hL _ (List.getElem_mem _))]
      · omega
  · rw [if_pos a1, if_neg a1]

theorem F40_eq' (L : List S39) (h : Str) (hl : L.length ≤ 1000000) : F40 L h = some (dropD L h) := by
  unfold F40 dropD
  rw [F15_eq _ _ hl]
  simp only [Option.bind_some]
  by_cases a2 : cardI L h < 0
  · rw [if_pos a2, if_pos a2]
  · rw [if_neg a2, if_neg a2]
    rcases cardI_pos L h with ⟨q, hk, _⟩ | ⟨q, _⟩
    · have hw : IntKind.i64.wrap (cardI L h + 1) = (((cardI L h).toNat + 1 : Nat) : Int) := by
        rw [wrap_i64 (by omega) (by omega)]; omega
      rw [hw, gd_pos (by omega), gd_pos (by omega), gd_pos (by omega), gd_pos (by omega), Int.toNat_natCast, gd_pos (by simp; omega), gd_pos (by simp; omega)]
    · omega

theorem F41_eq (y : S33) (h1 : y.fHref.length ≤ 1000000) (h2 : y.fUuid.length ≤ 1000000) (hd : bigD y.fDn) (hc : bigC y.fShadow) : F41 y = some (rightPr y) := by
  unfold F41 rightPr
  rw [gd_pos hc.1, F72_eq _ h2, F71_eq _ h1, F17_eq _ hc, F73_eq _ hd]
  simp only [Option.bind_some]
  have hz : ((y.fDn.length : Int) = 0) ↔ y.fDn = [] := by rw [← List.length_eq_zero_iff]; omega
  have hp : ((0 : Int) < y.fDn.length) ↔ ¬ y.fDn = [] := by rw [← List.length_eq_zero_iff]; omega
  by_cases a1 : uuidS y.fUuid = true
  · rw [if_pos a1, a1]
    by_cases a2 : y.fDn = []
    · rw [if_pos (hz.2 a2)]
      by_cases a3 : hrefS y.fHref = true
      · rw [if_pos a3]; simp [a2, a3]
      · rw [if_neg a3]; simp [a2, a3]
    · rw [if_neg (fun e => a2 (hz.1 e))]
      have hu : ¬ y.fUuid = [] := by
        intro e
        rw [e] at a1
        simp [uuidS] at a1
      rw [if_neg hu]
      simp [a2, hu]
  · rw [if_neg a1]
    by_cases a2 : y.fUuid = []
    · rw [if_pos a2]
      by_cases a3 : y.fDn = []
      · rw [if_neg (fun e => hp.1 e a3)]
        simp [a1, a3]
      · rw [if_pos (hp.2 a3)]
        by_cases a4 : rightD y.fDn = true
        · rw [if_pos a4]
          by_cases a5 : hrefS y.fHref = true
          · rw [if_pos a5]; simp [a1, a2, a3, a4, a5]
          · rw [if_neg a5]; simp [a5]
        · rw [if_neg a4]; simp [a1, a4]
    · rw [if_neg a2]; simp [a1, a2]

end Go.Idl

namespace Go.Idl

open Go

def okP (y : S33) : Prop := y.fHref.length ≤ 1000000 ∧ y.fUuid.length ≤ 1000000 ∧ bigD y.fDn ∧ bigC y.fShadow

structure Inv (m : Mp) (n : Np) (pr : Option S33) (d : S35) : Prop where
  tabs : Tabs (fun x : S39 => x.fHref) (fun x : S39 => x.fUuid) m n d.fL
  good : ∀ x ∈ d.fL, goodB x = true ∧ okX x
  len : d.fL.length ≤ 64
  pro : (pr = none ∧ d.fP = S33.zero) ∨ (pr = some d.fP ∧ rightPr d.fP = true ∧ okP d.fP)

theorem Inv.nil : Inv [] [] none ⟨[], S33.zero⟩ := ⟨Tabs.nil, by simp, by simp, .inl ⟨rfl, rfl⟩⟩

variable {m : Mp} {n : Np} {pr : Option S33} {d : S35}

theorem Inv.shape (I : Inv m n pr d) (h : Str) : ((mget m h).getD S39.zero).fShadow.length = 8 := by
  cases e : mget m h with
  | none => rfl
  | some x => exact (I.good x ((I.tabs.mg h x).1 e).1).2.2.2.1

theorem Inv.big (I : Inv m n pr d) (h : Str) : bigC ((mget m h).getD S39.zero).fShadow := by
  cases e : mget m h with
  | none => exact ⟨rfl, by simp [S39.zero]⟩
  | some x => exact (I.good x ((I.tabs.mg h x).1 e).1).2.2.2

theorem Inv.card (I : Inv m n pr d) (h : Str) : (mget m h).isSome = decide (0 ≤ cardI d.fL h) := by
  rcases cardI_pos d.fL h with ⟨q, hk, e⟩ | ⟨q, e⟩
  · rw [decide_eq_true q]
    have := I.tabs.get (List.getElem_mem hk)
    rw [e] at this
    rw [this]; rfl
  · rw [q]
    rw [(I.tabs.nothing (h := h)).2 e]; rfl

theorem Inv.ent (I : Inv m n pr d) (u : Str) : (mget n u).isSome = decide (0 ≤ entI d.fL u) := by
  rcases entI_pos d.fL u with ⟨q, hk, e⟩ | ⟨q, e⟩
  · rw [decide_eq_true q]
    have := I.tabs.getU (List.getElem_mem hk)
    rw [e] at this
    rw [this]; rfl
  · rw [q]
    rw [(I.tabs.nothingU (u := u)).2 e]; rfl

theorem Inv.at_ (I : Inv m n pr d) {h : Str} (q : 0 ≤ cardI d.fL h) : ∃ hk : (cardI d.fL h).toNat < d.fL.length, mget m h = some d.fL[(cardI d.fL h).toNat] ∧ d.fL[(cardI d.fL h).toNat].fHref = h := by
  rcases cardI_pos d.fL h with ⟨_, hk, e⟩ | ⟨q', _⟩
  · have := I.tabs.get (List.getElem_mem hk)
    rw [e] at this
    exact ⟨hk, this, e⟩
  · omega

/-! ### What is asked -/

theorem F14_eq (I : Inv m n pr d) : F14 m n pr = some d.fL := by
  have hl := I.len
  have hm := I.tabs.len
  have hk : ∀ p, p ∈ m → p.1.length ≤ 1000000 := fun p hp => by
    have : p.1 ∈ d.fL.map fun x : S39 => x.fHref := (I.tabs.keys p.1).1 (List.mem_map_of_mem hp)
    obtain ⟨x, hx, e⟩ := List.mem_map.1 this
    rw [← e]
    exact (I.good x hx).2.1
  unfold F14 F42 F43
  rw [gd_pos ⟨by omega, hk⟩, I.tabs.sort]
  simp only [Option.bind_some]
  obtain ⟨r, h1, h2⟩ := loopO_for3 (step := fun (s : Int × List S39) => F14_b9 m (d.fL.map fun x : S39 => x.fHref) s.1 s.2) (Post := fun y => y = d.fL) d.fL.length (fun i a => a = d.fL.take i) (a := []) (by simp)
    (fun i a hi hI => by
      have hw := wrap_nat (i := i) (by omega)
      have hi' : i < (d.fL.map fun x : S39 => x.fHref).length := by simpa using hi
      have hx := List.getElem_mem hi
      simp only [F14_b9]
      rw [if_pos (by simp; omega), gd_pos (by simp; omega), Int.toNat_natCast, getD_some hi', List.getElem_map, I.tabs.get hx]
      simp only [Option.getD_some]
      rw [F45_big _ (I.good _ hx).2.2.2]
      simp only [Option.bind_some]
      have hal : a.length ≤ 64 := by rw [hI]; simp; omega
      rw [gd_pos (I.good _ hx).2.2.2.1, gd_pos (by simp; omega), hw]
      exact .inl ⟨_, rfl, by rw [hI, List.take_succ_eq_append_getElem hi]⟩)
    (fun a hI => by
      simp only [F14_b9]
      rw [if_neg (by simp)]
      exact ⟨_, rfl, by rw [hI, List.take_of_length_le (Nat.le_refl _)]⟩)
  rw [h1, h2]
  rfl

theorem F52_eq (y : S33) (h : okP y) : F52 y = some y := by
  unfold F52 F78 F58
  rw [gd_pos h.2.2.2.1, gd_pos h.2.2.1.1, gd_pos h.2.2.2]
  simp only [Option.bind_some]
  rw [gd_pos h.2.2.2.1]

theorem href_ne {s : Str} (h : hrefS s = true) : ¬ s = [] := by
  rintro rfl
  simp [hrefS, rootL] at h

theorem Inv.prs (I : Inv m n pr d) : pr.isSome = decide (¬ d.fP.fHref = []) := by
  rcases I.pro with ⟨e1, e2⟩ | ⟨e1, e2, e3⟩
  · rw [e1, e2]; rfl
  · rw [e1]
    have : hrefS d.fP.fHref = true := by
      simp only [rightPr, Bool.and_eq_true] at e2
      exact e2.2.1
    simp [href_ne this]

theorem Inv.prbig (I : Inv m n pr d) : okP d.fP := by
  rcases I.pro with ⟨_, e2⟩ | ⟨_, _, e3⟩
  · rw [e2]; exact ⟨by simp [S33.zero], by simp [S33.zero], ⟨by simp [S33.zero], by simp [S33.zero]⟩, ⟨rfl, by simp [S33.zero]⟩⟩
  · exact e3

theorem F26_eq (I : Inv m n pr d) : F26 m n pr = some (d.fP, pr.isSome) := by
  unfold F26 F42
  simp only [Option.bind_some]
  rcases I.pro with ⟨e1, e2⟩ | ⟨e1, e2, e3⟩
  · rw [e1, e2]
    rfl
  · rw [e1]
    simp only [Option.isNone_some, Bool.false_eq_true, if_false, Option.isSome_some, Option.getD_some]
    rw [gd_pos trivial, gd_pos e3.2.2.2.1, F52_eq _ e3]
    simp only [Option.bind_some]
    rw [gd_pos e3.2.2.2.1]

theorem F34_eq (I : Inv m n pr d) : F34 m n pr = some (d.fL.length : Int) := by
  unfold F34 F42
  simp only [Option.bind_some]
  rw [I.tabs.len]

theorem F21_eq (I : Inv m n pr d) (h : Str) : F21 m n pr h = some ((mget m h).getD S39.zero, (mget m h).isSome) := by
  unfold F21 F42
  simp only [Option.bind_some]
  rw [gd_pos (I.shape h), F45_big _ (I.big h)]
  simp only [Option.bind_some]
  rw [gd_pos (I.shape h)]

theorem F18_eq (I : Inv m n pr d) (u : Str) : F18 m n pr u = some ((mget m ((mget n u).getD [])).getD S39.zero, (mget m ((mget n u).getD [])).isSome) := by
  unfold F18 F42
  simp only [Option.bind_some]
  rw [F21_eq I]
  simp only [Option.bind_some]
  rw [gd_pos (I.shape _)]

/-! ### What changes -/

theorem F29_inv (I : Inv m n pr d) (x : S39) (hx : okX x) : ∃ m' n', F29 m n pr x = some ((addD d.fL x).2, m', n') ∧ Inv m' n' pr ⟨(addD d.fL x).1, d.fP⟩ := by
  have hl := I.len
  have hm := I.tabs.len
  unfold F29 F42 F57 F56 addD goodB
  rw [gd_pos hx.2.2.1, F55_eq _ hx.1, F53_eq _ hx.2.1, gd_pos hx.2.2, gd_pos (I.shape _), I.card, I.ent, F45_big _ hx.2.2]
  simp only [Option.bind_some]
  by_cases a1 : hrefS x.fHref = true
  · rw [if_neg (c := ¬ hrefS x.fHref = true) (by simpa using a1)]
    by_cases a2 : uuidS x.fUuid = true
    · rw [if_neg (c := ¬ uuidS x.fUuid = true) (by simpa using a2)]
      by_cases a3 : checkS x.fShadow = true
      · rw [if_pos (c := checkS x.fShadow = true) a3, if_neg (c := ¬ (0 : Int) = 0) (by simp), if_pos (c := (hrefS x.fHref && uuidS x.fUuid && checkS x.fShadow) = true) (by simp [a1, a2, a3])]
        by_cases a4 : 0 ≤ cardI d.fL x.fHref
        · rw [if_pos a4, decide_eq_true a4]
          exact ⟨m, n, by simp, I⟩
        · rw [if_neg a4, decide_eq_false a4]
          by_cases a5 : 0 ≤ entI d.fL x.fUuid
          · rw [if_pos a5, decide_eq_true a5]
            exact ⟨m, n, by simp, I⟩
          · rw [if_neg a5, decide_eq_false a5]
            by_cases a6 : (64 : Int) ≤ d.fL.length
            · rw [if_pos a6]
              exact ⟨m, n, by simp [hm, a6], I⟩
            · rw [if_neg a6]
              refine ⟨mset m x.fHref x, mset n x.fUuid x.fHref, by simp [F49, gd_pos hx.2.2.1, hm]; omega, ?_⟩
              have q1 : ∀ y ∈ d.fL, ¬ y.fHref = x.fHref := by
                rcases cardI_pos d.fL x.fHref with ⟨q, _⟩ | ⟨_, q⟩
                · exact absurd q a4
                · exact q
              have q2 : ∀ y ∈ d.fL, ¬ y.fUuid = x.fUuid := by
                rcases entI_pos d.fL x.fUuid with ⟨q, _⟩ | ⟨_, q⟩
                · exact absurd q a5
                · exact q
              refine ⟨I.tabs.add q1 q2, fun y hy => ?_, by rw [insL_len]; omega, I.pro⟩
              rcases insL_mem.1 hy with e | e
              · subst e
                exact ⟨by simp [goodB, a1, a2, a3], hx⟩
              · exact I.good y e
      · rw [if_neg a3, if_pos (c := ¬ (2 : Int) = 0) (by simp), if_neg (c := (hrefS x.fHref && uuidS x.fUuid && checkS x.fShadow) = true) (by simp [a3])]
        exact ⟨m, n, rfl, I⟩
    · rw [if_pos a2, if_neg (c := (hrefS x.fHref && uuidS x.fUuid && checkS x.fShadow) = true) (by simp [a2])]
      exact ⟨m, n, rfl, I⟩
  · rw [if_pos a1, if_neg (c := (hrefS x.fHref && uuidS x.fUuid && checkS x.fShadow) = true) (by simp [a1])]
    exact ⟨m, n, rfl, I⟩

theorem F30_inv (I : Inv m n pr d) (h : Str) (c : List (List Str)) (hc : bigC c) : ∃ m' n', F30 m n pr h c = some ((setD d.fL h c).2, m', n') ∧ Inv m' n' pr ⟨(setD d.fL h c).1, d.fP⟩ := by
  unfold F30 F42 F56 F58 setD
  rw [gd_pos hc.1, gd_pos hc, gd_pos (I.shape _), gd_pos hc, I.card]
  simp only [Option.bind_some]
  by_cases a1 : checkS c = true
  · rw [if_pos (c := checkS c = true) a1, if_neg (c := ¬ (0 : Int) = 0) (by simp), if_pos a1]
    by_cases a2 : 0 ≤ cardI d.fL h
    · rw [decide_eq_true a2, if_neg (by simp), if_neg (by omega)]
      obtain ⟨hk, e1, e2⟩ := I.at_ a2
      have hg := I.good _ (List.getElem_mem hk)
      rw [e1, getD_some hk]
      simp only [Option.getD_some]
      rw [gd_pos hc.1]
      unfold F49
      rw [gd_pos hc.1]
      refine ⟨_, _, rfl, ?_⟩
      refine ⟨I.tabs.set hk rfl rfl, fun y hy => ?_, by simp; exact I.len, I.pro⟩
      rcases List.mem_or_eq_of_mem_set hy with q | q
      · exact I.good y q
      · subst q
        refine ⟨?_, hg.2.1, hg.2.2.1, hc⟩
        have := hg.1
        simp only [goodB, Bool.and_eq_true] at this ⊢
        exact ⟨this.1, a1⟩
    · rw [decide_eq_false a2, if_pos (by simp), if_pos (by omega)]
      exact ⟨m, n, rfl, I⟩
  · rw [if_neg a1, if_pos (c := ¬ (2 : Int) = 0) (by simp), if_neg a1]
    exact ⟨m, n, rfl, I⟩

theorem F32_inv (I : Inv m n pr d) (h : Str) : ∃ m' n', F32 m n pr h = some ((dropD d.fL h).2, m', n') ∧ Inv m' n' pr ⟨(dropD d.fL h).1, d.fP⟩ := by
  unfold F32 F42 dropD F59
  rw [gd_pos (I.shape _), I.card]
  simp only [Option.bind_some]
  by_cases a2 : 0 ≤ cardI d.fL h
  · rw [decide_eq_true a2, if_neg (by simp), if_neg (by omega)]
    obtain ⟨hk, e1, e2⟩ := I.at_ a2
    rw [e1]
    simp only [Option.getD_some]
    refine ⟨_, _, rfl, ?_⟩
    have ht := I.tabs.drop hk
    rw [e2] at ht
    refine ⟨ht, fun y hy => ?_, by have := I.len; simp; omega, I.pro⟩
    rcases List.mem_append.1 hy with q | q
    · exact I.good y (List.mem_of_mem_take q)
    · exact I.good y (List.mem_of_mem_drop q)
  · rw [decide_eq_false a2, if_pos (by simp), if_pos (by omega)]
    exact ⟨m, n, rfl, I⟩

theorem F27_inv (I : Inv m n pr d) (y : S33) (hy : okP y) : ∃ pr', F27 m n pr y = some (if rightPr y = true then 0 else 2, pr') ∧ Inv m n pr' ⟨d.fL, if rightPr y = true then y else d.fP⟩ := by
  have key : F27 m n pr y = some (if rightPr y = true then (0, some y) else (2, pr)) := by
    have hz : ((y.fDn.length : Int) = 0) ↔ y.fDn = [] := by rw [← List.length_eq_zero_iff]; omega
    have hp : ((0 : Int) < y.fDn.length) ↔ ¬ y.fDn = [] := by rw [← List.length_eq_zero_iff]; omega
    unfold F27 F42 F56 rightPr
    rw [gd_pos hy.2.2.2.1, F53_eq _ hy.2.1, F55_eq _ hy.1, gd_pos hy.2.2.2, F54_eq _ hy.2.2.1, F52_eq _ hy]
    simp only [Option.bind_some]
    have hs : y.fShadow.length = 8 := hy.2.2.2.1
    have hgd : ∀ {α : Type} (z : Option α), gd (y.fShadow.length = 8) z = z := fun z => gd_pos hs
    simp only [hgd]
    by_cases a1 : uuidS y.fUuid = true
    · have hu : ¬ y.fUuid = [] := by
        intro e
        rw [e] at a1
        simp [uuidS] at a1
      by_cases a2 : y.fDn = []
      · by_cases a3 : hrefS y.fHref = true <;> by_cases a4 : checkS y.fShadow = true <;> simp [a1, a2, a3, a4, hu]
      · have q1 : ¬ ((y.fDn.length : Int) = 0) := fun e => a2 (hz.1 e)
        simp [a1, a2, q1, hu]
    · by_cases a2 : y.fUuid = []
      · by_cases a3 : y.fDn = []
        · have hu0 : uuidS [] = false := rfl
          simp [a2, a3, hu0]
        · have hu0 : uuidS [] = false := rfl
          have q1 := hp.2 a3
          by_cases b1 : rightD y.fDn = true <;> by_cases b2 : hrefS y.fHref = true <;> by_cases b3 : checkS y.fShadow = true <;> simp [a2, a3, q1, b1, b2, b3, hu0]
      · simp [a1, a2]
  rw [key]
  by_cases h : rightPr y = true
  · exact ⟨some y, by simp [h], ⟨I.tabs, I.good, I.len, .inr (by simp only [h, if_true]; exact ⟨trivial, trivial, hy⟩)⟩⟩
  · exact ⟨pr, by simp [h], by simp only [h]; exact I⟩

end Go.Idl

namespace Go.Idl

open Go

variable {m : Mp} {n : Np} {pr : Option S33} {d : S35}

/-! ### A step -/

theorem zeroP_eq : (⟨[], [], [], [[], [], [], [], [], [], [], []]⟩ : S33) = S33.zero := rfl

theorem zeroX_eq : (⟨[], [], [[], [], [], [], [], [], [], []]⟩ : S39) = S39.zero := rfl

theorem F13_inv (I : Inv m n pr d) (a : S41) (ha : okA a) : ∃ m' n' pr', Inv m' n' pr' (stepD d a).1 ∧ ∀ d0 : S35, d0.fL.length ≤ 1000 → (∀ x ∈ d0.fL, x.fShadow.length = 8) → d0.fP.fShadow.length = 8 →
    F13 m n pr d0 a = some ((stepD d0 a).1, decide ((stepD d a).2 = (stepD d0 a).2), pr', m', n') := by
  have hp : okP (proA a) := ⟨ha.1.1, ha.1.2.1, ha.2, ha.1.2.2⟩
  have h8 : a.fPairing.fShadow.length = 8 := ha.1.2.2.1
  by_cases k1 : a.fKind = 1
  · obtain ⟨m', n', e, I'⟩ := F29_inv I a.fPairing ha.1
    refine ⟨m', n', pr, by simpa [stepD, k1] using I', fun d0 hl hx hq => ?_⟩
    unfold F13
    rw [gd_pos hq, gd_pos h8, if_pos k1, F38_eq _ _ (by omega) ha.1, e]
    simp [stepD, k1]
  by_cases k2 : a.fKind = 2
  · obtain ⟨m', n', e, I'⟩ := F30_inv I a.fPairing.fHref a.fPairing.fShadow ha.1.2.2
    refine ⟨m', n', pr, by simpa [stepD, k2] using I', fun d0 hl hx hq => ?_⟩
    unfold F13
    rw [gd_pos hq, gd_pos h8, if_neg k1, if_pos k2, F39_eq _ _ _ (by omega) hx ha.1.2.2, e]
    simp [stepD, k2]
  by_cases k3 : a.fKind = 3
  · obtain ⟨m', n', e, I'⟩ := F32_inv I a.fPairing.fHref
    refine ⟨m', n', pr, by simpa [stepD, k3] using I', fun d0 hl hx hq => ?_⟩
    unfold F13
    rw [gd_pos hq, gd_pos h8, if_neg k1, if_neg k2, if_pos k3, F40_eq' _ _ (by omega), e]
    simp [stepD, k3]
  by_cases k4 : a.fKind = 4
  · obtain ⟨pr', e, I'⟩ := F27_inv I (proA a) hp
    refine ⟨m, n, pr', ?_, fun d0 hl hx hq => ?_⟩
    · by_cases hr : rightPr (proA a) = true
      · simpa [stepD, k4, hr] using I'
      · simpa [stepD, k4, hr] using I'
    · have e41 : F41 (proA a) = some (rightPr (proA a)) := F41_eq _ hp.1 hp.2.1 hp.2.2.1 hp.2.2.2
      unfold proA at e e41
      unfold F13
      rw [gd_pos hq, gd_pos h8, if_neg k1, if_neg k2, if_neg k3, if_pos k4, e, e41]
      simp only [Option.bind_some]
      by_cases hr : rightPr (proA a) = true
      · have hr' := hr
        unfold proA at hr'
        simp [stepD, k4, hr, hr', proA]
      · have hr' := hr
        unfold proA at hr'
        simp [stepD, k4, hr, hr']
  by_cases k5 : a.fKind = 5
  · refine ⟨m, n, none, ?_, fun d0 hl hx hq => ?_⟩
    · have : Inv m n none ⟨d.fL, S33.zero⟩ := ⟨I.tabs, I.good, I.len, .inl ⟨rfl, rfl⟩⟩
      simpa [stepD, k5] using this
    · unfold F13
      rw [gd_pos hq, gd_pos h8, if_neg k1, if_neg k2, if_neg k3, if_neg k4, if_pos k5]
      simp [F28, F42, stepD, k5, zeroP_eq]
  · refine ⟨m, n, pr, by simpa [stepD, k1, k2, k3, k4, k5] using I, fun d0 hl hx hq => ?_⟩
    unfold F13
    rw [gd_pos hq, gd_pos h8, if_neg k1, if_neg k2, if_neg k3, if_neg k4, if_neg k5]
    simp [stepD, k1, k2, k3, k4, k5]

theorem Inv.sh (I : Inv m n pr d) : ∀ x ∈ d.fL, x.fShadow.length = 8 := fun x hx => (I.good x hx).2.2.2.1

theorem Inv.bigs (I : Inv m n pr d) : ∀ x ∈ d.fL, bigC x.fShadow := fun x hx => (I.good x hx).2.2.2

theorem Inv.psh (I : Inv m n pr d) : d.fP.fShadow.length = 8 := I.prbig.2.2.2.1

/-! ### The same as the document's -/

theorem rangeO_inv {σ ρ α : Type} {step : α → σ → Option (σ ⊕ ρ)} (J : Nat → σ → Prop) : ∀ (l : List α) (k : Nat) (s : σ), J k s → (∀ (i : Nat) (h : i < l.length) (s : σ), J (k + i) s → ∃ s', step l[i] s = some (.inl s') ∧ J (k + i + 1) s') → ∃ s', rangeO step l s = some (.inl s') ∧ J (k + l.length) s'
  | [], k, s, h0, _ => ⟨s, rfl, h0⟩
  | a :: l, k, s, h0, h => by
    obtain ⟨s1, h1, h2⟩ := h 0 (by simp) s (by simpa using h0)
    obtain ⟨s2, h3, h4⟩ := rangeO_inv J l (k + 1) s1 (by simpa using h2) fun i hi s hs => by
      obtain ⟨s', q1, q2⟩ := h (i + 1) (by simpa using hi) s (by rw [show k + (i + 1) = k + 1 + i by omega]; exact hs)
      exact ⟨s', by simpa using q1, by rw [show k + 1 + i + 1 = k + (i + 1) + 1 by omega]; exact q2⟩
    have h1' : step a s = some (.inl s1) := by simpa using h1
    refine ⟨s2, ?_, by rw [List.length_cons, show k + (l.length + 1) = k + 1 + l.length by omega]; exact h4⟩
    rw [rangeO_cons, h1']
    simpa using h3

theorem enumI_el {α : Type} {l : List α} {i : Nat} (h : i < (enumI l).length) : (enumI l)[i] = ((i : Int), l[i]'(by rwa [enumI_length] at h)) := by
  have h' : i < l.length := by rwa [enumI_length] at h
  have := enumI_get h'
  rw [List.getElem?_eq_getElem h] at this
  exact Option.some.inj this

theorem F20_eq (I : Inv m n pr d) : F20 m n pr d = some true := by
  have hl := I.len
  unfold F20
  rw [gd_pos I.psh, F14_eq I, F26_eq I, F34_eq I]
  simp only [Option.bind_some]
  rw [gd_pos I.psh, if_neg (by rw [I.prs]; simp), F25_eq _ _ I.psh I.psh I.prbig.2.2.1.1]
  simp only [Option.bind_some, decide_true]
  rw [if_neg (by simp), if_neg (by simp), gd_pos I.bigs]
  obtain ⟨s', h1, h2⟩ := rangeO_inv (step := fun (el26 : Int × S39) (s : Bool × Int) => F20_b23 d el26 s.1 s.2) (fun k s => s.2 = (k : Int)) (enumI d.fL) 0 (false, 0) rfl
    (fun i hi s hs => by
      have hi' : i < d.fL.length := by rwa [enumI_length] at hi
      have hw := wrap_nat (i := i) (by omega)
      have hx := I.sh _ (List.getElem_mem hi')
      rw [Nat.zero_add] at hs
      rw [enumI_el hi]
      simp only [F20_b23, hs]
      rw [gd_pos hx, if_neg (by simp), if_neg (by omega), gd_pos (by omega), Int.toNat_natCast, getD_some hi', gd_pos hx, F19_eq _ _ hx hx]
      simp only [Option.bind_some, decide_true]
      rw [if_neg (by simp), hw]
      exact ⟨_, rfl, by simp⟩)
  unfold rangeR
  rw [h1]
  simp only [Option.map_some, Sum.elim_inl, Option.bind_some, F20_k23]
  rw [h2, enumI_length]
  simp

/-! ### No more than is done here -/

def memA (a : S41) : Prop := a.fPairing.fShadow.length = 8 ∧ a.fPairing.fHref.length ≤ 1000000000000000 ∧ a.fPairing.fUuid.length ≤ 1000000000000000 ∧ ∀ x ∈ a.fDn, x.fType.length ≤ 1000000000000000 ∧ x.fValue.length ≤ 1000000000000000

def dnA (x : S89) : Bool := decide (x.fType.length + x.fValue.length ≤ 400)

def fieldA (l : List Str) : Bool := decide (l.length ≤ 20) && l.all fun s => decide (s.length ≤ 300)

def fewA (a : S41) : Bool := decide (a.fPairing.fHref.length + a.fPairing.fUuid.length ≤ 400) && decide (a.fDn.length ≤ 20) && a.fDn.all dnA && a.fPairing.fShadow.all fieldA

theorem fewA_ok {a : S41} (h : fewA a = true) (h8 : a.fPairing.fShadow.length = 8) : okA a := by
  simp only [fewA, Bool.and_eq_true, decide_eq_true_eq, List.all_eq_true, dnA, fieldA] at h
  obtain ⟨⟨⟨h1, h2⟩, h3⟩, h4⟩ := h
  refine ⟨⟨by omega, by omega, h8, fun l hl => ⟨by have := (h4 l hl).1; omega, fun s hs => by have := (h4 l hl).2 s hs; omega⟩⟩, by omega, fun x hx => by have := h3 x hx; omega⟩

theorem F10_eq (l : List S41) (most : Int) (hm : most ≤ 1000) (h : ∀ a ∈ l, memA a) : F10 l most = some (decide ((l.length : Int) ≤ most) && l.all fewA) := by
  unfold F10
  by_cases h0 : most < (l.length : Int)
  · rw [if_pos h0, decide_eq_false (by omega)]; rfl
  · rw [if_neg h0, decide_eq_true (by omega), loopO_all l fewA (by omega)
      (fun i hi => by
        obtain ⟨h8, m1, m2, m3⟩ := h _ (List.getElem_mem hi)
        have hg : l.getD i S41.zero = l[i] := getD_some hi _
        have hw : IntKind.i64.wrap ((l[i].fPairing.fHref.length : Int) + (l[i].fPairing.fUuid.length : Int)) = (l[i].fPairing.fHref.length : Int) + (l[i].fPairing.fUuid.length : Int) := wrap_i64 (by omega) (by omega)
        simp only [F10_b8, Int.toNat_natCast, hg]
        rw [if_pos (by omega), gd_pos (by omega), gd_pos h8, hw]
        unfold fewA
        by_cases a1 : (400 : Int) < (l[i].fPairing.fHref.length : Int) + (l[i].fPairing.fUuid.length : Int)
        · rw [if_pos a1, decide_eq_false (p := _ + _ ≤ 400) (by omega)]; simp
        · rw [if_neg a1, decide_eq_true (p := _ + _ ≤ 400) (by omega)]
          by_cases a2 : (20 : Int) < l[i].fDn.length
          · rw [if_pos a2, decide_eq_false (p := l[i].fDn.length ≤ 20) (by omega)]; simp
          · rw [if_neg a2, decide_eq_true (p := l[i].fDn.length ≤ 20) (by omega), loopO_all l[i].fDn dnA (by omega)
              (fun j hj => by
                have hgj : l[i].fDn.getD j S89.zero = l[i].fDn[j] := getD_some hj _
                obtain ⟨q1, q2⟩ := m3 _ (List.getElem_mem hj)
                have hwj : IntKind.i64.wrap ((l[i].fDn[j].fType.length : Int) + (l[i].fDn[j].fValue.length : Int)) = (l[i].fDn[j].fType.length : Int) + (l[i].fDn[j].fValue.length : Int) := wrap_i64 (by omega) (by omega)
                simp only [F10_b25, Int.toNat_natCast, hg, hgj]
                rw [if_pos (by omega), gd_pos (by omega), hwj]
                unfold dnA
                by_cases b1 : (400 : Int) < (l[i].fDn[j].fType.length : Int) + (l[i].fDn[j].fValue.length : Int)
                · rw [if_pos b1, decide_eq_false (by omega)]; simp
                · rw [if_neg b1, decide_eq_true (by omega)]; simp)
              (by simp only [F10_b25, Int.toNat_natCast, hg]; rw [if_neg (by omega)])]
            by_cases a3 : l[i].fDn.all dnA = true
            · rw [if_pos a3, a3]
              simp only [Option.bind_some, Sum.elim_inl, F10_k25]
              rw [loopO_all l[i].fPairing.fShadow fieldA (by omega)
                (fun j hj => by
                  have hgj : l[i].fPairing.fShadow.getD j [] = l[i].fPairing.fShadow[j] := getD_some hj _
                  simp only [F10_b28, Int.toNat_natCast, hg, hgj]
                  rw [if_pos (by omega), gd_pos (by omega)]
                  unfold fieldA
                  generalize hv : l[i].fPairing.fShadow[j] = v at *
                  by_cases b1 : (20 : Int) < v.length
                  · rw [if_pos b1, decide_eq_false (p := v.length ≤ 20) (by omega)]; simp
                  · rw [if_neg b1, decide_eq_true (p := v.length ≤ 20) (by omega), loopO_all v (fun s => decide (s.length ≤ 300)) (by omega)
                      (fun q hq => by
                        have hgq : v.getD q [] = v[q] := getD_some hq _
                        simp only [F10_b40, Int.toNat_natCast, hg, hgj, hgq]
                        rw [if_pos (by omega), gd_pos (by omega)]
                        by_cases c1 : (300 : Int) < v[q].length
                        · rw [if_pos c1, decide_eq_false (by omega)]; simp
                        · rw [if_neg c1, decide_eq_true (by omega)]; simp)
                      (by simp only [F10_b40, Int.toNat_natCast, hg, hgj]; rw [if_neg (by omega)])]
                    by_cases b2 : (v.all fun s => decide (s.length ≤ 300)) = true
                    · simp [b2, F10_k40]
                    · rw [if_neg b2, Bool.eq_false_iff.2 b2]; simp)
                (by simp only [F10_b28]; rw [if_neg (by omega)])]
              by_cases a4 : l[i].fPairing.fShadow.all fieldA = true
              · simp [a4, F10_k28]
              · rw [if_neg a4, Bool.eq_false_iff.2 a4]; simp
            · rw [if_neg a3, Bool.eq_false_iff.2 a3]; simp)
      (by simp only [F10_b8]; rw [if_neg (by omega)])]
    by_cases h1 : l.all fewA = true
    · simp [h1, F10_k8]
    · rw [if_neg h1, Bool.eq_false_iff.2 h1]; simp

end Go.Idl

namespace Go.Idl

set_option maxHeartbeats 8000000

set_option pp.deepTerms false

set_option maxRecDepth 60000

open Go Go.Proofs.Tryz

/-! cardcase/cardcaselaw20.PairsOnce -/

end Go.Idl

namespace Go.Idl

set_option maxHeartbeats 8000000

set_option pp.deepTerms false

set_option maxRecDepth 60000

open Go Go.Proofs.Tryz

/-! cardcase/cardcaselaw20.PairsPlay -/

noncomputable def F4_k36 (x28 : S39 × Bool) (x31 : S39 × Bool) : Option Bool :=
 if x28.2 = true then (if x31.2 = true then ((F11 ).bind fun (x38 : Bool) => some x38) else ((F19 x31.1 (⟨[], [], [[], [], [], [], [], [], [], []]⟩ : S39)).bind fun (x39 : Bool) => if x39 = true then ((F11 ).bind fun (x40 : Bool) => some x40) else (some false))) else ((F19 x28.1 (⟨[], [], [[], [], [], [], [], [], [], []]⟩ : S39)).bind fun (x43 : Bool) => if x43 = true then (if x31.2 = true then ((F11 ).bind fun (x44 : Bool) => some x44) else ((F19 x31.1 (⟨[], [], [[], [], [], [], [], [], [], []]⟩ : S39)).bind fun (x45 : Bool) => if x45 = true then ((F11 ).bind fun (x46 : Bool) => some x46) else (some false))) else (some false))

noncomputable def F4_k17 (a1 : List UInt8) (a2 : List UInt8) (v23 : Option S33) (v24 : List (List UInt8 × S39)) (v25 : List (List UInt8 × (List UInt8))) (v26 : S35) : Option Bool :=
 (F21 v24 v25 v23 a1).bind fun (x28 : S39 × Bool) => gd (x28.1.fShadow.length = 8) ((F18 v24 v25 v23 a2).bind fun (x31 : S39 × Bool) => gd (x31.1.fShadow.length = 8) ((F15 v26.fL a1).bind fun (x34 : Int) => (F16 v26.fL a2).bind fun (x35 : Int) => if ¬ x28.2 = (decide (0 ≤ x34)) then (some false) else (if ¬ x31.2 = (decide (0 ≤ x35)) then (some false) else (if x28.2 = true then (gd (0 ≤ x34 ∧ x34 < v26.fL.length) (gd (((v26.fL.getD x34.toNat S39.zero).fShadow).length = 8) ((F19 x28.1 (v26.fL.getD x34.toNat S39.zero)).bind fun (x56 : Bool) => if ¬ (x56 = true) then (some false) else (if x31.2 = true then (gd (0 ≤ x35 ∧ x35 < v26.fL.length) (gd (((v26.fL.getD x35.toNat S39.zero).fShadow).length = 8) ((F19 x31.1 (v26.fL.getD x35.toNat S39.zero)).bind fun (x60 : Bool) => if ¬ (x60 = true) then (some false) else (F4_k36 x28 x31)))) else (F4_k36 x28 x31))))) else (if x31.2 = true then (gd (0 ≤ x35 ∧ x35 < v26.fL.length) (gd (((v26.fL.getD x35.toNat S39.zero).fShadow).length = 8) ((F19 x31.1 (v26.fL.getD x35.toNat S39.zero)).bind fun (x67 : Bool) => if ¬ (x67 = true) then (some false) else (F4_k36 x28 x31)))) else (F4_k36 x28 x31))))))

noncomputable def F4_k78 (v18 : Int) (v22 : S35) (v79 : Bool) (v80 : Option S33) (v81 : List (List UInt8 × S39)) (v82 : List (List UInt8 × (List UInt8))) (v83 : S35) : Option ((Int × (Option S33) × (List (List UInt8 × S39)) × (List (List UInt8 × (List UInt8))) × S35) ⊕ (((Option S33) × (List (List UInt8 × S39)) × (List (List UInt8 × (List UInt8))) × S35) ⊕ Bool)) :=
 if ¬ (v79 = true) then (some (.inr (.inr false))) else (gd (v83.fP.fShadow.length = 8) ((F20 v81 v82 v80 v83).bind fun (x88 : Bool) => if ¬ (x88 = true) then (some (.inr (.inr false))) else (gd (v22.fP.fShadow.length = 8) (some (.inl ((IntKind.i64.wrap (v18 + 1), v80, v81, v82, v83)))))))

noncomputable def F4_b17 (a0 : List S41) (v18 : Int) (v19 : Option S33) (v20 : List (List UInt8 × S39)) (v21 : List (List UInt8 × (List UInt8))) (v22 : S35) : Option ((Int × (Option S33) × (List (List UInt8 × S39)) × (List (List UInt8 × (List UInt8))) × S35) ⊕ (((Option S33) × (List (List UInt8 × S39)) × (List (List UInt8 × (List UInt8))) × S35) ⊕ Bool)) :=
 if v18 < (a0.length : Int) then (gd (v22.fP.fShadow.length = 8) (gd (0 ≤ v18 ∧ v18 < a0.length) (gd ((((a0.getD v18.toNat S41.zero).fPairing).fShadow).length = 8) ((F13 v20 v21 v19 v22 (a0.getD v18.toNat S41.zero)).bind fun (x96 : S35 × Bool × (Option S33) × (List (List UInt8 × S39)) × (List (List UInt8 × (List UInt8)))) => gd (x96.1.fP.fShadow.length = 8) (F4_k78 v18 v22 x96.2.1 x96.2.2.1 x96.2.2.2.1 x96.2.2.2.2 x96.1))))) else (some (.inr (.inl (v19, v20, v21, v22))))

noncomputable def F4 (a0 : List S41) (a1 : List UInt8) (a2 : List UInt8) : Option Bool :=
 (F10 a0 90).bind fun (x4 : Bool) => if ¬ (x4 = true) then ((F11 ).bind fun (x6 : Bool) => some x6) else (if 200 < (a1.length : Int) then ((F11 ).bind fun (x8 : Bool) => some x8) else (if 200 < (a2.length : Int) then ((F11 ).bind fun (x11 : Bool) => some x11) else ((F12 ).bind fun (x13 : (List (List UInt8 × S39)) × (List (List UInt8 × (List UInt8))) × (Option S33)) => (loopO (fun (s : Int × (Option S33) × (List (List UInt8 × S39)) × (List (List UInt8 × (List UInt8))) × S35) => F4_b17 a0 s.1 s.2.1 s.2.2.1 s.2.2.2.1 s.2.2.2.2) (0, x13.2.2, x13.1, x13.2.1, ((⟨[], (⟨[], [], [], [[], [], [], [], [], [], [], []]⟩ : S33)⟩ : S35)))).bind fun y => Sum.elim (fun (e : (Option S33) × (List (List UInt8 × S39)) × (List (List UInt8 × (List UInt8))) × S35) => F4_k17 a1 a2 e.1 e.2.1 e.2.2.1 e.2.2.2) (fun (q : Bool) => some q) y)))

theorem F4_ok {H : IHeap} {K : IEnd → IHeap → Prop} (a0 : List S41) (a1 : List UInt8) (a2 : List UInt8) (hV : TOK prog H) {r : Bool} (h : F4 a0 a1 a2 = some r) (hK : K (.ret (.v (.bool r))) H) : ICalls prog 4 [.sl 12 (a0.map fun x => .v (.int .i64 x.fKind) :: .v (str x.fPairing.fHref) :: .v (str x.fPairing.fUuid) :: ((x.fPairing.fShadow.map fun x => .sl 1 (x.map fun x => [.v (str x)])) ++ [.sl 2 (x.fDn.map fun x => [.v (str x.fType), .v (str x.fValue)])])), .v (str a1), .v (str a2)] H K := by
 refine ICalls_iwp (N := 131) func4 (by kernel_rfl) rfl (by kernel_rfl) (by kernel_rfl) fun cb hcb hw hbd hnb => ?_
 clear hbd hnb
 subst hcb
 unfold F4 at h
 refine wG ?_
 refine IWp_seqF fun cb hc2 => ?_
 refine IWp_seqF fun cb hc3 => ?_
 refine vG ?_
 obtain ⟨x4, hx4, h⟩ := bind_some' h
 refine F10_ok a0 90 hx4 ?_
 refine sG ?_
 refine splitG_f h eA ?_ ?_
 ·intro c101 h
  simp (disch := omega) at c101
  refine sG ?_
  subst hc3
  refine IWp_cond_t eA rfl ?_
  refine IWp_seqF fun cb hc5 => ?_
  refine vG ?_
  obtain ⟨x6, hx6, h⟩ := bind_some' h
  refine F11_ok  (by exact hV.of rfl) hx6 ?_
  refine sG ?_
  subst hc5
  refine vO ?_
  obtain rfl := Option.some.inj h
  refine sG ?_
  exact retA (.refl hw) hK
 intro c101 h
 simp (disch := omega) at c101
 refine sG ?_
 refine splitG_f h rfl ?_ ?_
 ·intro c100 h
  refine sG ?_
  subst hc3
  refine IWp_cond_t eA rfl ?_
  refine IWp_seqF fun cb hc7 => ?_
  refine vG ?_
  obtain ⟨x8, hx8, h⟩ := bind_some' h
  refine F11_ok  (by exact hV.of rfl) hx8 ?_
  refine sG ?_
  subst hc7
  refine vO ?_
  obtain rfl := Option.some.inj h
  refine sG ?_
  exact retA (.refl hw) hK
 intro c100 h
 simp (disch := omega) at c100
 refine sG ?_
 subst hc3
 refine IWp_cond_i h eA rfl ?_ ?_
 ·intro c9 h
  refine IWp_seqF fun cb hc10 => ?_
  refine vG ?_
  obtain ⟨x11, hx11, h⟩ := bind_some' h
  refine F11_ok  (by exact hV.of rfl) hx11 ?_
  refine sG ?_
  subst hc10
  refine vO ?_
  obtain rfl := Option.some.inj h
  refine sG ?_
  exact retA (.refl hw) hK
 intro c9 h
 simp (disch := omega) at c9
 refine vO ?_
 subst hc2
 refine IWp_seqF fun cb hc12 => ?_
 refine vG ?_
 obtain ⟨x13, hx13, h⟩ := bind_some' h
 refine F12_ok  hx13 ?_
 refine sG ?_
 subst hc12
 refine wG ?_
 refine IWp_seqF fun cb hc15 => ?_
 refine wG ?_
 obtain ⟨y17, hl17q, hk17⟩ := bind_some' h
 refine IWp_tailC (fun tm' H' => ∃ v23 : Option S33, ∃ v24 : List (List UInt8 × S39), ∃ v25 : List (List UInt8 × (List UInt8)), ∃ v26 : S35, .inl (v23, v24, v25, v26) = y17 ∧ Ext H H' ∧ H.next + 4 ≤ H'.next ∧ tm' 1 = .v (str a1) ∧ tm' 2 = .v (str a2) ∧ tm' 7 = .p H.next 0 ∧ tm' 8 = .p (H.next + 3) 0 ∧ H'.obj H.next = some (.cells ([.mp (H.next + 1), .mp (H.next + 2), optP (fun (x : S33) => .v (str x.fHref) :: .v (str x.fUuid) :: .sl 2 (x.fDn.map fun x => [.v (str x.fType), .v (str x.fValue)]) :: (x.fShadow.map fun x => .sl 1 (x.map fun x => [.v (str x)]))) v23])) ∧ H'.obj (H.next + 1) = some (.map (mE (fun (x : S39) => .ag (.v (str x.fHref) :: .v (str x.fUuid) :: (x.fShadow.map fun x => .sl 1 (x.map fun x => [.v (str x)])))) v24)) ∧ H'.obj (H.next + 2) = some (.map (mE (fun (x : List UInt8) => .v (str x)) v25)) ∧ H'.obj (H.next + 3) = some (.cells (.sl 10 (v26.fL.map fun x => .v (str x.fHref) :: .v (str x.fUuid) :: (x.fShadow.map fun x => .sl 1 (x.map fun x => [.v (str x)]))) :: .v (str v26.fP.fHref) :: .v (str v26.fP.fUuid) :: .sl 2 (v26.fP.fDn.map fun x => [.v (str x.fType), .v (str x.fValue)]) :: (v26.fP.fShadow.map fun x => .sl 1 (x.map fun x => [.v (str x)]))))) ?_ fun cb hc17 => ?_
 ·rintro tm17e H17e ⟨v23, v24, v25, v26, rfl, he17e, hl17e, t1_17e, t2_17e, t7_17e, t8_17e, ob0_17e, ob1_17e, ob2_17e, ob3_17e⟩
  have h : F4_k17 a1 a2 v23 v24 v25 v26 = some r := hk17
  unfold F4_k17 at h
  simp -implicitDefEqProofs only [go_sem]
  subst hc15
  refine IWp_seqF fun cb hc27 => ?_
  refine vF (nd t1_17e t7_17e) ?_
  obtain ⟨x28, hx28, h⟩ := bind_some' h
  refine F21_ok v24 v25 v23 a1 H.next (H.next + 1) (H.next + 2) (by assumption) (by assumption) (by assumption) hx28 ?_
  obtain ⟨g29, h⟩ := gd_some.1 h
  refine sF g29 ?_
  subst hc27
  refine IWp_seqF fun cb hc30 => ?_
  refine vF (nd t2_17e t7_17e) ?_
  obtain ⟨x31, hx31, h⟩ := bind_some' h
  refine F18_ok v24 v25 v23 a2 H.next (H.next + 1) (H.next + 2) (eF ob0_17e) (eF ob1_17e) (eF ob2_17e) hx31 ?_
  obtain ⟨g32, h⟩ := gd_some.1 h
  refine sF g32 ?_
  subst hc30
  refine IWp_seqF fun cb hc33 => ?_
  refine IWp_drawP [3, 7] [0, 1, 2, 3, 4, 5, 6, 7, 8, 9] (by kernel_rfl) (by kernel_rfl) (fun _ _ _ _ h => h) ?_
  refine sF (nd t1_17e (nd t2_17e (nd t8_17e ob3_17e))) ?_
  obtain ⟨x34, hx34, h⟩ := bind_some' h
  refine PureC.mk _ (fun _ _ hK => F15_ok v26.fL a1 hx34 hK) ?_
  obtain ⟨x35, hx35, h⟩ := bind_some' h
  refine PureC.mk _ (fun _ _ hK => F16_ok v26.fL a2 hx35 hK) ?_
  subst hc33
  refine IWp_seqC (fun tm' H' => Ext H H' ∧ H17e.next + 2 ≤ H'.next ∧ tm' 12 = .p H17e.next 0 ∧ tm' 13 = .v (.bool x28.2) ∧ tm' 14 = .p (H17e.next + 1) 0 ∧ tm' 15 = .v (.bool x31.2) ∧ H'.obj H.next = some (.cells ([.mp (H.next + 1), .mp (H.next + 2), optP (fun (x : S33) => .v (str x.fHref) :: .v (str x.fUuid) :: .sl 2 (x.fDn.map fun x => [.v (str x.fType), .v (str x.fValue)]) :: (x.fShadow.map fun x => .sl 1 (x.map fun x => [.v (str x)]))) v23])) ∧ H'.obj (H.next + 1) = some (.map (mE (fun (x : S39) => .ag (.v (str x.fHref) :: .v (str x.fUuid) :: (x.fShadow.map fun x => .sl 1 (x.map fun x => [.v (str x)])))) v24)) ∧ H'.obj (H.next + 2) = some (.map (mE (fun (x : List UInt8) => .v (str x)) v25)) ∧ H'.obj (H.next + 3) = some (.cells (.sl 10 (v26.fL.map fun x => .v (str x.fHref) :: .v (str x.fUuid) :: (x.fShadow.map fun x => .sl 1 (x.map fun x => [.v (str x)]))) :: .v (str v26.fP.fHref) :: .v (str v26.fP.fUuid) :: .sl 2 (v26.fP.fDn.map fun x => [.v (str x.fType), .v (str x.fValue)]) :: (v26.fP.fShadow.map fun x => .sl 1 (x.map fun x => [.v (str x)])))) ∧ H'.obj H17e.next = some (.cells (.v (str x28.1.fHref) :: .v (str x28.1.fUuid) :: (x28.1.fShadow.map fun x => .sl 1 (x.map fun x => [.v (str x)])))) ∧ H'.obj (H17e.next + 1) = some (.cells (.v (str x31.1.fHref) :: .v (str x31.1.fUuid) :: (x31.1.fShadow.map fun x => .sl 1 (x.map fun x => [.v (str x)])))) ∧ F4_k36 x28 x31 = some r) ?_ fun cb hc36 => ?_
  ·rintro tm36 H36 ⟨he36, hl36, t12_36, t13_36, t14_36, t15_36, ob0_36, ob1_36, ob2_36, ob3_36, ob4_36, ob5_36, h⟩
   unfold F4_k36 at h
   refine IWp_seqF fun cb hc37 => ?_
   refine vF t13_36 ?_
   refine splitG_f h eA ?_ ?_
   ·intro c50 h
    refine sF t15_36 ?_
    refine splitG_f h eA ?_ ?_
    ·intro c42 h
     refine sG ?_
     obtain ⟨x38, hx38, h⟩ := bind_some' h
     refine F11_ok  (by exact hV.of (he36).sn) hx38 ?_
     refine sG ?_
     subst hc37
     refine vO ?_
     obtain rfl := Option.some.inj h
     refine sG ?_
     refine retG_pureE (extA he36) rfl nbA hK
    intro c42 h
    simp (disch := omega) at c42
    simp -implicitDefEqProofs (disch := omega) [go_sem, bdP, t14_36, g32, ob5_36]
    obtain ⟨x39, hx39, h⟩ := bind_some' h
    refine ICalls.wkL (args' := [.ag (.v (str x31.1.fHref) :: .v (str x31.1.fUuid) :: (x31.1.fShadow.map fun x => .sl 1 (x.map fun x => [.v (str x)]))), .ag (.v (str ((⟨[], [], [[], [], [], [], [], [], [], []]⟩ : S39).fHref)) :: .v (str ((⟨[], [], [[], [], [], [], [], [], [], []]⟩ : S39).fUuid)) :: (((⟨[], [], [[], [], [], [], [], [], [], []]⟩ : S39).fShadow).map fun x => .sl 1 (x.map fun x => [.v (str x)])))]) (by repeat (first | exact WkL.nil | refine WkL.cons ?_ ?_ | exact Wk.refl _ | exact Wk.nil _ | refine Wk.agL ?_)) (F19_ok x31.1 (⟨[], [], [[], [], [], [], [], [], [], []]⟩ : S39) hx39 ?_)
    refine sG ?_
    refine splitG_f h eA ?_ ?_
    ·intro c41 h
     refine sG ?_
     obtain ⟨x40, hx40, h⟩ := bind_some' h
     refine F11_ok  (by exact hV.of (he36).sn) hx40 ?_
     refine sG ?_
     subst hc37
     refine vO ?_
     obtain rfl := Option.some.inj h
     refine sG ?_
     refine retG_pureE (extA he36) rfl nbA hK
    intro c41 h
    simp (disch := omega) at c41
    refine sG ?_
    subst hc37
    refine vO ?_
    obtain rfl := Option.some.inj h
    refine sG ?_
    refine retG_pureE (extA he36) rfl nbA hK
   intro c50 h
   simp (disch := omega) at c50
   simp -implicitDefEqProofs (disch := omega) [go_sem, bdP, t12_36, g29, ob4_36]
   obtain ⟨x43, hx43, h⟩ := bind_some' h
   refine ICalls.wkL (args' := [.ag (.v (str x28.1.fHref) :: .v (str x28.1.fUuid) :: (x28.1.fShadow.map fun x => .sl 1 (x.map fun x => [.v (str x)]))), .ag (.v (str ((⟨[], [], [[], [], [], [], [], [], [], []]⟩ : S39).fHref)) :: .v (str ((⟨[], [], [[], [], [], [], [], [], [], []]⟩ : S39).fUuid)) :: (((⟨[], [], [[], [], [], [], [], [], [], []]⟩ : S39).fShadow).map fun x => .sl 1 (x.map fun x => [.v (str x)])))]) (by repeat (first | exact WkL.nil | refine WkL.cons ?_ ?_ | exact Wk.refl _ | exact Wk.nil _ | refine Wk.agL ?_)) (F19_ok x28.1 (⟨[], [], [[], [], [], [], [], [], [], []]⟩ : S39) hx43 ?_)
   refine sG ?_
   refine splitG_f h eA ?_ ?_
   ·intro c49 h
    refine sF t15_36 ?_
    refine splitG_f h eA ?_ ?_
    ·intro c48 h
     refine sG ?_
     obtain ⟨x44, hx44, h⟩ := bind_some' h
     refine F11_ok  (by exact hV.of (he36).sn) hx44 ?_
     refine sG ?_
     subst hc37
     refine vO ?_
     obtain rfl := Option.some.inj h
     refine sG ?_
     refine retG_pureE (extA he36) rfl nbA hK
    intro c48 h
    simp (disch := omega) at c48
    simp -implicitDefEqProofs (disch := omega) [go_sem, bdP, t14_36, g32, ob5_36]
    obtain ⟨x45, hx45, h⟩ := bind_some' h
    refine ICalls.wkL (args' := [.ag (.v (str x31.1.fHref) :: .v (str x31.1.fUuid) :: (x31.1.fShadow.map fun x => .sl 1 (x.map fun x => [.v (str x)]))), .ag (.v (str ((⟨[], [], [[], [], [], [], [], [], [], []]⟩ : S39).fHref)) :: .v (str ((⟨[], [], [[], [], [], [], [], [], [], []]⟩ : S39).fUuid)) :: (((⟨[], [], [[], [], [], [], [], [], [], []]⟩ : S39).fShadow).map fun x => .sl 1 (x.map fun x => [.v (str x)])))]) (by repeat (first | exact WkL.nil | refine WkL.cons ?_ ?_ | exact Wk.refl _ | exact Wk.nil _ | refine Wk.agL ?_)) (F19_ok x31.1 (⟨[], [], [[], [], [], [], [], [], [], []]⟩ : S39) hx45 ?_)
    refine sG ?_
    refine splitG_f h eA ?_ ?_
    ·intro c47 h
     refine sG ?_
     obtain ⟨x46, hx46, h⟩ := bind_some' h
     refine F11_ok  (by exact hV.of (he36).sn) hx46 ?_
     refine sG ?_
     subst hc37
     refine vO ?_
     obtain rfl := Option.some.inj h
     refine sG ?_
     refine retG_pureE (extA he36) rfl nbA hK
    intro c47 h
    simp (disch := omega) at c47
    refine sG ?_
    subst hc37
    refine vO ?_
    obtain rfl := Option.some.inj h
    refine sG ?_
    refine retG_pureE (extA he36) rfl nbA hK
   intro c49 h
   simp (disch := omega) at c49
   refine sG ?_
   subst hc37
   refine vO ?_
   obtain rfl := Option.some.inj h
   refine sG ?_
   refine retG_pureE (extA he36) rfl nbA hK
  refine IWp_seqF fun cb hc51 => ?_
  refine IWp_drawP [19, 32] [0, 1, 2, 3, 4, 5, 6, 7, 8, 9, 10, 11, 12, 13, 14, 15, 16, 17, 18, 19, 20, 21, 22, 23, 24, 25, 26, 27, 28, 29, 30, 31, 32, 33, 34, 35] (by kernel_rfl) (by kernel_rfl) (fun _ _ _ _ h => h) ?_
  refine sG ?_
  refine splitG_f h eA ?_ ?_
  ·intro c73 h
   refine sG ?_
   subst hc51
   refine IWp_cond_t eA rfl ?_
   refine wG ?_
   refine vO ?_
   obtain rfl := Option.some.inj h
   refine sG ?_
   refine retG_pureE (extA he17e) rfl nbA hK
  intro c73 h
  simp (disch := omega) at c73
  refine sG ?_
  refine splitG_f h eA ?_ ?_
  ·intro c72 h
   refine sG ?_
   subst hc51
   refine IWp_cond_t eA rfl ?_
   refine wG ?_
   refine vO ?_
   obtain rfl := Option.some.inj h
   refine sG ?_
   refine retG_pureE (extA he17e) rfl nbA hK
  intro c72 h
  simp (disch := omega) at c72
  refine sG ?_
  refine splitG_f h eA ?_ ?_
  ·intro c71 h
   obtain ⟨g54, h⟩ := gd_some.1 h
   obtain ⟨g55, h⟩ := gS h
   refine sF (nd t8_17e (nd ob3_17e (nd g29 g55))) ?_
   obtain ⟨x56, hx56, h⟩ := bind_some' h
   refine PureC.mk _ (fun _ _ hK => ICalls.eqA eA (F19_ok x28.1 (v26.fL.getD x34.toNat S39.zero) hx56 hK)) ?_
   refine sG ?_
   refine splitG_f h eA ?_ ?_
   ·intro c64 h
    simp (disch := omega) at c64
    refine sG ?_
    subst hc51
    refine IWp_cond_t eA rfl ?_
    refine wG ?_
    refine vO ?_
    obtain rfl := Option.some.inj h
    refine sG ?_
    refine retG_pureE (extA he17e) rfl nbA hK
   intro c64 h
   simp (disch := omega) at c64
   refine sG ?_
   refine splitG_f h eA ?_ ?_
   ·intro c63 h
    obtain ⟨g58, h⟩ := gd_some.1 h
    obtain ⟨g59, h⟩ := gS h
    refine sF (nd t8_17e (nd ob3_17e (nd g32 g59))) ?_
    obtain ⟨x60, hx60, h⟩ := bind_some' h
    refine PureC.mk _ (fun _ _ hK => ICalls.eqA eA (F19_ok x31.1 (v26.fL.getD x35.toNat S39.zero) hx60 hK)) ?_
    refine sG ?_
    subst hc51
    refine IWp_cond_i h eA rfl ?_ ?_
    ·intro c61 h
     simp (disch := omega) at c61
     refine wG ?_
     refine vO ?_
     obtain rfl := Option.some.inj h
     refine sG ?_
     refine retG_pureE (extA he17e) rfl nbA hK
    intro c61 h
    simp (disch := omega) at c61
    refine vO ?_
    refine hc36 _ _ ?_
    refine .same ⟨by exact extA he17e, by (simp -implicitDefEqProofs (disch := omega) [go_sem] <;> omega), ?_, ?_, ?_, ?_, ?_, ?_, ?_, ?_, ?_, ?_, h⟩ <;> (simp -implicitDefEqProofs (disch := omega) [go_sem, ob0_17e, ob1_17e, ob2_17e, ob3_17e] <;> omega)
   intro c63 h
   simp (disch := omega) at c63
   refine sG ?_
   subst hc51
   refine IWp_cond_f eA rfl ?_
   refine vO ?_
   refine hc36 _ _ ?_
   refine .same ⟨by exact extA he17e, by (simp -implicitDefEqProofs (disch := omega) [go_sem] <;> omega), ?_, ?_, ?_, ?_, ?_, ?_, ?_, ?_, ?_, ?_, h⟩ <;> (simp -implicitDefEqProofs (disch := omega) [go_sem, ob0_17e, ob1_17e, ob2_17e, ob3_17e] <;> omega)
  intro c71 h
  simp (disch := omega) at c71
  refine sG ?_
  refine splitG_f h eA ?_ ?_
  ·intro c70 h
   obtain ⟨g65, h⟩ := gd_some.1 h
   obtain ⟨g66, h⟩ := gS h
   refine sF (nd t8_17e (nd ob3_17e (nd g32 g66))) ?_
   obtain ⟨x67, hx67, h⟩ := bind_some' h
   refine PureC.mk _ (fun _ _ hK => ICalls.eqA eA (F19_ok x31.1 (v26.fL.getD x35.toNat S39.zero) hx67 hK)) ?_
   refine sG ?_
   subst hc51
   refine IWp_cond_i h eA rfl ?_ ?_
   ·intro c68 h
    simp (disch := omega) at c68
    refine wG ?_
    refine vO ?_
    obtain rfl := Option.some.inj h
    refine sG ?_
    refine retG_pureE (extA he17e) rfl nbA hK
   intro c68 h
   simp (disch := omega) at c68
   refine vO ?_
   refine hc36 _ _ ?_
   refine .same ⟨by exact extA he17e, by (simp -implicitDefEqProofs (disch := omega) [go_sem] <;> omega), ?_, ?_, ?_, ?_, ?_, ?_, ?_, ?_, ?_, ?_, h⟩ <;> (simp -implicitDefEqProofs (disch := omega) [go_sem, ob0_17e, ob1_17e, ob2_17e, ob3_17e] <;> omega)
  intro c70 h
  simp (disch := omega) at c70
  refine sG ?_
  subst hc51
  refine IWp_cond_f eA rfl ?_
  refine vO ?_
  refine hc36 _ _ ?_
  refine .same ⟨by exact extA he17e, by (simp -implicitDefEqProofs (disch := omega) [go_sem] <;> omega), ?_, ?_, ?_, ?_, ?_, ?_, ?_, ?_, ?_, ?_, h⟩ <;> (simp -implicitDefEqProofs (disch := omega) [go_sem, ob0_17e, ob1_17e, ob2_17e, ob3_17e] <;> omega)
 refine IWp_block ?_
 refine IWp_loopF (fun (s : Int × (Option S33) × (List (List UInt8 × S39)) × (List (List UInt8 × (List UInt8))) × S35) tm' H' => Ext H H' ∧ H.next + 4 ≤ H'.next ∧ tm' 0 = .sl 12 (a0.map fun x => .v (.int .i64 x.fKind) :: .v (str x.fPairing.fHref) :: .v (str x.fPairing.fUuid) :: ((x.fPairing.fShadow.map fun x => .sl 1 (x.map fun x => [.v (str x)])) ++ [.sl 2 (x.fDn.map fun x => [.v (str x.fType), .v (str x.fValue)])])) ∧ tm' 1 = .v (str a1) ∧ tm' 2 = .v (str a2) ∧ tm' 7 = .p H.next 0 ∧ tm' 8 = .p (H.next + 3) 0 ∧ tm' 9 = .v (.int .i64 s.1) ∧ H'.obj H.next = some (.cells ([.mp (H.next + 1), .mp (H.next + 2), optP (fun (x : S33) => .v (str x.fHref) :: .v (str x.fUuid) :: .sl 2 (x.fDn.map fun x => [.v (str x.fType), .v (str x.fValue)]) :: (x.fShadow.map fun x => .sl 1 (x.map fun x => [.v (str x)]))) s.2.1])) ∧ H'.obj (H.next + 1) = some (.map (mE (fun (x : S39) => .ag (.v (str x.fHref) :: .v (str x.fUuid) :: (x.fShadow.map fun x => .sl 1 (x.map fun x => [.v (str x)])))) s.2.2.1)) ∧ H'.obj (H.next + 2) = some (.map (mE (fun (x : List UInt8) => .v (str x)) s.2.2.2.1)) ∧ H'.obj (H.next + 3) = some (.cells (.sl 10 (s.2.2.2.2.fL.map fun x => .v (str x.fHref) :: .v (str x.fUuid) :: (x.fShadow.map fun x => .sl 1 (x.map fun x => [.v (str x)]))) :: .v (str s.2.2.2.2.fP.fHref) :: .v (str s.2.2.2.2.fP.fUuid) :: .sl 2 (s.2.2.2.2.fP.fDn.map fun x => [.v (str x.fType), .v (str x.fValue)]) :: (s.2.2.2.2.fP.fShadow.map fun x => .sl 1 (x.map fun x => [.v (str x)]))))) hl17q ?_ ?_
 ·refine UpI.gh (Gh.wkBox (kb := H.next + 3) (cs := [.v (.slice none 0 0), .v (str []), .v (str []), .v (.slice none 0 0), .v (.slice none 0 0), .v (.slice none 0 0), .v (.slice none 0 0), .v (.slice none 0 0), .v (.slice none 0 0), .v (.slice none 0 0), .v (.slice none 0 0), .v (.slice none 0 0)]) (cs' := [.sl 10 (([] : List S39).map fun x => .v (str x.fHref) :: .v (str x.fUuid) :: (x.fShadow.map fun x => .sl 1 (x.map fun x => [.v (str x)]))), .v (str []), .v (str []), .sl 2 (([] : List S89).map fun x => [.v (str x.fType), .v (str x.fValue)]), .sl 1 ((([] : List (List UInt8))).map fun x => [.v (str x)]), .sl 1 ((([] : List (List UInt8))).map fun x => [.v (str x)]), .sl 1 ((([] : List (List UInt8))).map fun x => [.v (str x)]), .sl 1 ((([] : List (List UInt8))).map fun x => [.v (str x)]), .sl 1 ((([] : List (List UInt8))).map fun x => [.v (str x)]), .sl 1 ((([] : List (List UInt8))).map fun x => [.v (str x)]), .sl 1 ((([] : List (List UInt8))).map fun x => [.v (str x)]), .sl 1 ((([] : List (List UInt8))).map fun x => [.v (str x)])]) eA (by repeat (first | exact WkL.nil | refine WkL.cons ?_ ?_ | exact Wk.refl _ | exact Wk.nil _))) ?_
  refine .same ⟨by exact extA (Ext.refl hw), by (simp -implicitDefEqProofs (disch := omega) [go_sem] <;> omega), ?_, ?_, ?_, ?_, ?_, ?_, ?_, ?_, ?_, ?_⟩ <;> (simp -implicitDefEqProofs (disch := omega) [go_sem] <;> omega)
 rintro I17 hI17 ⟨v18, v19, v20, v21, v22⟩ x17 tm17 H17 ⟨he17, hl17, t0_17, t1_17, t2_17, t7_17, t8_17, t9_17, ob0_17, ob1_17, ob2_17, ob3_17⟩ h hret17
 replace h : F4_b17 a0 v18 v19 v20 v21 v22 = some x17 := h
 unfold F4_b17 at h
 refine IWp_seqF fun cb hc74 => ?_
 refine wF (nd t0_17 t9_17) ?_
 refine IWp_cond_i h eA rfl ?_ ?_
 ·intro c76 h
  refine vO ?_
  subst hc74
  refine IWp_seqF fun cb hc77 => ?_
  refine IWp_block ?_
  refine IWp_seqC (fun tm' H' => ∃ v79 : Bool, ∃ v80 : Option S33, ∃ v81 : List (List UInt8 × S39), ∃ v82 : List (List UInt8 × (List UInt8)), ∃ v83 : S35, Ext H H' ∧ H17.next + 1 ≤ H'.next ∧ tm' 0 = .sl 12 (a0.map fun x => .v (.int .i64 x.fKind) :: .v (str x.fPairing.fHref) :: .v (str x.fPairing.fUuid) :: ((x.fPairing.fShadow.map fun x => .sl 1 (x.map fun x => [.v (str x)])) ++ [.sl 2 (x.fDn.map fun x => [.v (str x.fType), .v (str x.fValue)])])) ∧ tm' 1 = .v (str a1) ∧ tm' 2 = .v (str a2) ∧ tm' 7 = .p H.next 0 ∧ tm' 8 = .p (H.next + 3) 0 ∧ tm' 9 = .v (.int .i64 v18) ∧ tm' 10 = .p H17.next 0 ∧ tm' 11 = .v (.bool v79) ∧ H'.obj H.next = some (.cells ([.mp (H.next + 1), .mp (H.next + 2), optP (fun (x : S33) => .v (str x.fHref) :: .v (str x.fUuid) :: .sl 2 (x.fDn.map fun x => [.v (str x.fType), .v (str x.fValue)]) :: (x.fShadow.map fun x => .sl 1 (x.map fun x => [.v (str x)]))) v80])) ∧ H'.obj (H.next + 1) = some (.map (mE (fun (x : S39) => .ag (.v (str x.fHref) :: .v (str x.fUuid) :: (x.fShadow.map fun x => .sl 1 (x.map fun x => [.v (str x)])))) v81)) ∧ H'.obj (H.next + 2) = some (.map (mE (fun (x : List UInt8) => .v (str x)) v82)) ∧ H'.obj (H.next + 3) = some (.cells (.sl 10 (v22.fL.map fun x => .v (str x.fHref) :: .v (str x.fUuid) :: (x.fShadow.map fun x => .sl 1 (x.map fun x => [.v (str x)]))) :: .v (str v22.fP.fHref) :: .v (str v22.fP.fUuid) :: .sl 2 (v22.fP.fDn.map fun x => [.v (str x.fType), .v (str x.fValue)]) :: (v22.fP.fShadow.map fun x => .sl 1 (x.map fun x => [.v (str x)])))) ∧ H'.obj H17.next = some (.cells (.sl 10 (v83.fL.map fun x => .v (str x.fHref) :: .v (str x.fUuid) :: (x.fShadow.map fun x => .sl 1 (x.map fun x => [.v (str x)]))) :: .v (str v83.fP.fHref) :: .v (str v83.fP.fUuid) :: .sl 2 (v83.fP.fDn.map fun x => [.v (str x.fType), .v (str x.fValue)]) :: (v83.fP.fShadow.map fun x => .sl 1 (x.map fun x => [.v (str x)])))) ∧ F4_k78 v18 v22 v79 v80 v81 v82 v83 = some x17) ?_ fun cb hc78 => ?_
  ·rintro tm78 H78 ⟨v79, v80, v81, v82, v83, he78, hl78, t0_78, t1_78, t2_78, t7_78, t8_78, t9_78, t10_78, t11_78, ob0_78, ob1_78, ob2_78, ob3_78, ob4_78, h⟩
   unfold F4_k78 at h
   refine IWp_seqF fun cb hc84 => ?_
   refine IWp_seqF fun cb hc85 => ?_
   refine vF t11_78 ?_
   refine splitG_f h eA ?_ ?_
   ·intro c92 h
    simp (disch := omega) at c92
    refine sG ?_
    subst hc85
    refine IWp_cond_t eA rfl ?_
    refine wG ?_
    refine vO ?_
    obtain rfl := Option.some.inj h
    obtain rfl := hret17 _ rfl
    replace h : some false = some r := hk17
    obtain rfl := Option.some.inj h
    refine sG ?_
    refine retG_pureE (extA he78) rfl nbA hK
   intro c92 h
   simp (disch := omega) at c92
   obtain ⟨g87, h⟩ := gd_some.1 h
   refine sF (nd t7_78 (nd t10_78 (nd ob4_78 g87))) ?_
   obtain ⟨x88, hx88, h⟩ := bind_some' h
   refine F20_ok v81 v82 v80 v83 H.next (H.next + 1) (H.next + 2) (by assumption) (by assumption) (by assumption) hx88 ?_
   refine sG ?_
   subst hc85
   refine IWp_cond_i h eA rfl ?_ ?_
   ·intro c89 h
    simp (disch := omega) at c89
    refine wG ?_
    refine vO ?_
    obtain rfl := Option.some.inj h
    obtain rfl := hret17 _ rfl
    replace h : some false = some r := hk17
    obtain rfl := Option.some.inj h
    refine sG ?_
    refine retG_pureE (extA he78) rfl nbA hK
   intro c89 h
   simp (disch := omega) at c89
   refine vO ?_
   subst hc84
   obtain ⟨g91, h⟩ := gd_some.1 h
   refine vF (nd t8_78 (nd t10_78 (nd ob3_78 (nd ob4_78 (nd g87 g91))))) ?_
   subst hc77
   refine vF t9_78 ?_
   obtain rfl := Option.some.inj h
   refine loopN_mk hI17 ((IntKind.i64.wrap (v18 + 1), v80, v81, v82, v83)) ?_
   refine .same ⟨by exact extA he78, by (simp -implicitDefEqProofs (disch := omega) [go_sem] <;> omega), ?_, ?_, ?_, ?_, ?_, ?_, ?_, ?_, ?_, ?_⟩ <;> (simp -implicitDefEqProofs (disch := omega) [go_sem, t0_78, t1_78, t2_78, t7_78, t8_78, ob0_78, ob1_78, ob2_78] <;> omega)
  refine IWp_drawB [] [0, 1, 2, 3, 4, 5] 6 10 [7, 8, 9, 10, 11, 12] [6, 7, 8, 9, 11, 12] (by kernel_rfl) (by kernel_rfl) (fun _ _ _ _ h => h) ?_
  obtain ⟨g93, h⟩ := gd_some.1 h
  obtain ⟨g94, h⟩ := gd_some.1 h
  obtain ⟨g95, h⟩ := gS h
  refine sF (nd t0_17 (nd t7_17 (nd t8_17 (nd t9_17 (nd ob3_17 (nd g93 g95)))))) ?_
  refine brE.mk (stepX_l ?_) (stepX_l ?_)
  ·refine sG ?_
   obtain ⟨x96, hx96, h⟩ := bind_some' h
   refine ICalls.eqA eA (F13_ok v20 v21 v19 v22 (a0.getD v18.toNat S41.zero) H.next (H.next + 1) (H.next + 2) (by assumption) (by assumption) (by assumption) (by omega) hx96 ?_)
   obtain ⟨g97, h⟩ := gd_some.1 h
   refine sF (nd ob3_17 (nd g93 g97)) ?_
   refine hc78 _ _ ?_
   refine .same ⟨x96.2.1, x96.2.2.1, x96.2.2.2.1, x96.2.2.2.2, x96.1, by exact extA he17, by (simp -implicitDefEqProofs (disch := omega) [go_sem] <;> omega), ?_, ?_, ?_, ?_, ?_, ?_, ?_, ?_, ?_, ?_, ?_, ?_, ?_, h⟩ <;> (simp -implicitDefEqProofs (disch := omega) [go_sem, t0_17, t1_17, t2_17, t7_17, t8_17, t9_17, ob3_17] <;> omega)
  refine sF (nd ob3_17 g93) ?_
  obtain ⟨x98, hx98, h⟩ := bind_some' h
  refine ICalls.eqA eA (F13_ok v20 v21 v19 v22 (a0.getD v18.toNat S41.zero) H.next (H.next + 1) (H.next + 2) (eF ob0_17) (eF ob1_17) (eF ob2_17) (by omega) hx98 ?_)
  obtain ⟨g99, h⟩ := gd_some.1 h
  refine sF (nd ob3_17 (nd g93 g99)) ?_
  refine hc78 _ _ ?_
  refine .same ⟨x98.2.1, x98.2.2.1, x98.2.2.2.1, x98.2.2.2.2, x98.1, by exact extA he17, by (simp -implicitDefEqProofs (disch := omega) [go_sem] <;> omega), ?_, ?_, ?_, ?_, ?_, ?_, ?_, ?_, ?_, ?_, ?_, ?_, ?_, h⟩ <;> (simp -implicitDefEqProofs (disch := omega) [go_sem, t0_17, t1_17, t2_17, t7_17, t8_17, t9_17, ob3_17] <;> omega)
 intro c76 h
 simp (disch := omega) at c76
 refine vO ?_
 obtain rfl := Option.some.inj h
 have hy17 := hret17 _ rfl
 refine hc17 _ _ ?_
 refine .same ⟨v19, v20, v21, v22, hy17, by exact extA he17, by with_reducible assumption, ?_, ?_, ?_, ?_, ?_, ?_, ?_, ?_⟩ <;> first | with_reducible assumption | (simp -implicitDefEqProofs (disch := omega) [go_sem, t1_17, t2_17, t7_17, t8_17] <;> omega)

/-! slices.Equal[[]cardcase/api.Pair,cardcase/api.Pair] -/

/-! cardcase/pairs.Same -/

/-! cardcase/cardcaseref20.Same -/

end Go.Idl

namespace Go.Idl

set_option maxHeartbeats 8000000

set_option pp.deepTerms false

set_option maxRecDepth 60000

open Go Go.Proofs.Tryz

/-! cardcase/cardcaselaw20.PairsCopies -/

/-! (*cardcase/pairs.Pairs).none -/

/-! (*cardcase/pairs.Pairs).Card -/

/-! (*cardcase/pairs.Pairs).none -/

/-! (*cardcase/pairs.Pairs).Entry -/

/-! (*cardcase/pairs.Pairs).Promised -/

/-! (*cardcase/pairs.Pairs).All -/

/-! (*cardcase/pairs.Pairs).Promise -/

/-! (*cardcase/pairs.Pairs).Clear -/

/-! (*cardcase/pairs.Pairs).Add -/

/-! (*cardcase/pairs.Pairs).Set -/

/-! (*cardcase/pairs.Pairs).Drop -/

/-! (*cardcase/pairs.Pairs).Promised -/

/-! (*cardcase/pairs.Pairs).All -/

end Go.Idl

namespace Go.Idl

set_option maxHeartbeats 8000000

set_option pp.deepTerms false

set_option maxRecDepth 60000

open Go Go.Proofs.Tryz

/-! (*cardcase/pairs.Pairs).Rows -/

/-! (*cardcase/pairs.Pairs).Len -/

/-! (*cardcase/pairs.Pairs).Copy -/

/-! cardcase/pairs.Same -/

/-! cardcase/pairs.Same -/

/-! cardcase/cardcaselaw20.PairsNil -/

end Go.Idl

namespace Go.Idl

open Go

variable {m : Mp} {n : Np} {pr : Option S33} {d : S35}

/-! ### The pair that is known -/

def annE : List (List Str) := [[[65, 110, 110]], [], [], [], [], [], [], []]

def oneE : S39 := ⟨[47, 98, 111, 111, 107, 47, 97], [117, 49], annE⟩

def twoE : S39 := ⟨[47, 98, 111, 111, 107, 47, 98], [117, 49], annE⟩

theorem bigE : bigC annE := by decide

theorem okE1 : okX oneE := ⟨by decide, by decide, bigE⟩

theorem okE2 : okX twoE := ⟨by decide, by decide, bigE⟩

theorem checkE : checkS annE = true := by decide

theorem add1 : addD [] oneE = ([oneE], 0) := by
  have h : goodB oneE = true := by decide
  unfold addD
  rw [if_pos h]
  rfl

theorem add2 : addD [oneE] twoE = ([oneE], 300) := by
  have h : goodB twoE = true := by decide
  have e1 : cardI [oneE] twoE.fHref = -1 := by decide
  have e2 : entI [oneE] twoE.fUuid = 0 := by decide
  unfold addD
  rw [if_pos h, e1, e2]
  rfl

theorem textE : textS annE = [102, 117, 108, 108, 32, 49, 10, 51, 32, 65, 110, 110, 10] := by
  have d1 : Lib.decDigits 1 = [49] := by unfold Lib.decDigits; rfl
  have d3 : Lib.decDigits 3 = [51] := by unfold Lib.decDigits; rfl
  have e : textS annE = (namesS.getD 0 [] ++ 32 :: Lib.decDigits 1 ++ [10]) ++ (Lib.decDigits 3 ++ 32 :: [65, 110, 110] ++ [10]) := by
    simp [textS, fieldT, annE]
  rw [e, d1, d3]
  rfl

theorem F11_eq : F11 = some true := by
  obtain ⟨m1, n1, e1, I1⟩ := F29_inv Inv.nil oneE okE1
  rw [show (⟨[], S33.zero⟩ : S35).fL = [] from rfl, add1] at e1 I1
  obtain ⟨m2, n2, e2, I2⟩ := F29_inv I1 twoE okE2
  rw [show (⟨[oneE], S33.zero⟩ : S35).fL = [oneE] from rfl, add2] at e2 I2
  have h31 : F31 = some annE := rfl
  have h8 : annE.length = 8 := rfl
  have g1 : mget n2 [117, 49] = some oneE.fHref := I2.tabs.getU (x := oneE) (by simp)
  have g2 : mget m2 oneE.fHref = some oneE := I2.tabs.get (x := oneE) (by simp)
  have h18 : F18 m2 n2 none [117, 49] = some (oneE, true) := by
    rw [F18_eq I2, g1]
    simp only [Option.getD_some]
    rw [g2]; rfl
  have h61 : F61 annE = some (textS annE, 0) := by
    unfold F61
    rw [gd_pos (by decide), if_pos checkE, if_pos checkE]
  have h33 : F33 m2 n2 none = some [(⟨[112] ++ oneE.fHref, (oneE.fUuid ++ [10]) ++ textS annE⟩ : S78)] := by
    unfold F33
    rw [F26_eq I2]
    simp only [Option.bind_some, Option.isSome_none, Bool.false_eq_true, if_false]
    rw [gd_pos I2.psh]
    unfold F33_k3
    rw [F14_eq I2]
    simp only [Option.bind_some]
    rw [gd_pos I2.bigs]
    unfold rangeR
    have hen : enumI [oneE] = [((0 : Int), oneE)] := rfl
    rw [hen, rangeO_cons]
    have hs : F33_b9 ((0 : Int), oneE) [] = some (.inl [(⟨[112] ++ oneE.fHref, (oneE.fUuid ++ [10]) ++ textS annE⟩ : S78)]) := by
      unfold F33_b9
      rw [gd_pos (show ((0 : Int), oneE).2.fShadow.length = 8 from rfl), show ((0 : Int), oneE).2.fShadow = annE from rfl, h61]
      simp only [Option.bind_some]
      rw [textE]
      rw [gd_pos (by decide), gd_pos (by decide), gd_pos (by decide), gd_pos (by decide)]
      rfl
    rw [hs]
    rfl
  unfold F11
  rw [show F12 = some ([], [], none) from rfl, h31]
  simp only [Option.bind_some]
  rw [gd_pos h8, show (⟨[47, 98, 111, 111, 107, 47, 97], [117, 49], annE⟩ : S39) = oneE from rfl, e1]
  simp only [Option.bind_some]
  rw [gd_pos h8, show (⟨[47, 98, 111, 111, 107, 47, 98], [117, 49], annE⟩ : S39) = twoE from rfl, e2]
  simp only [Option.bind_some]
  rw [h18]
  simp only [Option.bind_some]
  rw [gd_pos (show oneE.fShadow.length = 8 from rfl), h33, textE]
  rfl

/-! ### Any calls -/

end Go.Idl

namespace Go.Idl

open Go

variable {m : Mp} {n : Np} {pr : Option S33} {d : S35}

theorem F21_val (I : Inv m n pr d) (h : Str) : (0 ≤ cardI d.fL h ∧ ∃ hk : (cardI d.fL h).toNat < d.fL.length, F21 m n pr h = some (d.fL[(cardI d.fL h).toNat], true)) ∨ (cardI d.fL h = -1 ∧ F21 m n pr h = some (S39.zero, false)) := by
  rw [F21_eq I]
  rcases cardI_pos d.fL h with ⟨q, _⟩ | ⟨q, e⟩
  · obtain ⟨hk, e1, e2⟩ := I.at_ q
    exact .inl ⟨q, hk, by rw [e1]; rfl⟩
  · exact .inr ⟨q, by rw [(I.tabs.nothing (h := h)).2 e]; rfl⟩

theorem F18_val (I : Inv m n pr d) (u : Str) : (0 ≤ entI d.fL u ∧ ∃ hk : (entI d.fL u).toNat < d.fL.length, F18 m n pr u = some (d.fL[(entI d.fL u).toNat], true)) ∨ (entI d.fL u = -1 ∧ F18 m n pr u = some (S39.zero, false)) := by
  rw [F18_eq I]
  rcases entI_pos d.fL u with ⟨q, hk, e⟩ | ⟨q, e⟩
  · have g1 := I.tabs.getU (List.getElem_mem hk)
    have g2 := I.tabs.get (List.getElem_mem hk)
    rw [e] at g1
    exact .inl ⟨q, hk, by rw [g1]; simp only [Option.getD_some]; rw [g2]; rfl⟩
  · refine .inr ⟨q, ?_⟩
    rw [(I.tabs.nothingU (u := u)).2 e]
    have : mget m [] = none := (I.tabs.nothing (h := [])).2 fun x hx => by
      have := (I.good x hx).1
      simp only [goodB, Bool.and_eq_true] at this
      exact href_ne this.1.1
    simp only [Option.getD_none]
    rw [this]; rfl

theorem loop4 (l : List S41) (hl : l.length ≤ 1000) (h : ∀ a ∈ l, okA a) : ∃ m n pr d, loopO (fun (s : Int × (Option S33) × Mp × Np × S35) => F4_b17 l s.1 s.2.1 s.2.2.1 s.2.2.2.1 s.2.2.2.2) (0, none, [], [], ⟨[], S33.zero⟩) = some (.inl (pr, m, n, d)) ∧ Inv m n pr d := by
  obtain ⟨r, h1, h2⟩ := loopO_inv (step := fun (s : Int × (Option S33) × Mp × Np × S35) => F4_b17 l s.1 s.2.1 s.2.2.1 s.2.2.2.1 s.2.2.2.2) (Post := fun y => ∃ m n pr d, y = .inl (pr, m, n, d) ∧ Inv m n pr d)
    (fun s => ∃ i : Nat, i ≤ l.length ∧ s.1 = (i : Int) ∧ Inv s.2.2.1 s.2.2.2.1 s.2.1 s.2.2.2.2) (fun s => l.length - s.1.toNat)
    (by
      rintro ⟨k, pr, m, n, d⟩ ⟨i, hi, hk, I⟩
      simp only at hk I
      subst hk
      simp only [F4_b17]
      by_cases hlt : i < l.length
      · have hw := wrap_nat (i := i) (by omega)
        have hl64 := I.len
        obtain ⟨m', n', pr', I', hf⟩ := F13_inv I l[i] (h _ (List.getElem_mem _))
        left
        rw [if_pos (by omega), gd_pos I.psh, gd_pos (by omega), Int.toNat_natCast, getD_some hlt, gd_pos (h _ (List.getElem_mem hlt)).1.2.2.1, hf d (by omega) I.sh I.psh]
        simp only [Option.bind_some, decide_true]
        rw [gd_pos I'.psh]
        unfold F4_k78
        rw [if_neg (by simp), gd_pos I'.psh, F20_eq I']
        simp only [Option.bind_some]
        rw [if_neg (by simp), gd_pos I.psh, hw]
        exact ⟨_, rfl, ⟨i + 1, by omega, rfl, I'⟩, by simp; omega⟩
      · right
        rw [if_neg (by omega)]
        exact ⟨_, rfl, _, _, _, _, rfl, I⟩)
    (s := (0, none, [], [], ⟨[], S33.zero⟩)) ⟨0, by omega, rfl, Inv.nil⟩
  obtain ⟨m, n, pr, d, rfl, I⟩ := h2
  exact ⟨m, n, pr, d, h1, I⟩

theorem F19_zero : F19 S39.zero S39.zero = some true := by rw [F19_eq _ _ rfl rfl]; simp

theorem k36_eq {x y : S39} {a b : Bool} (hx : a = false → x = S39.zero) (hy : b = false → y = S39.zero) : F4_k36 (x, a) (y, b) = some true := by
  unfold F4_k36
  rw [zeroX_eq, F11_eq]
  cases a with
  | true =>
    cases b with
    | true => rfl
    | false =>
      simp only [if_true, Bool.false_eq_true, if_false]
      rw [hy rfl, F19_zero]
      rfl
  | false =>
    simp only [Bool.false_eq_true, if_false]
    rw [hx rfl, F19_zero]
    cases b with
    | true => rfl
    | false =>
      simp only [Bool.false_eq_true, if_false, Option.bind_some, if_true]
      rw [hy rfl, F19_zero]
      rfl

theorem k17_eq (I : Inv m n pr d) (h u : Str) : F4_k17 h u pr m n d = some true := by
  have hl := I.len
  unfold F4_k17
  rw [F15_eq _ _ (by omega), F16_eq _ _ (by omega)]
  rcases F21_val I h with ⟨c1, hk, e1⟩ | ⟨c1, e1⟩ <;> rcases F18_val I u with ⟨c2, hj, e2⟩ | ⟨c2, e2⟩
  · rw [e1, e2]
    have hx := I.sh _ (List.getElem_mem hk)
    have hy := I.sh _ (List.getElem_mem hj)
    simp only [Option.bind_some]
    rw [gd_pos hx, gd_pos hy, decide_eq_true c1, decide_eq_true c2, if_neg (by simp), if_neg (by simp), if_pos trivial, gd_pos (by omega), getD_some hk, gd_pos hx, F19_eq _ _ hx hx]
    simp only [Option.bind_some, decide_true]
    rw [if_neg (by simp), if_pos trivial, gd_pos (by omega), getD_some hj, gd_pos hy, F19_eq _ _ hy hy]
    simp only [Option.bind_some, decide_true]
    rw [if_neg (by simp), k36_eq (by simp) (by simp)]
  · rw [e1, e2]
    have hx := I.sh _ (List.getElem_mem hk)
    simp only [Option.bind_some]
    rw [gd_pos hx, gd_pos (show S39.zero.fShadow.length = 8 from rfl), decide_eq_true c1, decide_eq_false (by omega), if_neg (by simp), if_neg (by simp), if_pos trivial, gd_pos (by omega), getD_some hk, gd_pos hx, F19_eq _ _ hx hx]
    simp only [Option.bind_some, decide_true]
    rw [if_neg (by simp), if_neg (by simp), k36_eq (by simp) (by simp)]
  · rw [e1, e2]
    have hy := I.sh _ (List.getElem_mem hj)
    simp only [Option.bind_some]
    rw [gd_pos (show S39.zero.fShadow.length = 8 from rfl), gd_pos hy, decide_eq_false (by omega), decide_eq_true c2, if_neg (by simp), if_neg (by simp), if_neg (by simp), if_pos trivial, gd_pos (by omega), getD_some hj, gd_pos hy, F19_eq _ _ hy hy]
    simp only [Option.bind_some, decide_true]
    rw [if_neg (by simp), k36_eq (by simp) (by simp)]
  · rw [e1, e2]
    simp only [Option.bind_some]
    rw [gd_pos (show S39.zero.fShadow.length = 8 from rfl), gd_pos (show S39.zero.fShadow.length = 8 from rfl), decide_eq_false (by omega), decide_eq_false (by omega), if_neg (by simp), if_neg (by simp), if_neg (by simp), if_neg (by simp), k36_eq (by simp) (by simp)]

theorem F4_eq (l : List S41) (h u : Str) (hm : ∀ a ∈ l, memA a) : F4 l h u = some true := by
  unfold F4
  rw [F10_eq l 90 (by omega) hm, F11_eq]
  simp only [Option.bind_some]
  by_cases h0 : (decide ((l.length : Int) ≤ 90) && l.all fewA) = true
  · rw [if_neg (by simpa using h0), show F12 = some ([], [], none) from rfl]
    simp only [Bool.and_eq_true, decide_eq_true_eq, List.all_eq_true] at h0
    have hok : ∀ a ∈ l, okA a := fun a ha => fewA_ok (h0.2 a ha) (hm a ha).1
    obtain ⟨m, n, pr, d, h1, I⟩ := loop4 l (by omega) hok
    simp only [Option.bind_some]
    rw [zeroP_eq, h1]
    simp only [Option.bind_some, Sum.elim_inl]
    rw [k17_eq I]
    split
    · rfl
    · split <;> rfl
  · rw [if_pos h0]

/-! ### Pairs that are not there -/

end Go.Idl

namespace Go.Idl

open Go Go.RowKit Go.ChangeShapes Go.WideShapes

def g0 : Gs := { oth := fun _ => False, mu := fun _ => undef, sh := fun _ => none, nx := 0 }

def H0 : IHeap := { next := 0, obj := fun _ => none, sn := [] }

theorem ow0 (b : Nat) : ¬ g0.ow b := by
  rintro (h | ⟨k, h, _⟩)
  · exact h
  · cases h

theorem below_of_mono {w w' : World} {g' : Gs} (m : Mono w g0 w' g') : Below w.heap.size w w' :=
  ⟨m.os, m.tape, m.output, m.size, fun k hk => m.keep k hk fun ⟨i, h, _⟩ => by cases h⟩

variable {P : Program} {w : World} {Hh : Type} {enc : TypeId × Value → Hh}

def Rd (P : Program) (w : World) {Hh : Type} (enc : TypeId × Value → Hh) (t : TypeId) (S : List IV → Prop) : Prop :=
  ∀ (base : Nat) (spare : Nat → Bool) (held : Bool) (fuel : Nat) (cs : List Value) (x : DataW Hh × List MemPlace), DataW.trod enc P w base spare held fuel t cs = some x →
    ∃ is, S is ∧ is.length = cs.length ∧ ∀ (j : Nat) (c : Value) (i : IV), cs[j]? = some c → is[j]? = some i → c.oneCell' = true ∧ R w g0 c i

theorem rd_one {c : Value} {i : IV} (ho : c.oneCell' = true) (hr : R w g0 c i) : ∀ (j : Nat) (c' : Value) (i' : IV), [c][j]? = some c' → [i][j]? = some i' → c'.oneCell' = true ∧ R w g0 c' i' := by
  intro j c' i' h1 h2
  cases j with
  | zero => simp at h1 h2; subst h1; subst h2; exact ⟨ho, hr⟩
  | succ j => simp at h1

theorem Rd_int {t : TypeId} {k : IntKind} (hu : P.underlying t = some (.int k)) : Rd P w enc t fun is => ∃ n : Int, is = [.v (.int k n)] := by
  intro base spare held fuel cs x h
  obtain ⟨n, rfl, _, _⟩ := DataW.trod_int hu h
  exact ⟨_, ⟨n, rfl⟩, rfl, rd_one rfl (.v _)⟩

theorem Rd_string {t : TypeId} (hu : P.underlying t = some .string) : Rd P w enc t fun is => ∃ s : List UInt8, is = [.v (str s)] := by
  intro base spare held fuel cs x h
  obtain ⟨s, rfl, _, _⟩ := DataW.trod_string hu h
  refine ⟨_, ⟨bytes s, rfl⟩, rfl, rd_one rfl ?_⟩
  rw [show str (bytes s) = .string s by rw [str, mk_bytes]]
  exact .v _

theorem choose_list {E : Type} (Pr : Nat → E → Prop) : ∀ n : Nat, (∀ i, i < n → ∃ x, Pr i x) → ∃ l : List E, l.length = n ∧ ∀ (i : Nat) (x : E), l[i]? = some x → Pr i x
  | 0, _ => ⟨[], rfl, by simp⟩
  | n + 1, h => by
    obtain ⟨l, h1, h2⟩ := choose_list Pr n fun i hi => h i (by omega)
    obtain ⟨x, hx⟩ := h n (by omega)
    refine ⟨l ++ [x], by simp [h1], fun i y hy => ?_⟩
    rcases Nat.lt_or_ge i n with hi | hi
    · rw [List.getElem?_append_left (by omega)] at hy
      exact h2 i y hy
    · rw [List.getElem?_append_right (by omega)] at hy
      have e : i = n := by
        have := (List.getElem?_eq_some_iff.1 hy).1
        simp at this; omega
      subst e
      simp [h1] at hy
      subst hy
      exact hx

theorem cells_get {base : Nat} {a : Addr} : ∀ {n : Nat} {cs : List Value}, w.cells? base a n = some cs → cs.length = n ∧ ∀ j, j < n → w.cell? (a.add j) = cs[j]? := by
  intro n cs h
  unfold World.cells? at h
  split at h
  · refine ⟨?_, fun j hj => ?_⟩
    · have := mapM_some_length h
      simpa using this
    · exact mapM_some_get h j j (by simp [hj])
  · cases h

theorem Rd_slice {t e : TypeId} {E : Type} (cells : E → List IV) (hu : P.underlying t = some (.slice e)) (h0 : 0 < P.cellsOf e) (he : Rd P w enc e fun is => ∃ x : E, is = cells x) :
    Rd P w enc t fun is => ∃ l : List E, is = [.sl (P.cellsOf e) (l.map cells)] := by
  intro base spare held fuel cs x h
  rcases DataW.trod_slice hu h with ⟨rfl, _⟩ | ⟨a, len, cap, elems, rest, n, _, rfl, _, hb, hl, hm, hlen, hel, _, _⟩
  · exact ⟨_, ⟨[], rfl⟩, rfl, rd_one rfl (.sl0 _ _ _)⟩
  · obtain ⟨l, l1, l2⟩ := choose_list (fun i (y : E) => (cells y).length = P.cellsOf e ∧ ∀ (j : Nat) (i' : IV), (cells y)[j]? = some i' → ∃ c, w.cell? ((a.add (i * P.cellsOf e)).add j) = some c ∧ c.oneCell' = true ∧ R w g0 c i') len (fun i hi => by
      have hei := hel i hi
      have hne : elems[i]? = some elems[i] := List.getElem?_eq_getElem (by omega)
      rw [hne, Option.bind_eq_some_iff] at hei
      obtain ⟨ci, hc, ht⟩ := hei
      obtain ⟨q1, q2⟩ := cells_get hc
      obtain ⟨is, ⟨y, rfl⟩, q3, q4⟩ := he _ _ _ _ _ _ ht
      refine ⟨y, by rw [q3, q1], fun j i' hj => ?_⟩
      have hjl : j < ci.length := by rw [← q3]; exact (List.getElem?_eq_some_iff.1 hj).1
      have := q4 j ci[j] i' (List.getElem?_eq_getElem hjl) hj
      exact ⟨ci[j], by rw [q2 j (by omega)]; exact List.getElem?_eq_getElem hjl, this⟩)
    refine ⟨_, ⟨l, rfl⟩, rfl, rd_one rfl ?_⟩
    by_cases hz : len = 0
    · subst hz
      have : l = [] := List.eq_nil_of_length_eq_zero l1
      subst this
      exact .sl0 _ _ _
    · have hlm : (l.map cells).length = len := by simp [l1]
      have h0l : 0 < l.length := by omega
      obtain ⟨q1, q2⟩ := l2 0 l[0] (List.getElem?_eq_getElem h0l)
      have hpos : 0 < (cells l[0]).length := by omega
      obtain ⟨c0, q3, _⟩ := q2 0 _ (List.getElem?_eq_getElem hpos)
      obtain ⟨b, off, spot⟩ := a
      have hsp : spot = none ∧ b < w.heap.size := by
        have e0 : ((⟨b, off, spot⟩ : Addr).add (0 * P.cellsOf e)).add 0 = ⟨b, off, spot⟩ := by simp [Addr.add]
        rw [e0] at q3
        unfold World.cell? at q3
        split at q3
        · rename_i hh
          refine ⟨?_, (Array.getElem?_eq_some_iff.1 hh).1⟩
          split at q3
          · cases q3
          · rename_i hs
            simpa using hs
        · cases q3
      obtain ⟨rfl, hlt⟩ := hsp
      rw [← hlm]
      refine .sl b off cap _ _ (fun i j => (w.cell? ⟨b, off + i * P.cellsOf e + j, none⟩).getD undef) (ow0 b) hlt (by rw [hlm]; have hm' : cap ≤ 9223372036854775807 := hm; unfold maxN; omega) (by omega) ?_ ?_ ?_ ?_
      · intro c hc
        obtain ⟨y, hy, rfl⟩ := List.mem_map.1 hc
        obtain ⟨i, hi⟩ := List.getElem?_of_mem hy
        exact (l2 i y hi).1
      all_goals
        intro i ee j c h1 h2
        simp only [List.getElem?_map, Option.map_eq_some_iff] at h1
        obtain ⟨y, hy, rfl⟩ := h1
        obtain ⟨c', r1, r2, r3⟩ := (l2 i y hy).2 j c h2
        rw [addr_add, addr_add] at r1
        first | (rw [r1]; rfl) | (simp only [r1, Option.getD_some]; first | exact r2 | exact r3)

theorem Rd_array {t e : TypeId} {E : Type} {n : Nat} (cell : E → IV) (hu : P.underlying t = some (.array n e)) (hc : P.cellsOf e = 1) (hct : P.cellsOf t = n) (he : Rd P w enc e fun is => ∃ x : E, is = [cell x]) :
    Rd P w enc t fun is => ∃ l : List E, l.length = n ∧ is = l.map cell := by
  intro base spare held fuel cs x h
  obtain ⟨xs, m, _, _, h1, h2, h3⟩ := DataW.trod_array hu h
  rw [hct] at h1
  obtain ⟨l, l1, l2⟩ := choose_list (fun i (y : E) => ∃ c, cs[i]? = some c ∧ c.oneCell' = true ∧ R w g0 c (cell y)) n (fun i hi => by
    have := h3 i hi
    rw [hc, Nat.mul_one] at this
    have hci : cs[i]? = some cs[i] := List.getElem?_eq_getElem (by omega)
    have hd : (cs.drop i).take 1 = [cs[i]] := by rw [List.drop_eq_getElem_cons (by omega)]; rfl
    rw [hd, List.getElem?_eq_getElem (by omega)] at this
    obtain ⟨is, ⟨y, rfl⟩, _, q4⟩ := he _ _ _ _ _ _ this
    exact ⟨y, cs[i], hci, q4 0 _ _ rfl rfl⟩)
  refine ⟨_, ⟨l, l1, rfl⟩, by simp [l1, h1], fun j c i h4 h5 => ?_⟩
  simp only [List.getElem?_map, Option.map_eq_some_iff] at h5
  obtain ⟨y, hy, rfl⟩ := h5
  obtain ⟨c', r1, r2, r3⟩ := l2 j y hy
  rw [h4] at r1
  cases r1
  exact ⟨r2, r3⟩

theorem Rd.one {t : TypeId} {v : Value} {d : DataW Hh} {ps : List MemPlace} {S : List IV → Prop} {base : Nat} {spare : Nat → Bool} {held : Bool} (h : Rd P w enc t S) (hv : v.cells = #[v]) (hd : DataW.Trod enc P w base spare held t v d ps) : ∃ i, S [i] ∧ R w g0 v i := by
  obtain ⟨fuel, hf⟩ := hd
  obtain ⟨is, h1, h2, h3⟩ := h _ _ _ _ _ _ hf
  rw [hv] at h2 h3
  match is, h2, h1, h3 with
  | [i], _, h1, h3 => exact ⟨i, h1, (h3 0 v i rfl rfl).2⟩

theorem Rd.agg {t : TypeId} {cs : Array Value} {d : DataW Hh} {ps : List MemPlace} {S : List IV → Prop} {base : Nat} {spare : Nat → Bool} {held : Bool} (h : Rd P w enc t S) (hd : DataW.Trod enc P w base spare held t (.agg cs) d ps) : ∃ is, S is ∧ R w g0 (.agg cs) (.ag is) := by
  obtain ⟨fuel, hf⟩ := hd
  obtain ⟨is, h1, h2, h3⟩ := h _ _ _ _ _ _ hf
  have hcs : (Value.agg cs).cells.toList = cs.toList := rfl
  rw [hcs] at h2 h3
  refine ⟨is, h1, .ag cs is (by simpa using h2.symm) (fun j x hx => ?_) fun j x c hx hc => (h3 j x c (by simpa using hx) hc).2⟩
  have hlt : j < is.length := by
    have := (Array.getElem?_eq_some_iff.1 hx).1
    rw [h2]; simpa using this
  exact (h3 j x is[j] (by simpa using hx) (List.getElem?_eq_getElem hlt)).1

end Go.Idl

namespace Go.Idl

open Go Go.RowKit Go.ChangeShapes Go.WideShapes

def HV (vs : List (Nat × Array Value)) : IHeap := { next := 0, obj := fun _ => none, sn := [varsT vs] }

theorem simV (w : World) (vs : List (Nat × Array Value)) (h : ∀ p, p ∈ vs → ∃ el f, w.heap[p.1]? = some (.cells p.2 el f)) : Sim w g0 (HV vs) where
  nx := rfl
  sh := fun _ => rfl
  lt := fun k h => by cases h
  bk := fun k b h => by cases h
  inj := fun k k' b h => by cases h
  obj := fun k o h => by cases h
  old := fun b h => h.elim
  snap := fun p hp i hi => by
    obtain rfl : p = varsT vs := by simpa [HV] using hp
    have hl : i < vs.length := by simpa [varsT] using hi
    obtain ⟨el, f, h1⟩ := h _ (List.getElem_mem hl)
    simp only [varsT, List.getElem?_eq_getElem hl]
    exact .blk _ _ el f _ (ow0 _) h1

theorem of_var {P : Program} {w : World} {name : String} {b : Nat} {xs : Array Value} (hg : P.globalNamed name = some b) (h : w.var? P name = some xs) : ∃ el f, w.heap[b]? = some (.cells xs el f) := by
  unfold World.var? at h
  rw [hg] at h
  simp only [Option.bind_some] at h
  split at h
  · rename_i cs el f hc
    cases h
    exact ⟨el, f, hc⟩
  · cases h

theorem door_laid_shaped {H : Type} {enc : TypeId × Value → H} {a : Assume} {C : Checked} {os : Os} {f : FuncId} {fn : Func} {s : ChangeSpec} {conds : List PathCond} {apart fresh handsOn again : Bool} {X : World → Array Value → Prop}
    (hX : ∀ (w w' : World) (args : Array Value), w.heap = w'.heap → X w args → X w' args)
    (own : ownKnob C.prog.godebug = none) (started : os.Started) (noInit : C.prog.inits.idxOf? f = none) (hfn : C.prog.funcs[f]? = some fn)
    (witness : ∃ (w : World) (tape : Tape) (i : Input), w.os = os ∧ (w.forCall tape i).Shaped C.prog ∧ i.vars = [] ∧ Input.okWide C.prog (w.forCall tape i) .any w.heap.size f i ∧
      ((s.pre enc C.prog fn conds apart (w.forCall tape i).memory i.args ∧ X (w.forCall tape i).memory i.args) ∧ sizedMet enc C.prog fn (OpenSpec.ofChange s) apart (w.forCall tape i).memory i.args) ∧ a.holds C.prog (lone (Frame.enter C.prog f i.args .normal) [] (w.forCall tape i)))
    (contract : ∀ (W : World) (base : Nat) (args : Array Value) (ds gs : List (DataW H)) (before : List MemPlace),
      (∀ (j : Nat) t v, fn.params[j]? = some t → args[j]? = some v → Value.okWide C.prog W .any base t v) →
      DataW.Whole enc C.prog fn.params.toList s.vars apart W args.toList ds gs before →
      (DataW.weightsEach C.prog (fn.params.toList ++ s.plain.varTypes C.prog) (ds ++ gs)).all (· ≤ reachBytes) = true → X W args → W.ShapedOpen C.prog →
      Calls C.prog f args W fun e W' => ∃ v, e = .returned v ∧ s.post enc C.prog fn apart fresh handsOn again W args v W') :
    ReturnsInHanded a C os f .any (fun w args => (s.pre enc C.prog fn conds apart w args ∧ X w args) ∧ sizedMet enc C.prog fn (OpenSpec.ofChange s) apart w args) (s.post enc C.prog fn apart fresh handsOn again) := by
  refine returnsInHanded_of_calls own started noInit witness ?_
  intro w tape i _ shape _ ok pre _
  obtain ⟨_, _, _, fn2, hfn2, _, _, _, _, val⟩ := ok
  have e := Option.some.inj (hfn2.symm.trans hfn)
  subst e
  obtain ⟨⟨⟨ds, gs, before, whole, _⟩, laid⟩, sized⟩ := pre
  refine Calls.mono (contract (w.forCall tape i) w.heap.size i.args ds gs before val (DataW.Whole.of_heap (by rfl) whole) (sized.weights whole) (hX _ _ _ (by rfl) laid) shape) ?_
  rintro _ W' ⟨v, rfl, post⟩
  exact ChangeSpec.post_blind post

end Go.Idl

namespace Go.Idl

open Go Go.RowKit Go.ChangeShapes Go.WideShapes

variable {P : Program} {w : World} {Hh : Type} {enc : TypeId × Value → Hh}

def RdZ (P : Program) (w : World) {Hh : Type} (enc : TypeId × Value → Hh) (t : TypeId) (S : List IV → Prop) : Prop :=
  ∀ (base : Nat) (spare : Nat → Bool) (held : Bool) (fuel : Nat) (cs : List Value) (x : DataW Hh × List MemPlace), DataW.trod enc P w base spare held fuel t cs = some x → (∀ n ∈ x.1.weights P t, n ≤ reachBytes) →
    ∃ is, S is ∧ is.length = cs.length ∧ ∀ (j : Nat) (c : Value) (i : IV), cs[j]? = some c → is[j]? = some i → c.oneCell' = true ∧ R w g0 c i

theorem Rd.z {t : TypeId} {S : List IV → Prop} (h : Rd P w enc t S) : RdZ P w enc t S := fun base spare held fuel cs x hx _ => h base spare held fuel cs x hx

theorem RdZ.mono {t : TypeId} {S S' : List IV → Prop} (h : RdZ P w enc t S) (hs : ∀ is, S is → S' is) : RdZ P w enc t S' := fun base spare held fuel cs x hx hz => let ⟨is, h1, h2⟩ := h base spare held fuel cs x hx hz; ⟨is, hs _ h1, h2⟩

theorem weightsAll_mem {e : TypeId} : ∀ {ds : List (DataW Hh)} {d : DataW Hh}, d ∈ ds → ∀ {n : Nat}, n ∈ d.weights P e → n ∈ DataW.weightsAll P e ds
  | d0 :: ds, d, hd, n, hn => by
    simp only [DataW.weightsAll, List.mem_append]
    rcases List.mem_cons.1 hd with e | e
    · subst e; exact .inl hn
    · exact .inr (weightsAll_mem e hn)

theorem RdZ_string {t : TypeId} (hu : P.underlying t = some .string) : RdZ P w enc t fun is => ∃ s : List UInt8, s.length ≤ reachBytes ∧ is = [.v (str s)] := by
  intro base spare held fuel cs x h hz
  obtain ⟨s, rfl, rfl, _⟩ := DataW.trod_string hu h
  refine ⟨_, ⟨bytes s, ?_, rfl⟩, rfl, rd_one rfl ?_⟩
  · have := hz s.data.toList.length (by simp [DataW.weights])
    simpa [bytes] using this
  · rw [show str (bytes s) = .string s by rw [str, mk_bytes]]
    exact .v _

theorem RdZ_slice {t e : TypeId} {E : Type} (cells : E → List IV) (hu : P.underlying t = some (.slice e)) (h0 : 0 < P.cellsOf e) (he : RdZ P w enc e fun is => ∃ x : E, is = cells x) :
    RdZ P w enc t fun is => ∃ l : List E, is = [.sl (P.cellsOf e) (l.map cells)] := by
  intro base spare held fuel cs x h hz
  rcases DataW.trod_slice hu h with ⟨rfl, _⟩ | ⟨a, len, cap, elems, rest, n, _, rfl, rfl, hb, hl, hm, hlen, hel, _, _⟩
  · exact ⟨_, ⟨[], rfl⟩, rfl, rd_one rfl (.sl0 _ _ _)⟩
  · obtain ⟨l, l1, l2⟩ := choose_list (fun i (y : E) => (cells y).length = P.cellsOf e ∧ ∀ (j : Nat) (i' : IV), (cells y)[j]? = some i' → ∃ c, w.cell? ((a.add (i * P.cellsOf e)).add j) = some c ∧ c.oneCell' = true ∧ R w g0 c i') len (fun i hi => by
      have hei := hel i hi
      have hne : elems[i]? = some elems[i] := List.getElem?_eq_getElem (by omega)
      rw [hne, Option.bind_eq_some_iff] at hei
      obtain ⟨ci, hc, ht⟩ := hei
      obtain ⟨q1, q2⟩ := cells_get hc
      obtain ⟨is, ⟨y, rfl⟩, q3, q4⟩ := he _ _ _ _ _ _ ht fun n hn => hz n (by
        simp only [DataW.weights, hu, List.mem_cons, List.mem_append]
        exact .inr (.inl (weightsAll_mem (List.mem_map_of_mem (List.getElem_mem (by omega : i < elems.length))) hn)))
      refine ⟨y, by rw [q3, q1], fun j i' hj => ?_⟩
      have hjl : j < ci.length := by rw [← q3]; exact (List.getElem?_eq_some_iff.1 hj).1
      have := q4 j ci[j] i' (List.getElem?_eq_getElem hjl) hj
      exact ⟨ci[j], by rw [q2 j (by omega)]; exact List.getElem?_eq_getElem hjl, this⟩)
    refine ⟨_, ⟨l, rfl⟩, rfl, rd_one rfl ?_⟩
    by_cases hz : len = 0
    · subst hz
      have : l = [] := List.eq_nil_of_length_eq_zero l1
      subst this
      exact .sl0 _ _ _
    · have hlm : (l.map cells).length = len := by simp [l1]
      have h0l : 0 < l.length := by omega
      obtain ⟨q1, q2⟩ := l2 0 l[0] (List.getElem?_eq_getElem h0l)
      have hpos : 0 < (cells l[0]).length := by omega
      obtain ⟨c0, q3, _⟩ := q2 0 _ (List.getElem?_eq_getElem hpos)
      obtain ⟨b, off, spot⟩ := a
      have hsp : spot = none ∧ b < w.heap.size := by
        have e0 : ((⟨b, off, spot⟩ : Addr).add (0 * P.cellsOf e)).add 0 = ⟨b, off, spot⟩ := by simp [Addr.add]
        rw [e0] at q3
        unfold World.cell? at q3
        split at q3
        · rename_i hh
          refine ⟨?_, (Array.getElem?_eq_some_iff.1 hh).1⟩
          split at q3
          · cases q3
          · rename_i hs
            simpa using hs
        · cases q3
      obtain ⟨rfl, hlt⟩ := hsp
      rw [← hlm]
      refine .sl b off cap _ _ (fun i j => (w.cell? ⟨b, off + i * P.cellsOf e + j, none⟩).getD undef) (ow0 b) hlt (by rw [hlm]; have hm' : cap ≤ 9223372036854775807 := hm; unfold maxN; omega) (by omega) ?_ ?_ ?_ ?_
      · intro c hc
        obtain ⟨y, hy, rfl⟩ := List.mem_map.1 hc
        obtain ⟨i, hi⟩ := List.getElem?_of_mem hy
        exact (l2 i y hi).1
      all_goals
        intro i ee j c h1 h2
        simp only [List.getElem?_map, Option.map_eq_some_iff] at h1
        obtain ⟨y, hy, rfl⟩ := h1
        obtain ⟨c', r1, r2, r3⟩ := (l2 i y hy).2 j c h2
        rw [addr_add, addr_add] at r1
        first | (rw [r1]; rfl) | (simp only [r1, Option.getD_some]; first | exact r2 | exact r3)

theorem RdZ_struct3 {t : TypeId} {f0 f1 f2 : Field} {S0 S1 S2 : List IV → Prop} (ht : P.underlying t = some (.struct #[f0, f1, f2])) (hc : P.cellsOf t = P.cellsOf f0.type + P.cellsOf f1.type + P.cellsOf f2.type) (o0 : f0.offset = 0) (o1 : f1.offset = P.cellsOf f0.type) (o2 : f2.offset = P.cellsOf f0.type + P.cellsOf f1.type)
    (h0 : RdZ P w enc f0.type S0) (h1 : RdZ P w enc f1.type S1) (h2 : RdZ P w enc f2.type S2) : RdZ P w enc t fun is => ∃ i0 i1 i2, S0 i0 ∧ S1 i1 ∧ S2 i2 ∧ is = i0 ++ (i1 ++ i2) := by
  intro base spare held fuel cs x h hz
  obtain ⟨xs, n, _, rfl, hl, hlen, hf⟩ := DataW.trod_struct ht h
  rw [hc] at hl
  have q0 := hf 0 f0 rfl
  have q1 := hf 1 f1 rfl
  have q2 := hf 2 f2 rfl
  rw [o0] at q0
  rw [o1] at q1
  rw [o2] at q2
  match xs, hlen, q0, q1, q2, hz with
  | [x0, x1, x2], _, q0, q1, q2, hz =>
    have hz' : ∀ n, n ∈ x0.1.weights P f0.type ∨ n ∈ x1.1.weights P f1.type ∨ n ∈ x2.1.weights P f2.type → n ≤ reachBytes := fun n hn => hz n (by
      simp only [DataW.weights, ht, List.map_cons, List.map_nil, List.toList_toArray, DataW.weightsEach, List.mem_append, List.not_mem_nil, or_false]
      exact hn)
    obtain ⟨is0, p0, l0, r0⟩ := h0 _ _ _ _ _ _ (by simpa using q0) fun n hn => hz' n (.inl hn)
    obtain ⟨is1, p1, l1, r1⟩ := h1 _ _ _ _ _ _ (by simpa using q1) fun n hn => hz' n (.inr (.inl hn))
    obtain ⟨is2, p2, l2, r2⟩ := h2 _ _ _ _ _ _ (by simpa using q2) fun n hn => hz' n (.inr (.inr hn))
    simp only [List.length_take, List.length_drop, List.drop_zero] at l0 l1 l2
    refine ⟨_, ⟨is0, is1, is2, p0, p1, p2, rfl⟩, by simp only [List.length_append]; omega, fun j c i e1 e2 => ?_⟩
    have hj := (List.getElem?_eq_some_iff.1 e1).1
    rcases Nat.lt_or_ge j is0.length with a | a
    · rw [List.getElem?_append_left a] at e2
      exact r0 j c i (by rw [List.getElem?_take, if_pos (by omega)]; simpa using e1) e2
    · rw [List.getElem?_append_right a] at e2
      rcases Nat.lt_or_ge (j - is0.length) is1.length with b | b
      · rw [List.getElem?_append_left b] at e2
        refine r1 (j - is0.length) c i ?_ e2
        rw [List.getElem?_take, if_pos (by omega), List.getElem?_drop, show P.cellsOf f0.type + (j - is0.length) = j by omega]
        exact e1
      · rw [List.getElem?_append_right b] at e2
        refine r2 (j - is0.length - is1.length) c i ?_ e2
        rw [List.getElem?_take, if_pos (by omega), List.getElem?_drop, show P.cellsOf f0.type + P.cellsOf f1.type + (j - is0.length - is1.length) = j by omega]
        exact e1

theorem RdZ_struct2 {t : TypeId} {f0 f1 : Field} {S0 S1 : List IV → Prop} (ht : P.underlying t = some (.struct #[f0, f1])) (hc : P.cellsOf t = P.cellsOf f0.type + P.cellsOf f1.type) (o0 : f0.offset = 0) (o1 : f1.offset = P.cellsOf f0.type)
    (h0 : RdZ P w enc f0.type S0) (h1 : RdZ P w enc f1.type S1) : RdZ P w enc t fun is => ∃ i0 i1, S0 i0 ∧ S1 i1 ∧ is = i0 ++ i1 := by
  intro base spare held fuel cs x h hz
  obtain ⟨xs, n, _, rfl, hl, hlen, hf⟩ := DataW.trod_struct ht h
  rw [hc] at hl
  have q0 := hf 0 f0 rfl
  have q1 := hf 1 f1 rfl
  rw [o0] at q0
  rw [o1] at q1
  match xs, hlen, q0, q1, hz with
  | [x0, x1], _, q0, q1, hz =>
    have hz' : ∀ n, n ∈ x0.1.weights P f0.type ∨ n ∈ x1.1.weights P f1.type → n ≤ reachBytes := fun n hn => hz n (by
      simp only [DataW.weights, ht, List.map_cons, List.map_nil, List.toList_toArray, DataW.weightsEach, List.mem_append, List.not_mem_nil, or_false]
      exact hn)
    obtain ⟨is0, p0, l0, r0⟩ := h0 _ _ _ _ _ _ (by simpa using q0) fun n hn => hz' n (.inl hn)
    obtain ⟨is1, p1, l1, r1⟩ := h1 _ _ _ _ _ _ (by simpa using q1) fun n hn => hz' n (.inr hn)
    simp only [List.length_take, List.length_drop, List.drop_zero] at l0 l1
    refine ⟨_, ⟨is0, is1, p0, p1, rfl⟩, by simp only [List.length_append]; omega, fun j c i e1 e2 => ?_⟩
    have hj := (List.getElem?_eq_some_iff.1 e1).1
    rcases Nat.lt_or_ge j is0.length with a | a
    · rw [List.getElem?_append_left a] at e2
      exact r0 j c i (by rw [List.getElem?_take, if_pos (by omega)]; simpa using e1) e2
    · rw [List.getElem?_append_right a] at e2
      refine r1 (j - is0.length) c i ?_ e2
      rw [List.getElem?_take, if_pos (by omega), List.getElem?_drop, show P.cellsOf f0.type + (j - is0.length) = j by omega]
      exact e1

theorem RdZ.one {t : TypeId} {v : Value} {d : DataW Hh} {ps : List MemPlace} {S : List IV → Prop} {base : Nat} {spare : Nat → Bool} {held : Bool} (h : RdZ P w enc t S) (hv : v.cells = #[v]) (hd : DataW.Trod enc P w base spare held t v d ps)
    {ts : List TypeId} {ds : List (DataW Hh)} (hw : (DataW.weightsEach P ts ds).all (· ≤ reachBytes) = true) {k : Nat} (h1 : ts[k]? = some t) (h2 : ds[k]? = some d) : ∃ i, S [i] ∧ R w g0 v i := by
  obtain ⟨fuel, hf⟩ := hd
  obtain ⟨is, h1, h2, h3⟩ := h _ _ _ _ _ _ hf fun n hn => by simpa using List.all_eq_true.1 hw _ (DataW.weights_mem_each h1 h2 n hn)
  rw [hv] at h2 h3
  match is, h2, h1, h3 with
  | [i], _, h1, h3 => exact ⟨i, h1, (h3 0 v i rfl rfl).2⟩

end Go.Idl

namespace Go.Proofs.YtbgebljjmpklkaaGreatDoor

open Go Go.ChangeShapes Go.WideShapes Go.ChangeAt Go.RowKit Go.Idl

theorem ownNone : ownKnob Tryz.prog.godebug = none := by kernel_rfl

theorem laidOutAll : laidOutB Tryz.prog = true := by kernel_rfl

def laidV : List (String × DataW Unit) := Rows.pairsOnceRow.laid

theorem door_metV (os : Os) (args : Array Value) : laidMetH Tryz.prog laidV ((World.doorLaid Tryz.prog 400 os).forCall (fun _ _ => 0) ⟨#[], args, []⟩).memory :=
  laidMetH_of_parts3 (fuel := 8) (laidMet_of_run' 8 (by kernel_rfl) (by kernel_rfl)) (by kernel_rfl) (by kernel_rfl)

theorem gTab : Tryz.prog.globalNamed "internal/strconv.uint64pow10" = some 1 := by kernel_rfl

theorem tok_laid {W : World} (hL : laidMetH Tryz.prog laidV W) : ∃ vs : List (Nat × Array Value), (∀ p, p ∈ vs → ∃ el f, W.heap[p.1]? = some (.cells p.2 el f)) ∧ TOK Tryz.prog (HV vs) := by
  have h0 : laidMet Tryz.prog laidV W := hL
  have h2 := h0.tail.tail
  have hT : Lib.TabIs Tryz.prog W "internal/strconv.uint64pow10" .u64 Lib.pow10Tab :=
    Lib.tabIs_of_head (t := 249) (e := 224) (n := 20) gTab (by kernel_rfl) Tryz.underlying249 Tryz.underlying224 (by kernel_rfl) (by kernel_rfl) h2
  refine ⟨[(1, (Lib.pow10Tab.map fun z => Value.int .u64 z).toArray)], ?_, ?_⟩
  · intro p hp
    simp only [List.mem_cons, List.not_mem_nil, or_false] at hp
    rcases hp with rfl
    exact of_var gTab hT
  · exact ⟨1, 0, _, gTab, rfl, List.mem_singleton.2 rfl⟩

section

variable {w : World} {Hh : Type} {enc : TypeId × Value → Hh}

theorem rd3 : RdZ Tryz.prog w enc 3 fun is => ∃ n : Int, is = [.v (.int .i64 n)] := (Rd_int Tryz.underlying3).z

theorem rd9 : RdZ Tryz.prog w enc 9 fun is => ∃ s : List UInt8, s.length ≤ reachBytes ∧ is = [.v (str s)] := RdZ_string Tryz.underlying9

theorem rd30 : Rd Tryz.prog w enc 30 fun is => ∃ l : List (List UInt8), is = [.sl 1 (l.map fun x => [.v (str x)])] := by
  have h := Rd_slice (w := w) (enc := enc) (fun s : List UInt8 => [IV.v (str s)]) Tryz.underlying30 (Nat.lt_of_lt_of_eq Nat.one_pos cells9.symm) (Rd_string Tryz.underlying9)
  rw [cells9] at h
  exact h

theorem rd32 : Rd Tryz.prog w enc 32 fun is => ∃ c : List (List (List UInt8)), c.length = 8 ∧ is = c.map fun x => .sl 1 (x.map fun x => [.v (str x)]) := Rd_array (fun x : List (List UInt8) => .sl 1 (x.map fun x => [.v (str x)])) Tryz.underlying32 cells30 cells32 rd30

abbrev cX (x : S39) : List IV := .v (str x.fHref) :: .v (str x.fUuid) :: (x.fShadow.map fun x => .sl 1 (x.map fun x => [.v (str x)]))

def memX (x : S39) : Prop := x.fShadow.length = 8 ∧ x.fHref.length ≤ reachBytes ∧ x.fUuid.length ≤ reachBytes

theorem rd40 : RdZ Tryz.prog w enc 40 fun is => ∃ x : S39, memX x ∧ is = cX x := by
  refine (RdZ_struct3 (w := w) (enc := enc) Tryz.underlying40 (by rw [cells9, cells32, cells40]) rfl (by rw [cells9]) (by rw [cells9]) rd9 rd9 rd32.z).mono ?_
  rintro is ⟨i0, i1, i2, ⟨s, hs, rfl⟩, ⟨u, hu, rfl⟩, ⟨c, hc, rfl⟩, rfl⟩
  exact ⟨⟨s, u, c⟩, ⟨hc, hs, hu⟩, rfl⟩

abbrev cD (x : S89) : List IV := [.v (str x.fType), .v (str x.fValue)]

def memD (x : S89) : Prop := x.fType.length ≤ reachBytes ∧ x.fValue.length ≤ reachBytes

theorem rd90 : RdZ Tryz.prog w enc 90 fun is => ∃ x : { x : S89 // memD x }, is = cD x.1 := by
  refine (RdZ_struct2 (w := w) (enc := enc) Tryz.underlying90 (by rw [cells9, cells90]) rfl (by rw [cells9]) rd9 rd9).mono ?_
  rintro is ⟨i0, i1, ⟨s, hs, rfl⟩, ⟨u, hu, rfl⟩, rfl⟩
  exact ⟨⟨⟨s, u⟩, hs, hu⟩, rfl⟩

theorem rd29 : RdZ Tryz.prog w enc 29 fun is => ∃ l : List S89, (∀ x ∈ l, memD x) ∧ is = [.sl 2 (l.map cD)] := by
  have h := RdZ_slice (w := w) (enc := enc) (fun x : { x : S89 // memD x } => cD x.1) Tryz.underlying29 (Nat.lt_of_lt_of_eq (by decide : 0 < 2) cells90.symm) rd90
  rw [cells90] at h
  refine h.mono ?_
  rintro is ⟨l, rfl⟩
  refine ⟨l.map (·.1), fun x hx => ?_, by rw [List.map_map]; rfl⟩
  obtain ⟨y, _, rfl⟩ := List.mem_map.1 hx
  exact y.2

abbrev cA (a : S41) : List IV := .v (.int .i64 a.fKind) :: .v (str a.fPairing.fHref) :: .v (str a.fPairing.fUuid) :: ((a.fPairing.fShadow.map fun x => .sl 1 (x.map fun x => [.v (str x)])) ++ [.sl 2 (a.fDn.map fun x => [.v (str x.fType), .v (str x.fValue)])])

theorem rd42 : RdZ Tryz.prog w enc 42 fun is => ∃ a : { a : S41 // memA a }, is = cA a.1 := by
  refine (RdZ_struct3 (w := w) (enc := enc) Tryz.underlying42 (by rw [cells3, cells40, cells29, cells42]) rfl (by rw [cells3]) (by rw [cells3, cells40]) rd3 rd40 rd29).mono ?_
  rintro is ⟨i0, i1, i2, ⟨k, rfl⟩, ⟨x, hx, rfl⟩, ⟨d, hd, rfl⟩, rfl⟩
  have hr := reachBytes_lt
  have e : (2 : Nat) ^ 47 = 140737488355328 := by decide
  rw [e] at hr
  obtain ⟨h1, h2, h3⟩ := hx
  refine ⟨⟨⟨k, x, d⟩, h1, ?_, ?_, fun y hy => ?_⟩, rfl⟩
  · show x.fHref.length ≤ 1000000000000000
    omega
  · show x.fUuid.length ≤ 1000000000000000
    omega
  · obtain ⟨q1, q2⟩ := hd y hy
    exact ⟨by omega, by omega⟩

theorem rd22 : RdZ Tryz.prog w enc 22 fun is => ∃ l : List S41, (∀ a ∈ l, memA a) ∧ is = [.sl 12 (l.map cA)] := by
  have h := RdZ_slice (w := w) (enc := enc) (fun x : { a : S41 // memA a } => cA x.1) Tryz.underlying22 (Nat.lt_of_lt_of_eq (by decide : 0 < 12) cells42.symm) rd42
  rw [cells42] at h
  refine h.mono ?_
  rintro is ⟨l, rfl⟩
  refine ⟨l.map (·.1), fun x hx => ?_, by rw [List.map_map]; rfl⟩
  obtain ⟨y, _, rfl⟩ := List.mem_map.1 hx
  exact y.2

end

end Go.Proofs.YtbgebljjmpklkaaGreatDoor

namespace Go.Proofs.YtbgebljjmpklkaaGreatDoor

open Go Go.ChangeShapes Go.WideShapes Go.ChangeAt Go.RowKit Go.Idl

set_option maxRecDepth 100000 in
theorem pairsPlay_lifted (os : Os) (started : os.Started) (H : Type) (enc : TypeId × Value → H) :
    ReturnsInHanded {} Tryz.checked os 4 .any (fun w args => (Rows.pairsPlaySpec.pre enc Tryz.prog Tryz.f4 [] false w args ∧ laidMetH Tryz.prog laidV w) ∧ sizedMet enc Tryz.prog Tryz.f4 (OpenSpec.ofChange Rows.pairsPlaySpec) false w args)
      (Rows.pairsPlaySpec.post enc Tryz.prog Tryz.f4 false true false false) := by
  refine door_laid_shaped (C := Tryz.checked) (X := fun w _ => laidMetH Tryz.prog laidV w) (fun _ _ _ hh h => h.of_heap hh) ownNone started (by kernel_rfl) Tryz.func4
    (ChangeSpec.witness_shaped (enc := enc) (C := Tryz.checked) (os := os) (X := fun w _ => laidMetH Tryz.prog laidV w) false (World.doorLaid Tryz.prog 400 os) #[.slice none 0 0, .string ⟨#[]⟩, .string ⟨#[]⟩] 8 rfl (World.shaped_of_RefB (by kernel_rfl) (by kernel_rfl)) (by kernel_rfl) (by kernel_rfl) (by kernel_rfl) (door_metV os _)) ?_
  intro W base args ds gs before hval0 hW hwt hL hshape
  have hval : ∀ (j : Nat) t v, Tryz.f4.params[j]? = some t → args[j]? = some v → Value.okWide Tryz.prog W .any base t v := hval0
  have hW' := hW
  obtain ⟨p, q, hA0, hV, rfl, hfz, hnd⟩ := hW
  have hA : DataW.TrodAll enc Tryz.prog W 0 (fun _ => true) true Tryz.f4.params.toList args.toList ds p := hA0
  rw [Tryz.params4] at hA hval
  obtain ⟨v0, v1, v2, d0, d1, d2, p0, p1, p2, rfl, rfl, rfl, h0, h1, h2⟩ := trodAll_three hA
  obtain ⟨rfl, rfl⟩ := trodVars_none hV
  simp only [List.append_nil] at hW'
  have hlt := hW'.lt
  have hwt' : (DataW.weightsEach Tryz.prog [22, 9, 9] [d0, d1, d2]).all (· ≤ reachBytes) = true := hwt
  obtain ⟨a0, len0, cap0, rfl⟩ := okWide_slice Tryz.underlying22 (hval 0 22 v0 rfl rfl)
  obtain ⟨s1, rfl⟩ := okWide_string Tryz.underlying9 (hval 1 9 v1 rfl rfl)
  obtain ⟨s2, rfl⟩ := okWide_string Tryz.underlying9 (hval 2 9 v2 rfl rfl)
  obtain ⟨i0, ⟨x0, b0, e0⟩, r0⟩ := rd22.one rfl h0 hwt' (k := 0) rfl rfl
  simp only [List.cons.injEq, and_true] at e0
  subst e0
  obtain ⟨i1, ⟨x1, b1, e1⟩, r1⟩ := rd9.one rfl h1 hwt' (k := 1) rfl rfl
  simp only [List.cons.injEq, and_true] at e1
  subst e1
  obtain ⟨i2, ⟨x2, b2, e2⟩, r2⟩ := rd9.one rfl h2 hwt' (k := 2) rfl rfl
  simp only [List.cons.injEq, and_true] at e2
  subst e2
  obtain ⟨vs, hvs, hvok⟩ := tok_laid hL
  have hcall := (F4_ok (H := HV vs) (K := fun e _ => e = .ret (.v (.bool true))) x0 x1 x2 hvok (F4_eq x0 x1 x2 b0) rfl).run W g0 #[.slice a0 len0 cap0, .string s1, .string s2] (simV W vs hvs) ⟨rfl, fun j x i hx hi => by
    match j, hx, hi with
    | 0, hx, hi => simp at hx hi; subst hx; subst hi; exact r0
    | 1, hx, hi => simp at hx hi; subst hx; subst hi; exact r1
    | 2, hx, hi => simp at hx hi; subst hx; subst hi; exact r2
    | j + 3, hx, hi => simp at hx⟩
  refine hcall.mono ?_
  rintro e W' ⟨ie, g', H', hm, _, hre, rfl⟩
  have hb := below_of_mono hm
  obtain ⟨rfl⟩ : e = .returned (.bool true) := by
    cases hre with
    | ret x i h => rw [h.v_eq]
  refine ⟨_, rfl, ?_⟩
  refine ⟨_, _, _, [], p0 ++ p1 ++ p2, [], hW', trodAll_mk1 (shut_bool Tryz.underlying4 _), ?_, ?_, hb.frame _, fun h => by cases h⟩
  · have hl0 : ∀ x ∈ p0, x.block < W.heap.size := fun x hx => hlt x (by simp [hx])
    have hl1 : ∀ x ∈ p1, x.block < W.heap.size := fun x hx => hlt x (by simp [hx])
    have hl2 : ∀ x ∈ p2, x.block < W.heap.size := fun x hx => hlt x (by simp [hx])
    have k0 := Below.trod laidOutAll (by kernel_rfl) (of_decide_eq_true (by kernel_rfl)) h0 hb hl0
    have k1 := Below.trod laidOutAll (by kernel_rfl) (of_decide_eq_true (by kernel_rfl)) h1 hb hl1
    have k2 := Below.trod laidOutAll (by kernel_rfl) (of_decide_eq_true (by kernel_rfl)) h2 hb hl2
    exact ⟨p0, p1 ++ p2, k0, ⟨p1, p2, k1, ⟨p2, [], k2, rfl, by simp⟩, rfl⟩, by simp⟩
  · rfl

theorem pairsPlay_row : Rows.PairsPlaySaid :=
  OpenClaim.holds_of_wide 4 Tryz.f4 rfl rfl rfl rfl rfl rfl rfl ⟨rfl, rfl, rfl, rfl, rfl⟩ rfl rfl rfl rfl rfl (by kernel_rfl) Tryz.func4 (by kernel_rfl)
    (of_decide_eq_true (by kernel_rfl)) (by unfold Func.isWrapper; first | (rw [if_pos (by decide +kernel)]; kernel_rfl) | (rw [if_neg (by decide +kernel)]; exact ⟨rfl, rfl⟩))
    (fun os started H enc _ => pairsPlay_lifted os started H enc)

theorem pairsPlay_holds : Rows.PairsPlayCardSaid :=
  Claim7.holds_tied_plain_at .later [] [.data, .data, .data] true (true, "5dbde0cbb162a84d239fd1634710af79b7da20f43e8be4b7c72be86c8a99f6d5") true
    pairsPlay_row (fun _ h => by cases h) (by kernel_rfl) (fun _ h => by cases h) pairsPlay_row_tie rfl ⟨rfl, rfl⟩ (by kernel_rfl) rfl
    (fun f fn hf hfn => by
      obtain rfl : f = 4 := Option.some.inj ((show Tryz.prog.funcNamed "cardcase/cardcaselaw20.PairsPlay" = some 4 by kernel_rfl).symm.trans hf) |>.symm
      obtain rfl : fn = Tryz.f4 := (Option.some.inj (Tryz.func4.symm.trans hfn)).symm
      exact ⟨by kernel_rfl, fun j t ht => by
        rw [Tryz.params4] at ht
        have hm : t ∈ [22, 9, 9] := by simpa using Array.mem_of_getElem? ht
        have hall : ([22, 9, 9].all fun u => !Tryz.prog.wantsStandIn u) = true := by kernel_rfl
        exact (show Tryz.prog.wantsStandIn t = false by simpa using List.all_eq_true.1 hall t hm)⟩)
    (by kernel_rfl)

end Go.Proofs.YtbgebljjmpklkaaGreatDoor
