/- Reads what was parsed: the saying of the case law 20 Part 6. Conditions: none. -/
import Derived.Test.YtbgebljjmpklkaaGreatDoorPartE
import Derived.Lib.AtoiTie
import Derived.Sort.Walk0
import Derived.Lib.MinMax
set_option linter.unusedSimpArgs false
set_option linter.unusedVariables false
namespace Go.Idl
open Go
def Cq {α ρ : Type} (f : Nat → α → Option ρ) (d : ρ) : Nat → List α → ρ
  | _, [] => d
  | i, x :: l => match f i x with
    | none => Cq f d (i + 1) l
    | some r => r
def MJ {α σ ρ : Type} (f : Nat → σ → α → σ ⊕ ρ) (fin : σ → ρ) : Nat → σ → List α → ρ
  | _, a, [] => fin a
  | i, a, x :: l => match f i a x with
    | .inl a' => MJ f fin (i + 1) a' l
    | .inr r => r
theorem C9 {α ρ : Type} {f : Nat → α → Option ρ} {d : ρ} {i : Nat} {x : α} {l : List α} : Cq f d i (x :: l) = match f i x with
    | none => Cq f d (i + 1) l
    | some r => r := rfl
theorem Lu {α σ ρ : Type} {f : Nat → σ → α → σ ⊕ ρ} {fin : σ → ρ} {i : Nat} {a : σ} {x : α} {l : List α} : MJ f fin i a (x :: l) = match f i a x with
    | .inl a' => MJ f fin (i + 1) a' l
    | .inr r => r := rfl
theorem CA {α ρ : Type} (l : List α) {step : Int → Option (Int ⊕ ρ)} (f : Nat → α → Option ρ) (d : ρ) (hl : l.length ≤ 1000000000)
    (hs : ∀ (i : Nat) (h : i < l.length), step (i : Int) = some (match f i l[i] with | none => .inl (IntKind.i64.wrap ((i : Int) + 1)) | some r => .inr r))
    (hf : step (l.length : Int) = some (.inr d)) : AD step 0 = some (Cq f d 0 l) := by
 obtain ⟨r, h1, h2⟩ := Cz (step := step) (Post := fun r => r = Cq f d 0 l) l.length (fun i => Cq f d i (l.drop i) = Cq f d 0 l) (by simp)
  (fun i hi hI => by
    rw [hs i hi]
    rw [List.drop_eq_getElem_cons hi] at hI
    rw [C9] at hI
    cases hfi : f i l[i] with
    | none =>
      rw [hfi] at hI
      rw [AK (by omega)]
      exact .inl ⟨rfl, hI⟩
    | some r =>
      rw [hfi] at hI
      exact .inr ⟨r, rfl, hI⟩)
  (fun hI => ⟨d, hf, by rw [List.drop_length] at hI; exact hI⟩)
 rw [h1, h2]
theorem Rg {α σ ρ : Type} (l : List α) {step : σ × Int → Option ((σ × Int) ⊕ ρ)} (f : Nat → σ → α → σ ⊕ ρ) (fin : σ → ρ) (Inv : Nat → σ → Prop) {a : σ} (hl : l.length ≤ 1000000000) (h0 : Inv 0 a)
    (hs : ∀ (i : Nat) (h : i < l.length) (a : σ), Inv i a → step (a, (i : Int)) = some (match f i a l[i] with | .inl a' => .inl (a', IntKind.i64.wrap ((i : Int) + 1)) | .inr r => .inr r))
    (hn : ∀ (i : Nat) (h : i < l.length) (a a' : σ), Inv i a → f i a l[i] = .inl a' → Inv (i + 1) a')
    (hf : ∀ a, Inv l.length a → step (a, (l.length : Int)) = some (.inr (fin a))) : AD step (a, 0) = some (MJ f fin 0 a l) := by
 obtain ⟨r, h1, h2⟩ := Pd (step := step) (Post := fun r => r = MJ f fin 0 a l) l.length (fun i a' => Inv i a' ∧ MJ f fin i a' (l.drop i) = MJ f fin 0 a l) (a := a) ⟨h0, by simp⟩
  (fun i a' hi hI => by
    obtain ⟨hI, hR⟩ := hI
    rw [hs i hi a' hI]
    rw [List.drop_eq_getElem_cons hi] at hR
    rw [Lu] at hR
    cases hfi : f i a' l[i] with
    | inl a2 =>
      rw [hfi] at hR
      rw [AK (by omega)]
      exact .inl ⟨a2, rfl, hn i hi a' a2 hI hfi, hR⟩
    | inr r =>
      rw [hfi] at hR
      exact .inr ⟨r, rfl, hR⟩)
  (fun a' hI => ⟨_, hf a' hI.1, by have := hI.2; rw [List.drop_length] at this; exact this⟩)
 rw [h1, h2]
theorem Ig {α ρ : Type} (p : α → Bool) (bad good : ρ) : ∀ (l : List α) (i : Nat), Cq (fun _ x => if p x = true then none else some bad) good i l = if l.all p = true then good else bad
  | [], _ => by simp [Cq]
  | x :: l, i => by
    unfold Cq
    by_cases h : p x = true
    · rw [if_pos h]
      simp only [Ig p bad good l (i + 1), List.all_cons, h, Bool.true_and]
    · rw [if_neg h]
      have : (List.all (x :: l) p) = false := by simp [List.all_cons, Bool.eq_false_iff.2 h]
      simp [this]
end Go.Idl
namespace Go.Idl
open Go Go.Lib
def AP : List UInt8 → UInt8 → Option (List UInt8 × List UInt8)
  | [], _ => none
  | b :: s, x => if b = x then some ([], s) else (AP s x).map fun p => (b :: p.1, p.2)
theorem BK {x : UInt8} : ∀ {s a b : List UInt8}, AP s x = some (a, b) ↔ s = a ++ x :: b ∧ x ∉ a
  | [], a, b => by simp [AP]
  | c :: s, a, b => by
    unfold AP
    by_cases h : c = x
    · subst h
      rw [if_pos rfl]
      constructor
      · rintro h; cases h; simp
      · rintro ⟨h1, h2⟩
        cases a with
        | nil => simp at h1; simp [h1]
        | cons d a => simp at h1; exact absurd (by simp [h1.1]) h2
    · rw [if_neg h]
      constructor
      · intro h'
        obtain ⟨⟨a', b'⟩, h1, h2⟩ := Option.map_eq_some_iff.1 h'
        cases h2
        obtain ⟨h3, h4⟩ := BK.1 h1
        exact ⟨by simp [h3], by simp [h4, Ne.symm h]⟩
      · rintro ⟨h1, h2⟩
        cases a with
        | nil => simp at h1; exact absurd h1.1 h
        | cons d a =>
          simp at h1 h2
          rw [BK.2 ⟨h1.2, h2.2⟩, h1.1]
          rfl
theorem Rh {x : UInt8} : ∀ {s : List UInt8}, AP s x = none ↔ x ∉ s
  | [] => by simp [AP]
  | c :: s => by
    unfold AP
    by_cases h : c = x
    · subst h; simp
    · rw [if_neg h]
      simp [Rh (s := s), Ne.symm h]
theorem Cl {x : UInt8} {s a b : List UInt8} (h : AP s x = some (a, b)) : a.length + b.length + 1 = s.length := by
 rw [(BK.1 h).1]; simp; omega
theorem index_one (x : UInt8) : ∀ s : List UInt8, index s [x] = match AP s x with | some p => (p.1.length : Int) | none => -1
  | [] => by simp [index, AP]
  | b :: s => by
    have ih := index_one x s
    unfold index AP
    by_cases h : b = x
    · subst h
      simp [List.isPrefixOf]
    · rw [if_neg h]
      have : ¬ x = b := fun e => h e.symm
      simp only [List.isPrefixOf, Bool.and_true, beq_iff_eq, if_neg this, ih]
      cases hc : AP s x with
      | none => simp
      | some p =>
        have : ¬ ((p.1.length : Int) == -1) = true := by simp
        simp [this]
theorem Q3 (s : List UInt8) (x : UInt8) : Lib.cut s [x] = match AP s x with | some p => (p.1, p.2, true) | none => (s, [], false) := by
 unfold Lib.cut; rw [index_one]; cases h : AP s x with
 | none => simp
 | some p =>
  obtain ⟨a, b⟩ := p; obtain ⟨h1, _⟩ := BK.1 h; simp only; rw [if_pos (by omega)]; subst h1; simp
theorem G1 {c : UInt8} {d : Nat} : digitVal c = some d ↔ 48 ≤ c.toNat ∧ c.toNat ≤ 57 ∧ d = c.toNat - 48 := by
 unfold digitVal; split
 ·rename_i h; simp; constructor
  ·rintro rfl; exact ⟨h.1, h.2, rfl⟩
  ·rintro ⟨_, _, rfl⟩; rfl
 ·rename_i h; simp; omega
theorem Fc : ∀ (l : List UInt8) (acc : Nat) (c : UInt8), decFrom acc (l ++ [c]) = (decFrom acc l).bind fun n => (digitVal c).map fun d => n * 10 + d
  | [], acc, c => by
    simp only [List.nil_append, decFrom]
    cases digitVal c <;> simp
  | b :: l, acc, c => by
    simp only [List.cons_append, decFrom]
    cases digitVal b with
    | none => simp
    | some d => simp [Fc l]
theorem Pf {d : Nat} (h : d < 10) : digitVal (UInt8.ofNat (48 + d)) = some d := by
 have e : (UInt8.ofNat (48 + d)).toNat = 48 + d := by simp [UInt8.toNat_ofNat']; omega
 exact G1.2 ⟨by omega, by omega, by omega⟩
theorem Fe (n : Nat) : decFrom 0 (decDigits n) = some n := by
 induction n using Nat.strongRecOn with
 | _ n ih =>
  unfold decDigits; split
  ·rename_i h; have := Fc [] 0 (UInt8.ofNat (48 + n)); simp only [List.nil_append] at this; rw [this, Pf h]; simp [decFrom]
  ·rename_i h; rw [Fc, ih (n / 10) (by omega), Pf (Nat.mod_lt _ (by omega))]; simp; omega
theorem TO (n : Nat) : decDigits n ≠ [] := by
 unfold decDigits; split <;> simp
theorem Pg (n : Nat) : decNat (decDigits n) = some n := by
 unfold decNat; rw [if_neg (by simp [TO]), Fe]
theorem Wb {n m : Nat} (h : decDigits n = decDigits m) : n = m := by
 have h1 := Fe n; rw [h, Fe] at h1; exact (Option.some.inj h1).symm
theorem Ri (n : Nat) : ∀ c, c ∈ decDigits n → 48 ≤ c.toNat ∧ c.toNat ≤ 57 := by
 induction n using Nat.strongRecOn with
 | _ n ih =>
  have one : ∀ d, d < 10 → 48 ≤ (UInt8.ofNat (48 + d)).toNat ∧ (UInt8.ofNat (48 + d)).toNat ≤ 57 := fun d hd => by
   obtain ⟨h1, h2, _⟩ := G1.1 (Pf hd); exact ⟨h1, h2⟩
  intro c hc; unfold decDigits at hc; split at hc
  ·rename_i h; rw [List.mem_singleton.1 hc]; exact one n h
  ·rename_i h; rcases List.mem_append.1 hc with hc | hc
   ·exact ih (n / 10) (by omega) c hc
   ·rw [List.mem_singleton.1 hc]; exact one _ (Nat.mod_lt _ (by omega))
theorem Ph (n k : Nat) (h : n < 10 ^ (k + 1)) : (decDigits n).length ≤ k + 1 := by
 induction k generalizing n with
 | zero => rw [decDigits, dif_pos (by simpa using h)]; simp
 | succ k ih =>
  rw [decDigits]; split
  ·simp
  ·have := ih (n / 10) (by rw [Nat.pow_succ] at h; omega); simp; omega
theorem TP (n : Nat) (h : n < 1000000000000000000) : CL (decDigits n) = ((n : Int), false) := by
 have hl : (decDigits n).length ≤ 18 := Ph n 17 (by simpa using h); have ha : atoi (decDigits n) = some (n : Int) := by
  have h1 := Pg n; have h2 := Ri n; cases hd : decDigits n with
  | nil => exact absurd hd (TO n)
  | cons b r =>
   rw [hd] at h1 h2; have hb := h2 b (by simp); have q1 : (b == 45) = false := by simp; rintro rfl; simp at hb
   have q2 : (b == 43) = false := by simp; rintro rfl; simp at hb
   unfold atoi; simp only [q1, q2, Bool.false_eq_true, if_false, h1]; rfl
 unfold CL; rw [atoiAll_short _ hl, ha]; rfl
noncomputable def Dg (s : List UInt8) (m : Nat) : Option Nat := by
  classical exact if h : ∃ n, 1 ≤ n ∧ n ≤ m ∧ decDigits n = s then some h.choose else none
theorem B_ {s : List UInt8} {m n : Nat} : Dg s m = some n ↔ 1 ≤ n ∧ n ≤ m ∧ decDigits n = s := by
 unfold Dg; split
 ·rename_i h; have hc := h.choose_spec; constructor
  ·intro e; rw [← Option.some.inj e]; exact hc
  ·rintro ⟨_, _, h3⟩
   rw [Wb (hc.2.2.trans h3.symm)]
 ·rename_i h; constructor
  ·intro e; cases e
  ·intro e; exact absurd ⟨n, e⟩ h
theorem Lv {s : List UInt8} {m : Nat} (h : ∀ n, 1 ≤ n → n ≤ m → decDigits n ≠ s) : Dg s m = none := by
 cases e : Dg s m with
 | none => rfl
 | some n =>
  obtain ⟨h1, h2, h3⟩ := B_.1 e; exact absurd h3 (h n h1 h2)
end Go.Idl
namespace Go.Idl
open Go Go.Lib
abbrev DN := List UInt8
noncomputable def Hl (m : Nat) (s : DN) : Option (DN × DN) := (AP s 32).bind fun p => (Dg p.1 m).bind fun n => if n < p.2.length ∧ p.2.getD n 0 = 10 then some (p.2.take n, p.2.drop (n + 1)) else none
noncomputable def Cr (m : Nat) : Nat → DN → Option (List DN × DN)
  | 0, s => some ([], s)
  | n + 1, s => (Hl m s).bind fun p => (Cr m n p.2).map fun q => (p.1 :: q.1, q.2)
theorem TQ {m : Nat} {s : DN} {p : DN × DN} (h : Hl m s = some p) : p.2.length < s.length := by
 obtain ⟨⟨a, b⟩, h1, h⟩ := Option.bind_eq_some_iff.1 h; obtain ⟨n, h2, h⟩ := Option.bind_eq_some_iff.1 h; have := Cl h1; split at h
 ·cases h; simp; omega
 ·cases h
theorem Rj {m n : Nat} {s : DN} {p : List DN × DN} (h : Cr m n s = some p) : p.2.length ≤ s.length ∧ p.1.length = n := by
 induction n generalizing s p with
 | zero => cases h; simp
 | succ n ih =>
  obtain ⟨q, h1, h⟩ := Option.bind_eq_some_iff.1 h; obtain ⟨r, h2, rfl⟩ := Option.map_eq_some_iff.1 h; have := TQ h1; have := ih h2; simp; omega
def Bt : List DN := [[102, 117, 108, 108], [103, 105, 118, 101, 110], [102, 97, 109, 105, 108, 121], [111, 114, 103], [116, 105, 116, 108, 101], [110, 111, 116, 101], [109, 97, 105, 108], [112, 104, 111, 110, 101]]
def CU (nm : DN) : Option Nat := Bt.findIdx? fun x => decide (x = nm)
theorem Ho {nm : DN} {i : Nat} (h : CU nm = some i) : i < 8 := by
 have := List.findIdx?_eq_some_iff_getElem.1 h; obtain ⟨h1, _⟩ := this; simpa [Bt] using h1
theorem Rk (i : Nat) (h : i < 8) : CU (Bt.getD i []) = some i := by
 match i, h with
 | 0, _ | 1, _ | 2, _ | 3, _ | 4, _ | 5, _ | 6, _ | 7, _ => decide
noncomputable def Hp (s : DN) : Option (Nat × List DN × DN) := (AP s 32).bind fun p => (AP p.2 10).bind fun q => (CU p.1).bind fun i => (Dg q.1 8).bind fun n => (Cr 200 n q.2).map fun r => (i, r.1, r.2)
noncomputable def E0 : Nat → Nat → DN → List (List DN) → Option (List (List DN))
  | 0, _, s, c => if s = [] then some c else none
  | f + 1, k, s, c => if s = [] then some c else (Hp s).bind fun p => if p.1 < k then none else E0 f (p.1 + 1) p.2.2 (c.set p.1 p.2.1)
end Go.Idl
namespace Go.Idl
open Go Go.RowKit
abbrev rwS (l : List (List UInt8)) : HO := .row 1 (l.map fun s => [.v (str s)])
structure C4 (J : A2) (n0 : Nat) (C : List IV) (c : List (List (List UInt8))) : Prop where
  len : C.length = c.length
  row : ∀ (j : Nat) (x : IV) (l : List (List UInt8)), C[j]? = some x → c[j]? = some l → (x = .v (.slice none 0 0) ∧ l = []) ∨ ∃ n, n0 ≤ n ∧ n < J.next ∧ x = .os n l.length ∧ J.obj n = some (rwS l)
  inj : ∀ (j j' n m m' : Nat), C[j]? = some (.os n m) → C[j']? = some (.os n m') → j = j'
theorem C4.Gg {J : A2} {n0 : Nat} (n : Nat) : C4 J n0 (List.replicate n (.v (.slice none 0 0))) (List.replicate n []) where
  len := by simp
  row := fun j x l h1 h2 => by
    rw [List.getElem?_replicate] at h1 h2
    split at h1
    · rename_i h; rw [if_pos h] at h2; cases h1; cases h2; exact .inl ⟨rfl, rfl⟩
    · cases h1
  inj := fun j j' n m m' h1 _ => by
    rw [List.getElem?_replicate] at h1
    split at h1 <;> cases h1
theorem C4.mono {J J' : A2} {n0 : Nat} {C : List IV} {c : List (List (List UInt8))} (h : C4 J n0 C c) (hx : J.next ≤ J'.next) (ho : ∀ k o, n0 ≤ k → k < J.next → J.obj k = some o → J'.obj k = some o) : C4 J' n0 C c :=
  ⟨h.len, fun j x l h1 h2 => by
    rcases h.row j x l h1 h2 with h | ⟨n, h3, h4, h5, h6⟩
    · exact .inl h
    · exact .inr ⟨n, h3, by omega, h5, ho n _ h3 h4 h6⟩, h.inj⟩
theorem C4.at {J : A2} {n0 : Nat} {C : List IV} {c : List (List (List UInt8))} (h : C4 J n0 C c) {f : Nat} (hf : f < c.length) : (C[f]? = some (.v (.slice none 0 0)) ∧ c[f] = []) ∨ ∃ n, n0 ≤ n ∧ n < J.next ∧ C[f]? = some (.os n c[f].length) ∧ J.obj n = some (rwS c[f]) := by
 have hf' : f < C.length := by rw [h.len]; exact hf
 rcases h.row f _ _ (List.getElem?_eq_getElem hf') (List.getElem?_eq_getElem hf) with ⟨h1, h2⟩ | ⟨n, h1, h2, h3, h4⟩
 ·exact .inl ⟨by rw [List.getElem?_eq_getElem hf', h1], h2⟩
 ·exact .inr ⟨n, h1, h2, by rw [List.getElem?_eq_getElem hf', h3], h4⟩
theorem C4.Ih {J J' : A2} {n0 : Nat} {C : List IV} {c : List (List (List UInt8))} (h : C4 J n0 C c) {f k : Nat} {x : List UInt8} (hf : f < c.length) (hc : c[f] = []) (hk : n0 ≤ k) (hkJ : J.next ≤ k) (hk' : k < J'.next) (hx : J.next ≤ J'.next)
    (ho : ∀ i o, n0 ≤ i → i < J.next → J.obj i = some o → J'.obj i = some o) (hn : J'.obj k = some (rwS [x])) : C4 J' n0 (C.set f (.os k 1)) (c.set f [x]) where
  len := by simp [h.len]
  row := fun j y l h1 h2 => by
    have hf' : f < C.length := by rw [h.len]; exact hf
    rw [List.getElem?_set] at h1 h2
    by_cases e : f = j
    · rw [if_pos e] at h1 h2
      subst e
      rw [if_pos hf'] at h1
      rw [if_pos hf] at h2
      cases h1
      cases h2
      exact .inr ⟨k, hk, hk', rfl, hn⟩
    · rw [if_neg e] at h1 h2
      exact (h.mono hx ho).row j y l h1 h2
  inj := fun j j' n m m' h1 h2 => by
    have old : ∀ (i m : Nat), C[i]? = some (.os k m) → False := fun i m e => by
      have hi : i < c.length := by rw [← h.len]; exact (List.getElem?_eq_some_iff.1 e).1
      rcases h.row i _ _ e (List.getElem?_eq_getElem hi) with ⟨q, _⟩ | ⟨n, _, q2, q3, _⟩
      · cases q
      · cases q3; omega
    rw [List.getElem?_set] at h1 h2
    by_cases e : f = j <;> by_cases e' : f = j'
    · omega
    · rw [if_pos e] at h1
      rw [if_neg e'] at h2
      split at h1
      · cases h1; exact (old _ _ h2).elim
      · cases h1
    · rw [if_neg e] at h1
      rw [if_pos e'] at h2
      split at h2
      · cases h2; exact (old _ _ h1).elim
      · cases h2
    · rw [if_neg e] at h1
      rw [if_neg e'] at h2
      exact h.inj j j' n m m' h1 h2
theorem C4.Ii {J J' : A2} {n0 : Nat} {C : List IV} {c : List (List (List UInt8))} (h : C4 J n0 C c) {f k m : Nat} {l : List (List UInt8)} (hf : f < c.length) (hC : C[f]? = some (.os k m)) (hx : J.next ≤ J'.next)
    (ho : ∀ i o, n0 ≤ i → i < J.next → i ≠ k → J.obj i = some o → J'.obj i = some o) (hn : J'.obj k = some (rwS l)) : C4 J' n0 (C.set f (.os k l.length)) (c.set f l) where
  len := by simp [h.len]
  row := fun j y l' h1 h2 => by
    have hf' : f < C.length := by rw [h.len]; exact hf
    rw [List.getElem?_set] at h1 h2
    by_cases e : f = j
    · rw [if_pos e] at h1 h2
      subst e
      rw [if_pos hf'] at h1
      rw [if_pos hf] at h2
      cases h1
      cases h2
      rcases h.row f _ _ hC (List.getElem?_eq_getElem hf) with ⟨q, _⟩ | ⟨n, q1, q2, q3, _⟩
      · cases q
      · cases q3; exact .inr ⟨k, q1, by omega, rfl, hn⟩
    · rw [if_neg e] at h1 h2
      rcases h.row j y l' h1 h2 with q | ⟨n, q1, q2, q3, q4⟩
      · exact .inl q
      · refine .inr ⟨n, q1, by omega, q3, ho n _ q1 q2 ?_ q4⟩
        rintro rfl
        rw [q3] at h1
        exact e (h.inj f j n m _ hC h1)
  inj := fun j j' n m1 m2 h1 h2 => by
    have back : ∀ (i m : Nat), (C.set f (.os k l.length))[i]? = some (.os n m) → ∃ m', C[i]? = some (.os n m') := fun i m e => by
      rw [List.getElem?_set] at e
      split at e
      · rename_i q
        split at e
        · cases e; exact ⟨_, by rw [← q]; exact hC⟩
        · cases e
      · exact ⟨_, e⟩
    obtain ⟨a, ha⟩ := back j m1 h1
    obtain ⟨b, hb⟩ := back j' m2 h2
    exact h.inj j j' n a b ha hb
theorem C4.fz {J H : A2} {n0 : Nat} {C : List IV} {c : List (List (List UInt8))} (h : C4 J n0 C c) (hk : ∀ n, n0 ≤ n → H.obj n = none) : Fz J H (.ag C) (.ag (c.map fun l => .sl 1 (l.map fun s => [.v (str s)]))) := by
 refine .ag _ _ (by simp [h.len]) fun j x y h1 h2 => ?_; rw [List.getElem?_map] at h2; cases hc : c[j]? with
 | none => rw [hc] at h2; cases h2
 | some l =>
  rw [hc] at h2; cases h2; have hnb : NB H.next (.sl 1 (l.map fun s => [IV.v (str s)])) := L8.2 fun e he z hz => by
   obtain ⟨s, _, rfl⟩ := List.mem_map.1 he; simp at hz; subst hz; exact .v _
  rcases h.row j x l h1 hc with ⟨rfl, rfl⟩ | ⟨n, q1, q2, rfl, q4⟩
  ·exact .wk _ _ (.nil 1) (by simpa using hnb)
  ·exact .row (hk n q1) q4 (by simp) hnb
end Go.Idl
namespace Go.Idl
open Go
theorem Zn (f : Int) : F76 f = some (FW f) := by
 unfold F76 FW; split <;> rfl
def C0 (f : Int) (l : List Str) : Bool := Bx f l && (!decide (f = 0) || decide (l.length = 1))
theorem Zo (f : Int) (l : List Str) (hl : l.length ≤ 1000000 ∧ ∀ s, s ∈ l → s.length ≤ 1000000) : F47 f l = some (C0 f l) := by
 unfold F47; rw [Zn]; simp only [Option.bind_some]; by_cases h1 : FW f < (l.length : Int)
 ·rw [if_pos h1]; have : ¬ ((l.length : Int) ≤ FW f) := by omega
  simp [C0, Bx, this]
 ·rw [if_neg h1]; have main : ((!decide (f = 0) || decide (l.length = 1)) = true) → I0 f l = some (C0 f l) := by
   intro hz; unfold I0; obtain ⟨r, q1, q2⟩ := Cz (step := fun (s : Int) => H_ f l s) (Post := fun y => (y = .inl () ∧ l.all (Bc f) = true ∧ B6 l = true) ∨ (y = .inr false ∧ (l.all (Bc f) && B6 l) = false)) l.length (fun i => (l.take i).all (Bc f) = true ∧ B6 (l.take i) = true) (by simp [B6])
    (fun i hi hI => by
      have hw := AK (i := i) (by omega)
      have hli := hl.2 l[i] (List.getElem_mem _)
      -- the bytes of a value
      have inner : 1 ≤ l[i].length → l[i].length ≤ 200 → Dv f l i = if Bc f l[i] = true then some (.inl ((i + 1 : Nat) : Int)) else some (.inr (.inr false)) := by
        intro hlo hhi
        unfold Dv
        obtain ⟨r, p1, p2⟩ := Cz (step := fun (s : Int) => Fw f l i s) (Post := fun y => (y = .inl () ∧ l[i].all (Bu f) = true) ∨ (y = .inr false ∧ l[i].all (Bu f) = false)) l[i].length (fun j => (l[i].take j).all (Bu f) = true) (by simp)
          (fun j hj hJ => by
            have hwj := AK (i := j) (by omega)
            simp only [Fw]
            rw [Ab (by omega), Int.toNat_natCast, getD_some hi, if_pos (by omega), Ab (by omega), Int.toNat_natCast, getD_some hj, hwj]
            have bad : Bu f l[i][j] = false → l[i].all (Bu f) = false := fun h => by
              rw [List.all_eq_false]
              exact ⟨l[i][j], List.getElem_mem _, by simp [h]⟩
            have good : Bu f l[i][j] = true → (l[i].take (j + 1)).all (Bu f) = true := fun h => by
              rw [List.take_succ_eq_append_getElem hj, List.all_append, hJ]
              simp [h]
            by_cases b1 : ((l[i][j].toNat : Int)) < 32
            · rw [if_pos b1]
              by_cases b2 : ((l[i][j].toNat : Int)) = 10
              · rw [if_neg (by simpa using b2)]
                by_cases b3 : f = 5
                · rw [if_neg (by simpa using b3)]
                  exact .inl ⟨rfl, good (by simp [Bu, b3]; omega)⟩
                · rw [if_pos b3]
                  exact .inr ⟨_, rfl, .inr ⟨rfl, bad (by simp [Bu, b3]; omega)⟩⟩
              · rw [if_pos b2]
                exact .inr ⟨_, rfl, .inr ⟨rfl, bad (by simp [Bu]; omega)⟩⟩
            · rw [if_neg b1]
              exact .inl ⟨rfl, good (by simp [Bu]; omega)⟩)
          (fun hJ => by
            simp only [Fw]
            rw [Ab (by omega), Int.toNat_natCast, getD_some hi, if_neg (by omega)]
            rw [List.take_length] at hJ
            exact ⟨_, rfl, .inl ⟨rfl, hJ⟩⟩)
        rw [p1]
        rcases p2 with ⟨rfl, h⟩ | ⟨rfl, h⟩
        · simp [J7, Bc, h, hlo, hhi, hw]
        · simp [Bc, h]
      have badv : Bc f l[i] = false → (l.all (Bc f) && B6 l) = false := fun h => by
        have : l.all (Bc f) = false := by
          rw [List.all_eq_false]
          exact ⟨l[i], List.getElem_mem _, by simp [h]⟩
        rw [this, Bool.false_and]
      have step2 : (i = 0 ∨ B6 (l.take (i + 1)) = true) → 1 ≤ l[i].length → l[i].length ≤ 200 → (Dv f l i = some (.inl ((i + 1 : Nat) : Int)) ∧ ((l.take (i + 1)).all (Bc f) = true ∧ B6 (l.take (i + 1)) = true)) ∨ ∃ r, Dv f l i = some (.inr r) ∧ ((r = .inl () ∧ l.all (Bc f) = true ∧ B6 l = true) ∨ (r = .inr false ∧ (l.all (Bc f) && B6 l) = false)) := by
        intro hr hlo hhi
        rw [inner hlo hhi]
        cases hv : Bc f l[i] with
        | true =>
          refine .inl ⟨rfl, ?_, ?_⟩
          · rw [List.take_succ_eq_append_getElem hi, List.all_append, hI.1]
            simp [hv]
          · rcases hr with rfl | hr
            · cases l with
              | nil => simp at hi
              | cons x t => simp [B6]
            · exact hr
        | false => exact .inr ⟨_, rfl, .inr ⟨rfl, badv hv⟩⟩
      simp only [H_]
      rw [if_pos (by omega), Ab (by omega), Int.toNat_natCast, getD_some hi]
      by_cases c1 : (l[i].length : Int) < 1
      · rw [if_pos c1]
        exact .inr ⟨_, rfl, .inr ⟨rfl, badv (by simp [Bc]; omega)⟩⟩
      · rw [if_neg c1]
        by_cases c2 : 200 < (l[i].length : Int)
        · rw [if_pos c2]
          exact .inr ⟨_, rfl, .inr ⟨rfl, badv (by simp [Bc]; omega)⟩⟩
        · rw [if_neg c2]
          by_cases c3 : 0 < (i : Int)
          · have e1 : IntKind.i64.wrap ((i : Int) - 1) = ((i - 1 : Nat) : Int) := by rw [wrap_i64 (by omega) (by omega)]; omega
            have hi1 : i - 1 < l.length := by omega
            have hrt := JU l i (by omega) hi
            rw [if_pos c3, e1, Ab (by omega), Int.toNat_natCast, getD_some hi1]
            by_cases c4 : Op.bytesLess l[i - 1] l[i] = true
            · rw [if_neg (by simpa using c4)]
              exact step2 (.inr (by rw [hrt, hI.2, c4]; rfl)) (by omega) (by omega)
            · rw [if_pos c4]
              refine .inr ⟨_, rfl, .inr ⟨rfl, ?_⟩⟩
              have : B6 l = false := by
                cases hh : B6 l with
                | false => rfl
                | true =>
                  have := Gf l (i + 1) hh
                  rw [hrt] at this
                  simp [c4] at this
              rw [this, Bool.and_false]
          · rw [if_neg c3]
            exact step2 (.inl (by omega)) (by omega) (by omega))
    (fun hI => by
      simp only [H_]
      rw [if_neg (by omega)]
      rw [List.take_length] at hI
      exact ⟨_, rfl, .inl ⟨rfl, hI⟩⟩)
   rw [q1]; have hm : (l.length : Int) ≤ FW f := by omega
   rcases q2 with ⟨rfl, h2, h3⟩ | ⟨rfl, h2⟩
   ·have e : (l.any fun s => !Bc f s) = false := by
     rw [List.any_eq_false]; intro s hs'; simp [List.all_eq_true.1 h2 s hs']
    simp [Mv, C0, Bx, e, h3, hm, hz]
   ·have e : (!(l.any fun s => !Bc f s) && B6 l) = false := by
     rw [← h2]; congr 1; rw [Bool.eq_iff_iff]; simp
    simp only [Option.bind_some, Sum.elim_inr, C0, Bx, Bool.and_assoc] at e ⊢; rw [← Bool.and_assoc (!_), e]; simp
  by_cases h2 : f = 0
  ·rw [if_pos h2]; by_cases h3 : (l.length : Int) = 1
   ·rw [if_neg (by simpa using h3)]; exact main (by simp; omega)
   ·rw [if_pos h3]; have : ¬ l.length = 1 := by omega
    simp [C0, h2, this]
  ·rw [if_neg h2]; exact main (by simp [h2])
theorem Ij (c : List (List Str)) (hc : c.length = 8) : AS c = true ↔ ∀ (i : Nat) (h : i < c.length), C0 i c[i] = true := by
 unfold AS; simp only [Bool.and_eq_true, List.all_eq_true, decide_eq_true_eq]; constructor
 ·rintro ⟨h1, h2⟩ i hi
  have := h1 (c[i], i) (by rw [List.mem_zipIdx_iff_getElem?]; simp [hi]); simp only [C0, this, Bool.true_and, Bool.or_eq_true, Bool.not_eq_true', decide_eq_false_iff_not, decide_eq_true_eq]; by_cases e : i = 0
  ·subst e; rw [getD_some hi] at h2; exact .inr h2
  ·exact .inl (by omega)
 ·intro h; refine ⟨fun p hp => ?_, ?_⟩
  ·obtain ⟨l, i⟩ := p; rw [List.mem_zipIdx_iff_getElem?] at hp; obtain ⟨hi, he⟩ := List.getElem?_eq_some_iff.1 hp; have := h i hi; simp only [C0, Bool.and_eq_true] at this; simp only at he; rw [← he]; exact this.1
  ·have h0 : 0 < c.length := by omega
   have := h 0 h0; simp only [C0, Bool.and_eq_true] at this; rw [getD_some h0]; simpa using this.2
theorem Pj (c : List (List Str)) (hs : DK c) : F17 c = some (AS c) := by
 obtain ⟨hc, hs⟩ := hs; unfold F17; rw [Ab hc]; obtain ⟨r, h1, h2⟩ := Cz (step := fun (s : Int) => Ia c s) (Post := fun y => (y = .inl () ∧ AS c = true) ∨ (y = .inr false ∧ AS c = false)) 8 (fun i => ∀ (j : Nat) (h : j < c.length), j < i → C0 j c[j] = true) (by intro j _ h; omega)
  (fun i hi hI => by
    have hw := AK (i := i) (by omega)
    have hi' : i < c.length := by omega
    simp only [Ia]
    rw [if_pos (by omega), Ab (by omega), Int.toNat_natCast, getD_some hi', Zo _ _ (hs _ (List.getElem_mem _))]
    simp only [Option.bind_some]
    by_cases h : C0 i c[i] = true
    · rw [if_neg (by simpa using h), hw]
      refine .inl ⟨rfl, fun j hj hji => ?_⟩
      by_cases e : j = i
      · subst e; exact h
      · exact hI j hj (by omega)
    · rw [if_pos h]
      refine .inr ⟨_, rfl, .inr ⟨rfl, ?_⟩⟩
      rw [Bool.eq_false_iff]
      intro h'
      exact h ((Ij c hc).1 h' i hi'))
  (fun hI => by
    simp only [Ia]
    rw [if_neg (by omega)]
    exact ⟨_, rfl, .inl ⟨rfl, (Ij c hc).2 fun i hi => hI i hi (by omega)⟩⟩)
 rw [h1]; rcases h2 with ⟨rfl, h⟩ | ⟨rfl, h⟩
 ·simp [Mw, h]
 ·simp [h]
end Go.Idl
namespace Go.Idl
open Go
theorem D4 {α : Type} (l : List α) (p : α → Bool) {step : Int → Option (Int ⊕ (Unit ⊕ Bool))} (hl : l.length ≤ 1000000000)
    (hs : ∀ (i : Nat) (h : i < l.length), step (i : Int) = some (if p l[i] = true then .inl (IntKind.i64.wrap ((i : Int) + 1)) else .inr (.inr false)))
    (hf : step (l.length : Int) = some (.inr (.inl ()))) : AD step 0 = some (if l.all p = true then .inl () else .inr false) := by
 rw [CA l (fun _ x => if p x = true then none else some (.inr false)) (.inl ()) hl (fun i h => by
   rw [hs i h]
   by_cases hp : p l[i] = true
   · simp [hp]
   · simp [hp]) hf, Ig]
theorem IM {α ρ : Type} {f g : Nat → α → Option ρ} {d : ρ} : ∀ {l : List α} {k : Nat}, (∀ i x, k ≤ i → f i x = g i x) → Cq f d k l = Cq g d k l
  | [], _, _ => rfl
  | x :: l, k, h => by
    rw [C9, C9, h k x (Nat.le_refl _)]
    cases g k x with
    | none => exact IM fun i x hi => h i x (by omega)
    | some r => rfl
theorem Lw {α : Type} (p : α → Bool) : ∀ (l : List α) (k : Nat), ∃ j : Int, 0 ≤ j ∧ Cq (fun i x => if p x = true then none else some (.inr (i : Int))) (.inl ()) k l = (if l.all p = true then (.inl () : Unit ⊕ Int) else .inr j)
  | [], k => ⟨0, by omega, by simp [Cq]⟩
  | x :: l, k => by
    rw [C9]
    by_cases h : p x = true
    · obtain ⟨j, h1, h2⟩ := Lw p l (k + 1)
      exact ⟨j, h1, by simp only [h, if_true]; rw [h2]; simp [h]⟩
    · exact ⟨k, by omega, by simp [h]⟩
def Ks (x : UInt8) : Bool := decide (33 ≤ x.toNat ∧ x.toNat ≤ 126)
def BX (u : Str) : Bool := u.all Ks && decide (1 ≤ u.length ∧ u.length ≤ 64)
theorem TR (u : Str) (h : u.length ≤ 1000000) : F53 u = some (BX u) := by
 unfold F53
 rw [Ab (by omega), D4 u Ks (by omega)
   (fun i hi => by
     simp only [K9]
     rw [if_pos (by omega), Ab (by omega), Int.toNat_natCast, getD_some hi]
     simp only [Ks, decide_eq_true_eq]
     by_cases a : u[i].toNat < 33
     · rw [if_pos (by omega), if_neg (by omega)]
     · rw [if_neg (by omega)]
       by_cases b : 126 < u[i].toNat
       · rw [if_pos (by omega), if_neg (by omega)]
       · rw [if_neg (by omega), if_pos (by omega)])
   (by simp only [K9]; rw [if_neg (by omega)])]
 unfold BX; by_cases h1 : u.all Ks = true
 ·simp only [h1, if_true, Option.bind_some, Sum.elim_inl, Mn, Bool.true_and]; by_cases h2 : (1 : Int) ≤ u.length
  ·rw [if_pos h2]; congr 1; rw [decide_eq_decide]; omega
  ·rw [if_neg h2, decide_eq_false (by omega)]
 ·rw [if_neg h1, Bool.eq_false_iff.2 h1]; simp
theorem TS (u : Str) (h : u.length ≤ 1000000) : F72 u = some (BX u) := by
 unfold F72
 rw [D4 u Ks (by omega)
   (fun i hi => by
     simp only [Kk]
     rw [if_pos (by omega), Ab (by omega), Int.toNat_natCast, getD_some hi]
     simp only [Ks, decide_eq_true_eq]
     by_cases a : u[i].toNat < 33
     · rw [if_pos (by omega), if_neg (by omega)]
     · rw [if_neg (by omega)]
       by_cases b : 126 < u[i].toNat
       · rw [if_pos (by omega), if_neg (by omega)]
       · rw [if_neg (by omega), if_pos (by omega)])
   (by simp only [Kk]; rw [if_neg (by omega)])]
 unfold BX; by_cases h1 : u.all Ks = true
 ·simp only [h1, if_true, Option.bind_some, Sum.elim_inl, Mu, Bool.true_and]; by_cases h2 : (1 : Int) ≤ u.length
  ·rw [if_pos h2]; congr 1; rw [decide_eq_decide]; omega
  ·rw [if_neg h2, decide_eq_false (by omega)]
 ·rw [if_neg h1, Bool.eq_false_iff.2 h1]; simp
def DO (x : UInt8) : Bool := decide ((97 ≤ x.toNat ∧ x.toNat ≤ 122) ∨ (65 ≤ x.toNat ∧ x.toNat ≤ 90) ∨ (48 ≤ x.toNat ∧ x.toNat ≤ 57) ∨ x.toNat = 45 ∨ x.toNat = 46 ∨ x.toNat = 95)
set_option maxHeartbeats 4000000 in
theorem Wc (x : UInt8) : Tc (x.toNat : Int) = some (DO x) := by
 unfold Tc DO; by_cases h : (97 ≤ x.toNat ∧ x.toNat ≤ 122) ∨ (65 ≤ x.toNat ∧ x.toNat ≤ 90) ∨ (48 ≤ x.toNat ∧ x.toNat ≤ 57) ∨ x.toNat = 45 ∨ x.toNat = 46 ∨ x.toNat = 95
 ·rw [decide_eq_true h]
  repeat' split
  all_goals first | rfl | (exfalso; omega) | (congr 1; rw [decide_eq_true_eq]; omega)
 ·rw [decide_eq_false h]
  repeat' split
  all_goals first | rfl | (exfalso; omega) | (congr 1; rw [decide_eq_false_iff_not]; omega)
def Lx (s : Str) : Bool := s.all DO && decide (1 ≤ s.length ∧ s.length ≤ 64)
theorem Zp (s : Str) (h : s.length ≤ 1000000) : F83 s = some (Lx s) := by
 have e : Td s = some (s.all DO) := by
  unfold Td
  rw [Ab (by omega), D4 s DO (by omega)
    (fun i hi => by
      simp only [GV]
      rw [if_pos (by omega), Ab (by omega), Int.toNat_natCast, getD_some hi, Wc]
      simp only [Option.bind_some]
      cases DO s[i] <;> simp)
    (by simp only [GV]; rw [if_neg (by omega)])]
  by_cases h1 : s.all DO = true
  ·simp [h1, J2]
  ·rw [if_neg h1, Bool.eq_false_iff.2 h1]; simp
 unfold F83 Lx; rw [e]; by_cases h2 : (1 : Int) ≤ s.length
 ·rw [if_pos h2]; by_cases h3 : (s.length : Int) ≤ 64
  ·rw [if_pos h3, decide_eq_true (by omega)]; simp
  ·rw [if_neg h3, decide_eq_false (by omega)]; simp
 ·rw [if_neg h2, decide_eq_false (by omega)]; simp
def IN : Str := [47, 98, 111, 111, 107, 47]
def BM (s : Str) : Bool := decide (s.take 6 = IN) && Lx (s.drop 6)
theorem TT (s : Str) (h : s.length ≤ 1000000) : F55 s = some (BM s) := by
 have e : F64 s [47, 98, 111, 111, 107, 47] = some (if s.take 6 = IN then (s.drop 6, true) else (s, false)) := by
  unfold F64 Ta T9; by_cases h1 : ((([47, 98, 111, 111, 107, 47] : Str).length : Int)) ≤ s.length
  ·have h6 : (6 : Int) ≤ s.length := by simpa using h1
   rw [if_pos h1, Ab (by simp), Ab h1]; simp only [Option.bind_some, List.length_cons, List.length_nil]; by_cases h2 : s.take 6 = IN
   ·have h3 : List.take (((0 + 1 + 1 + 1 + 1 + 1 + 1 : Nat) : Int)).toNat s = [47, 98, 111, 111, 107, 47] := h2; rw [decide_eq_true h3, if_neg (by simp), Ab (by omega), Ab (by simpa using h6), if_pos h2]; rfl
   ·have h3 : ¬ List.take (((0 + 1 + 1 + 1 + 1 + 1 + 1 : Nat) : Int)).toNat s = [47, 98, 111, 111, 107, 47] := h2; rw [decide_eq_false h3, if_pos (by simp), if_neg h2]; rfl
  ·rw [if_neg h1]; have h2 : ¬ s.take 6 = IN := by
    intro e; have := congrArg List.length e; simp [IN] at this; simp at h1; omega
   rw [if_neg h2]; simp
 unfold F55; rw [e]; unfold BM; by_cases h2 : s.take 6 = IN
 ·rw [if_pos h2, decide_eq_true h2]; simp only [Option.bind_some, if_true]; rw [Zp _ (by rw [List.length_drop]; omega)]; simp
 ·rw [if_neg h2, decide_eq_false h2]; simp
set_option maxHeartbeats 4000000 in
theorem TU (s : Str) (h : s.length ≤ 1000000) : F71 s = some (BM s) := by
 have e : ∀ s : Str, s.length ≤ 1000000 → Tw s = some (Lx s) := fun s h => by
  unfold Tw
  rw [D4 s DO (by omega)
    (fun i hi => by
      simp only [GZ]
      rw [if_pos (by omega), Ab (by omega), Int.toNat_natCast, getD_some hi]
      generalize hx : s[i] = x
      unfold DO
      by_cases h : (97 ≤ x.toNat ∧ x.toNat ≤ 122) ∨ (65 ≤ x.toNat ∧ x.toNat ≤ 90) ∨ (48 ≤ x.toNat ∧ x.toNat ≤ 57) ∨ x.toNat = 45 ∨ x.toNat = 46 ∨ x.toNat = 95
      · rw [decide_eq_true h, if_pos rfl]
        repeat' split
        all_goals first | rfl | (exfalso; omega)
      · rw [decide_eq_false h]
        simp only [Bool.false_eq_true, if_false]
        repeat' split
        all_goals first | rfl | (exfalso; omega))
    (by simp only [GZ]; rw [if_neg (by omega)])]
  unfold Lx; by_cases h1 : s.all DO = true
  ·simp only [h1, if_true, Option.bind_some, Sum.elim_inl, J6, Bool.true_and]; by_cases h2 : (1 : Int) ≤ s.length
   ·rw [if_pos h2]; congr 1; rw [decide_eq_decide]; omega
   ·rw [if_neg h2, decide_eq_false (by omega)]
  ·rw [if_neg h1, Bool.eq_false_iff.2 h1]; simp
 unfold F71 BM; by_cases h1 : (6 : Int) < s.length
 ·rw [if_pos h1, Ab (by omega), Ab (by omega)]; by_cases h2 : s.take 6 = IN
  ·have h3 : s.take 6 = [47, 98, 111, 111, 107, 47] := h2; rw [if_pos h3, decide_eq_true h2, e _ (by rw [List.length_drop]; omega)]; simp
  ·have h3 : ¬ s.take 6 = [47, 98, 111, 111, 107, 47] := h2; rw [if_neg h3, decide_eq_false h2]; simp
 ·rw [if_neg h1]; have : Lx (s.drop 6) = false := by
   rw [List.drop_of_length_le (by omega)]; rfl
  rw [this]; simp
def Dh (x : UInt8) : Bool := decide ((97 ≤ x.toNat ∧ x.toNat ≤ 122) ∨ (65 ≤ x.toNat ∧ x.toNat ≤ 90))
def CP (x : UInt8) : Bool := Dh x || decide ((48 ≤ x.toNat ∧ x.toNat ≤ 57) ∨ x.toNat = 45)
def BI (s : Str) : Bool := decide (1 ≤ s.length ∧ s.length ≤ 64) && (match s with | [] => false | c :: _ => Dh c) && s.all CP
theorem FB (x : UInt8) (a b : Nat) : FK (x.toNat : Int) (a : Int) (b : Int) = some (decide (a ≤ x.toNat ∧ x.toNat ≤ b)) := by
 unfold FK; by_cases h : (a : Int) ≤ x.toNat
 ·rw [if_pos h]; congr 1; rw [decide_eq_decide]; omega
 ·rw [if_neg h, decide_eq_false (by omega)]
theorem TV (s : Str) (h : s.length ≤ 1000000) : F80 s = some (BI s) := by
 unfold F80
 rw [Ab (by omega), CA s (fun i x => if (Dh x || (decide (¬ i = 0) && CP x)) = true then none else some (.inr false)) (.inl ()) (by omega)
   (fun i hi => by
     simp only [Kc]
     rw [if_pos (by omega), Ab (by omega), Int.toNat_natCast, getD_some hi]
     generalize s[i] = x
     have e1 : FK (x.toNat : Int) 97 122 = _ := FB x 97 122
     have e2 : FK (x.toNat : Int) 65 90 = _ := FB x 65 90
     have e3 : FK (x.toNat : Int) 48 57 = _ := FB x 48 57
     rw [e1, e2, e3]
     simp only [Option.bind_some, decide_eq_true_eq]
     by_cases h1 : 97 ≤ x.toNat ∧ x.toNat ≤ 122
     · have : Dh x = true := by simp only [Dh, decide_eq_true_eq]; exact .inl h1
       simp [h1, this]
     · by_cases h2 : 65 ≤ x.toNat ∧ x.toNat ≤ 90
       · have : Dh x = true := by simp only [Dh, decide_eq_true_eq]; exact .inr h2
         simp [h1, h2, this]
       · have hl : Dh x = false := by simp only [Dh, decide_eq_false_iff_not]; omega
         rw [if_pos h1, if_pos h2]
         by_cases h0 : i = 0
         · subst h0
           simp [hl]
         · have h0' : ¬ ((i : Int) = 0) := by omega
           rw [if_neg h0']
           by_cases h3 : 48 ≤ x.toNat ∧ x.toNat ≤ 57
           · have : CP x = true := by simp only [CP, Bool.or_eq_true, decide_eq_true_eq]; exact .inr (.inl h3)
             simp [h3, this, h0]
           · rw [if_pos h3]
             by_cases h4 : (x.toNat : Int) = 45
             · have : CP x = true := by simp only [CP, Bool.or_eq_true, decide_eq_true_eq]; exact .inr (.inr (by omega))
               simp [h4, this, h0]
             · have : CP x = false := by simp only [CP, Bool.or_eq_false_iff, hl, decide_eq_false_iff_not, true_and]; omega
               rw [if_pos h4]
               simp [this, hl])
   (by simp only [Kc]; rw [if_neg (by omega)])]
 unfold BI; cases s with
 | nil => simp [Cq, Kb]
 | cons c t =>
  rw [C9]; by_cases hc : Dh c = true
  ·have hw : CP c = true := by simp [CP, hc]
   simp only [hc, Bool.true_or, if_true]
   rw [IM (g := fun _ x => if CP x = true then none else some (.inr false)) (fun i x hi => by
     have : ¬ i = 0 := by omega
     by_cases hx : Dh x = true
     · have : CP x = true := by simp [CP, hx]
       simp [hx, this]
     · simp [this, hx]), Ig]
   by_cases ha : t.all CP = true
   ·simp only [ha, if_true, Option.bind_some, Sum.elim_inl, Kb, List.all_cons, hw, Bool.and_true]; by_cases h2 : (1 : Int) ≤ (c :: t).length
    ·rw [if_pos h2]; simp; omega
    ·simp at h2; omega
   ·rw [if_neg ha]; simp [List.all_cons, Bool.eq_false_iff.2 ha]
  ·have hc' : Dh c = false := Bool.eq_false_iff.2 hc; simp [hc']
set_option maxHeartbeats 4000000 in
theorem Q4 (s : Str) (h : s.length ≤ 1000000) : Ra s = some (BI s) := by
 have eL : ∀ x : UInt8, R9 (x.toNat : Int) = some (Dh x) := fun x => by
  unfold R9 Dh; by_cases h : (97 ≤ x.toNat ∧ x.toNat ≤ 122) ∨ (65 ≤ x.toNat ∧ x.toNat ≤ 90)
  ·rw [decide_eq_true h]
   repeat' split
   all_goals first | rfl | (exfalso; omega) | (congr 1; rw [decide_eq_true_eq]; omega)
  ·rw [decide_eq_false h]
   repeat' split
   all_goals first | rfl | (exfalso; omega) | (congr 1; rw [decide_eq_false_iff_not]; omega)
 unfold Ra BI; by_cases h1 : (s.length : Int) < 1
 ·rw [if_pos h1, decide_eq_false (by omega)]; simp
 ·rw [if_neg h1]; by_cases h2 : (64 : Int) < s.length
  ·rw [if_pos h2, decide_eq_false (by omega)]; simp
  ·rw [if_neg h2, decide_eq_true (by omega), Ab (by omega), eL]; cases s with
   | nil => simp at h1
   | cons c t =>
    simp only [Option.bind_some, List.getD_cons_zero, Bool.true_and]; by_cases hc : Dh c = true
    ·rw [hc, if_neg (by simp), D4 (c :: t) CP (by omega)
       (fun i hi => by
         simp only [Fa]
         rw [if_pos (by omega), Ab (by omega), Int.toNat_natCast, getD_some hi, eL]
         generalize (c :: t)[i] = x
         simp only [Option.bind_some]
         by_cases hx : Dh x = true
         · have : CP x = true := by simp [CP, hx]
           rw [if_neg (by simpa using hx), if_pos this]
         · have hx' : Dh x = false := Bool.eq_false_iff.2 hx
           rw [if_pos hx]
           by_cases hw : (48 ≤ x.toNat ∧ x.toNat ≤ 57) ∨ x.toNat = 45
           · have : CP x = true := by simp only [CP, Bool.or_eq_true, decide_eq_true_eq]; exact .inr hw
             rw [if_pos this]
             repeat' split
             all_goals first | rfl | (exfalso; omega)
           · have : CP x = false := by simp only [CP, Bool.or_eq_false_iff, hx', decide_eq_false_iff_not, true_and]; exact hw
             rw [this]
             simp only [Bool.false_eq_true, if_false]
             repeat' split
             all_goals first | rfl | (exfalso; omega))
       (by simp only [Fa]; rw [if_neg (by omega)])]
     by_cases ha : (c :: t).all CP = true
     ·simp only [ha, if_true, Option.bind_some, Sum.elim_inl, G_, Bool.and_true]
     ·rw [if_neg ha, Bool.eq_false_iff.2 ha]; simp
    ·have hc' : Dh c = false := Bool.eq_false_iff.2 hc; simp [hc']
end Go.Idl
namespace Go.Idl
open Go
def lt8 (a b : Str) : Prop := Op.bytesLess a b = true
instance (a b : Str) : Decidable (lt8 a b) := inferInstanceAs (Decidable (_ = true))
theorem Jc (a b : Str) : lt8 a b ↔ a < b := by rw [lt8, Go.Proofs.bytesLess_eq, decide_eq_true_eq]
theorem Db (a : Str) : ¬ lt8 a a := by rw [Jc]; exact List.lt_irrefl a
theorem Lz {a b c : Str} (h : lt8 a b) (k : lt8 b c) : lt8 a c := by rw [Jc] at *; exact List.lt_trans h k
theorem Wd {a b : Str} (h : ¬ lt8 a b) (hne : ¬ a = b) : lt8 b a := by
 rw [Jc] at *; have h1 : b ≤ a := List.not_lt.1 h; rcases List.le_iff_lt_or_eq.1 h1 with h2 | h2
 ·exact h2
 ·exact absurd h2.symm hne
abbrev Rl (l : List Str) : Prop := l.Pairwise lt8
theorem LA : ∀ {l m : List Str}, Rl l → Rl m → (∀ x, x ∈ l ↔ x ∈ m) → l = m
  | [], [], _, _, _ => rfl
  | [], y :: m, _, _, h => by have := (h y).2 (by simp); simp at this
  | x :: l, [], _, _, h => by have := (h x).1 (by simp); simp at this
  | x :: l, y :: m, hl, hm, h => by
    rw [Rl, List.pairwise_cons] at hl hm
    have hxy : x = y := by
      have h1 := (h x).1 (by simp)
      have h2 := (h y).2 (by simp)
      rcases List.mem_cons.1 h1 with h1 | h1
      · exact h1
      · rcases List.mem_cons.1 h2 with h2 | h2
        · exact h2.symm
        · exact absurd (Lz (hm.1 x h1) (hl.1 y h2)) (Db y)
    subst hxy
    rw [LA hl.2 hm.2 fun z => ?_]
    constructor
    · intro hz
      have := (h z).1 (by simp [hz])
      rcases List.mem_cons.1 this with e | e
      · exact absurd (e ▸ hl.1 z hz) (Db _)
      · exact e
    · intro hz
      have := (h z).2 (by simp [hz])
      rcases List.mem_cons.1 this with e | e
      · exact absurd (e ▸ hm.1 z hz) (Db _)
      · exact e
theorem Kt {l : List Str} (h : Rl l) : l.Nodup := by
 refine h.imp fun {a b} hab e => ?_; subst e; exact Db _ hab
theorem Rm (l : List Str) (x : Str) : x ∈ C_ l ↔ x ∈ l := by simp [C_]
theorem Pk {l : List Str} (h : l.Nodup) : Rl (C_ l) := by
 have hs : (C_ l).Pairwise (fun a b => a ≤ b) := by
  have := List.pairwise_mergeSort (le := fun (x y : Str) => decide (x ≤ y)) (fun a b c h1 h2 => by simp only [decide_eq_true_eq] at *; exact List.le_trans h1 h2) (fun a b => by simp only [Bool.or_eq_true, decide_eq_true_eq]; exact List.le_total a b) l; exact this.imp fun h => by simpa using h
 have hn : (C_ l).Nodup := (List.mergeSort_perm l _).nodup_iff.2 h; have hb := List.pairwise_and_iff.2 ⟨hs, hn⟩; refine hb.imp fun {a b} hab => ?_; rw [Jc]; rcases List.le_iff_lt_or_eq.1 hab.1 with h2 | h2
 ·exact h2
 ·exact absurd h2 hab.2
section
variable {κ β : Type} [DecidableEq κ]
theorem Ff (m : List (κ × β)) (k : κ) (v : β) (n : κ) : B8 (AT m k v) n = if n = k then some v else B8 m n := by
 induction m with
 | nil =>
  simp only [AT, B8]; by_cases h : k = n
  ·simp [h]
  ·rw [if_neg h, if_neg (fun e => h e.symm)]
 | cons p t ih =>
  simp only [AT]; by_cases h : p.1 = k
  ·rw [if_pos h]; simp only [B8]; by_cases hn : k = n
   ·simp [hn]
   ·rw [if_neg hn, if_neg (fun e => hn e.symm), h, if_neg hn]
  ·rw [if_neg h]; simp only [B8]; by_cases hn : p.1 = n
   ·rw [if_pos hn, if_pos hn, if_neg (fun e => h (hn.trans e))]
   ·rw [if_neg hn, if_neg hn]; exact ih
theorem FC {m : List (κ × β)} {n : κ} : n ∈ m.map (·.1) ↔ (B8 m n).isSome = true := by
 induction m with
 | nil => simp [B8]
 | cons p t ih =>
  simp only [List.map_cons, List.mem_cons, B8] at ih ⊢; by_cases h : p.1 = n
  ·simp [h]
  ·rw [if_neg h, ← ih]; constructor
   ·rintro (e | e)
    ·exact absurd e.symm h
    ·exact e
   ·exact .inr
theorem TW {m : List (κ × β)} {k : κ} {v : β} {n : κ} : n ∈ (AT m k v).map (·.1) ↔ n = k ∨ n ∈ m.map (·.1) := by
 rw [FC, Ff, FC]; by_cases h : n = k
 ·simp [h]
 ·simp [h]
theorem FD {m : List (κ × β)} (h : (m.map (·.1)).Nodup) (k : κ) (v : β) : ((AT m k v).map (·.1)).Nodup := by
 induction m with
 | nil => simp [AT]
 | cons p t ih =>
  simp only [List.map_cons, List.nodup_cons] at h; simp only [AT]; by_cases hp : p.1 = k
  ·rw [if_pos hp]; simp only [List.map_cons, List.nodup_cons]; exact ⟨hp ▸ h.1, h.2⟩
  ·rw [if_neg hp]; simp only [List.map_cons, List.nodup_cons]; refine ⟨fun hm => ?_, ih h.2⟩; rcases TW.1 hm with e | e
   ·exact hp e
   ·exact h.1 e
theorem TX {m : List (κ × β)} {k : κ} : (G9 m k).Sublist m := by
 induction m with
 | nil => exact .slnil
 | cons p t ih =>
  simp only [G9]; split
  ·exact List.sublist_cons_self _ _
  ·exact ih.cons_cons _
theorem LB {m : List (κ × β)} (h : (m.map (·.1)).Nodup) (k : κ) : ((G9 m k).map (·.1)).Nodup := h.sublist (TX.map _)
theorem NY {m : List (κ × β)} (hd : (m.map (·.1)).Nodup) (k n : κ) : B8 (G9 m k) n = if n = k then none else B8 m n := by
 induction m with
 | nil => simp [G9, B8]
 | cons p t ih =>
  simp only [List.map_cons, List.nodup_cons] at hd; simp only [G9]; by_cases h : p.1 = k
  ·rw [if_pos h]; by_cases hn : n = k
   ·subst hn; rw [if_pos rfl]; have := hd.1; rw [h, FC] at this; simpa using this
   ·rw [if_neg hn]; simp only [B8]; rw [if_neg (fun e => hn (e.symm.trans h))]
  ·rw [if_neg h]; simp only [B8]; by_cases hn : p.1 = n
   ·rw [if_pos hn, if_pos hn, if_neg (fun e => h (hn.trans e))]
   ·rw [if_neg hn, if_neg hn]; exact ih hd.2
end
section
variable {α : Type} {hf uf : α → Str}
structure C2 (hf uf : α → Str) (m : List (Str × α)) (n : List (Str × Str)) (L : List α) : Prop where
  We : L.Pairwise fun a b => lt8 (hf a) (hf b)
  mn : (m.map (·.1)).Nodup
  nn : (n.map (·.1)).Nodup
  mg : ∀ h x, B8 m h = some x ↔ x ∈ L ∧ hf x = h
  ng : ∀ u h, B8 n u = some h ↔ ∃ x, x ∈ L ∧ uf x = u ∧ hf x = h
  uu : L.Pairwise fun a b => ¬ uf a = uf b
variable {m : List (Str × α)} {n : List (Str × Str)} {L : List α}
theorem C2.nil : C2 hf uf [] [] [] := ⟨by simp, by simp, by simp, by simp [B8], by simp [B8], by simp⟩
theorem C2.Q5 (t : C2 hf uf m n L) : Rl (L.map hf) := List.pairwise_map.2 t.We
theorem C2.keys (t : C2 hf uf m n L) (h : Str) : h ∈ m.map (·.1) ↔ h ∈ L.map hf := by
 rw [FC, Option.isSome_iff_exists, List.mem_map]; exact ⟨fun ⟨x, hx⟩ => ⟨x, (t.mg h x).1 hx⟩, fun ⟨x, hx⟩ => ⟨x, (t.mg h x).2 hx⟩⟩
theorem C2.len (t : C2 hf uf m n L) : m.length = L.length := by
 have := ((List.perm_ext_iff_of_nodup t.mn (Kt t.Q5)).2 t.keys).length_eq; simpa using this
theorem C2.sort (t : C2 hf uf m n L) : C_ (m.map (·.1)) = L.map hf :=
  LA (Pk t.mn) t.Q5 fun x => by rw [Rm]; exact t.keys x
theorem C2.inj (t : C2 hf uf m n L) {x y : α} (hx : x ∈ L) (hy : y ∈ L) (e : hf x = hf y) : x = y := by
 have h1 := (t.mg (hf x) x).2 ⟨hx, rfl⟩; have h2 := (t.mg (hf x) y).2 ⟨hy, e.symm⟩; rw [h1] at h2; exact Option.some.inj h2
theorem C2.fB (t : C2 hf uf m n L) {x y : α} (hx : x ∈ L) (hy : y ∈ L) (e : uf x = uf y) : x = y := by
 have h1 := (t.ng (uf x) (hf x)).2 ⟨x, hx, rfl, rfl⟩; have h2 := (t.ng (uf x) (hf y)).2 ⟨y, hy, e.symm, rfl⟩; rw [h1] at h2; exact t.inj hx hy (Option.some.inj h2)
theorem C2.get (t : C2 hf uf m n L) {x : α} (hx : x ∈ L) : B8 m (hf x) = some x := (t.mg _ _).2 ⟨hx, rfl⟩
theorem C2.fC (t : C2 hf uf m n L) {x : α} (hx : x ∈ L) : B8 n (uf x) = some (hf x) := (t.ng _ _).2 ⟨x, hx, rfl, rfl⟩
theorem C2.nothing (t : C2 hf uf m n L) {h : Str} : B8 m h = none ↔ ∀ x ∈ L, ¬ hf x = h := by
 rw [Option.eq_none_iff_forall_ne_some]; exact ⟨fun q x hx e => q x ((t.mg h x).2 ⟨hx, e⟩), fun q x e => q x ((t.mg h x).1 e).1 ((t.mg h x).1 e).2⟩
theorem C2.TY (t : C2 hf uf m n L) {u : Str} : B8 n u = none ↔ ∀ x ∈ L, ¬ uf x = u := by
 rw [Option.eq_none_iff_forall_ne_some]; exact ⟨fun q x hx e => q (hf x) ((t.ng u _).2 ⟨x, hx, e, rfl⟩), fun q h e => by obtain ⟨x, h1, h2, _⟩ := (t.ng u h).1 e; exact q x h1 h2⟩
def Gt (hf : α → Str) (h : Str) : List α → Nat
  | [] => 0
  | y :: l => if lt8 (hf y) h then Gt hf h l + 1 else 0
theorem MK (h : Str) : ∀ l : List α, Gt hf h l ≤ l.length
  | [] => Nat.le_refl _
  | y :: l => by
    have := MK h l
    simp only [Gt, List.length_cons]
    split <;> omega
def Ik (hf : α → Str) (x : α) (l : List α) : List α := l.take (Gt hf (hf x) l) ++ x :: l.drop (Gt hf (hf x) l)
theorem Dc {x y : α} {l : List α} : y ∈ Ik hf x l ↔ y = x ∨ y ∈ l := by
 conv => rhs; rw [← List.take_append_drop (Gt hf (hf x) l) l]
 simp only [Ik, List.mem_append, List.mem_cons]; constructor
 ·rintro (h | h | h)
  ·exact .inr (.inl h)
  ·exact .inl h
  ·exact .inr (.inr h)
 ·rintro (h | h | h)
  ·exact .inr (.inl h)
  ·exact .inl h
  ·exact .inr (.inr h)
theorem TZ (x : α) (l : List α) : (Ik hf x l).length = l.length + 1 := by
 have := MK (hf := hf) (hf x) l; simp only [Ik, List.length_append, List.length_cons, List.length_take, List.length_drop]; omega
theorem Ro (x y : α) (l : List α) : Ik hf x (y :: l) = if lt8 (hf y) (hf x) then y :: Ik hf x l else x :: y :: l := by
 unfold Ik; simp only [Gt]; split
 ·simp
 ·simp
theorem LC {x : α} : ∀ {l : List α}, (l.Pairwise fun a b => lt8 (hf a) (hf b)) → (∀ y ∈ l, ¬ hf y = hf x) → (Ik hf x l).Pairwise fun a b => lt8 (hf a) (hf b)
  | [], _, _ => by simp [Ik, Gt]
  | y :: l, h, hn => by
    rw [List.pairwise_cons] at h
    rw [Ro]
    split
    · rename_i hy
      rw [List.pairwise_cons]
      refine ⟨fun z hz => ?_, LC h.2 fun z hz => hn z (by simp [hz])⟩
      rcases Dc.1 hz with e | e
      · exact e ▸ hy
      · exact h.1 z e
    · rename_i hy
      have hxy := Wd hy (hn y (by simp))
      rw [List.pairwise_cons, List.pairwise_cons]
      refine ⟨fun z hz => ?_, h⟩
      rcases List.mem_cons.1 hz with e | e
      · exact e ▸ hxy
      · exact Lz hxy (h.1 z e)
theorem Rp (x : α) (l : List α) : (Ik hf x l).Perm (x :: l) := by
 conv => rhs; rw [← List.take_append_drop (Gt hf (hf x) l) l]
 exact List.perm_middle
theorem C2.add (t : C2 hf uf m n L) {x : α} (h1 : ∀ y ∈ L, ¬ hf y = hf x) (h2 : ∀ y ∈ L, ¬ uf y = uf x) : C2 hf uf (AT m (hf x) x) (AT n (uf x) (hf x)) (Ik hf x L) := by
 refine ⟨LC t.We h1, FD t.mn _ _, FD t.nn _ _, fun h y => ?_, fun u h => ?_, ?_⟩
 ·rw [Ff, Dc]; by_cases e : h = hf x
  ·rw [if_pos e]; constructor
   ·rintro q; cases q; exact ⟨.inl rfl, e.symm⟩
   ·rintro ⟨q | q, q2⟩
    ·rw [q]
    ·exact absurd (q2.trans e) (h1 y q)
  ·rw [if_neg e, t.mg]; constructor
   ·rintro ⟨q, q2⟩; exact ⟨.inr q, q2⟩
   ·rintro ⟨q | q, q2⟩
    ·subst q; exact absurd q2.symm e
    ·exact ⟨q, q2⟩
 ·rw [Ff]; by_cases e : u = uf x
  ·rw [if_pos e]; constructor
   ·rintro q; cases q; exact ⟨x, Dc.2 (.inl rfl), e.symm, rfl⟩
   ·rintro ⟨y, q, q2, q3⟩
    rcases Dc.1 q with q | q
    ·subst q; rw [q3]
    ·exact absurd (q2.trans e) (h2 y q)
  ·rw [if_neg e, t.ng]; constructor
   ·rintro ⟨y, q, q2⟩; exact ⟨y, Dc.2 (.inr q), q2⟩
   ·rintro ⟨y, q, q2, q3⟩
    rcases Dc.1 q with q | q
    ·subst q; exact absurd q2.symm e
    ·exact ⟨y, q, q2, q3⟩
 ·refine (Rp x L).pairwise_iff (fun {a b} h e => h e.symm) |>.2 ?_
  rw [List.pairwise_cons]; exact ⟨fun y hy e => h2 y hy e.symm, t.uu⟩
theorem C2.set (t : C2 hf uf m n L) {k : Nat} (hk : k < L.length) {x : α} (h1 : hf x = hf L[k]) (h2 : uf x = uf L[k]) : C2 hf uf (AT m (hf x) x) (AT n (uf x) (hf x)) (L.set k x) := by
 have hm : L.map hf = (L.set k x).map hf := by
  rw [List.map_set, h1]; apply List.ext_getElem
  ·simp
  ·intro i q q2; simp only [List.getElem_map, List.getElem_set]; split
   ·rename_i e; subst e; rfl
   ·rfl
 have hu : L.map uf = (L.set k x).map uf := by
  rw [List.map_set, h2]; apply List.ext_getElem
  ·simp
  ·intro i q q2; simp only [List.getElem_map, List.getElem_set]; split
   ·rename_i e; subst e; rfl
   ·rfl
 have hmem : ∀ y, y ∈ L.set k x ↔ y = x ∨ (y ∈ L ∧ ¬ hf y = hf x) := by
  intro y; constructor
  ·intro hy; obtain ⟨i, hi, e⟩ := List.getElem_of_mem hy; simp only [List.length_set] at hi; rw [List.getElem_set] at e; split at e
   ·exact .inl e.symm
   ·rename_i ne; subst e; refine .inr ⟨List.getElem_mem _, fun e => ne ?_⟩; rw [h1] at e; have := List.getElem_inj (Kt t.Q5) (i := i) (j := k) (h₀ := by simpa using hi) (h₁ := by simpa using hk); simp only [List.getElem_map] at this; exact (this.1 e).symm
  ·rintro (e | ⟨q, q2⟩)
   ·subst e; exact List.mem_set hk y
   ·obtain ⟨i, hi, e⟩ := List.getElem_of_mem q; have hne : ¬ k = i := by
     intro e2; subst e2; subst e; exact q2 h1.symm
    have : (L.set k x)[i]'(by simpa using hi) = y := by rw [List.getElem_set, if_neg hne, e]
    rw [← this]; exact List.getElem_mem _
 have hLk : L[k] ∈ L := List.getElem_mem _; refine ⟨?_, FD t.mn _ _, FD t.nn _ _, fun h y => ?_, fun u h => ?_, ?_⟩
 ·have := t.Q5; rw [hm] at this; exact List.pairwise_map.1 this
 ·rw [Ff, hmem]; by_cases e : h = hf x
  ·rw [if_pos e]; constructor
   ·rintro q; cases q; exact ⟨.inl rfl, e.symm⟩
   ·rintro ⟨q | q, q2⟩
    ·rw [q]
    ·exact absurd (q2.trans e) q.2
  ·rw [if_neg e, t.mg]; constructor
   ·rintro ⟨q, q2⟩; exact ⟨.inr ⟨q, fun q3 => e (q2.symm.trans q3)⟩, q2⟩
   ·rintro ⟨q | q, q2⟩
    ·subst q; exact absurd q2.symm e
    ·exact ⟨q.1, q2⟩
 ·rw [Ff]; by_cases e : u = uf x
  ·rw [if_pos e]; constructor
   ·rintro q; cases q; exact ⟨x, (hmem _).2 (.inl rfl), e.symm, rfl⟩
   ·rintro ⟨y, q, q2, q3⟩
    rcases (hmem _).1 q with q | q
    ·subst q; rw [q3]
    ·have := t.fB q.1 hLk (q2.trans (e.trans h2)); exact absurd (this ▸ h1.symm) q.2
  ·rw [if_neg e, t.ng]; constructor
   ·rintro ⟨y, q, q2, q3⟩
    refine ⟨y, (hmem _).2 (.inr ⟨q, fun q4 => e ?_⟩), q2, q3⟩; have := t.inj q hLk (q4.trans h1); subst this; exact q2.symm.trans h2.symm
   ·rintro ⟨y, q, q2, q3⟩
    rcases (hmem _).1 q with q | q
    ·subst q; exact absurd q2.symm e
    ·exact ⟨y, q.1, q2, q3⟩
 ·have h3 : (L.map uf).Pairwise fun a b => ¬ a = b := List.pairwise_map.2 t.uu; rw [hu] at h3; exact List.pairwise_map.1 h3
theorem C2.drop (t : C2 hf uf m n L) {k : Nat} (hk : k < L.length) : C2 hf uf (G9 m (hf L[k])) (G9 n (uf L[k])) (L.take k ++ L.drop (k + 1)) := by
 have hLk : L[k] ∈ L := List.getElem_mem _; have hs : (L.take k ++ L.drop (k + 1)).Sublist L := by
  conv => rhs; rw [← List.take_append_drop k L, List.drop_eq_getElem_cons hk]
  exact List.Sublist.append_left (List.sublist_cons_self _ _) _
 have hmem : ∀ y, y ∈ L.take k ++ L.drop (k + 1) ↔ (y ∈ L ∧ ¬ hf y = hf L[k]) := by
  intro y; have hp : L.Perm (L[k] :: (L.take k ++ L.drop (k + 1))) := by
   conv => lhs; rw [← List.take_append_drop k L, List.drop_eq_getElem_cons hk]
   exact List.perm_middle
  have hr : (L[k] :: (L.take k ++ L.drop (k + 1))).Pairwise fun a b => ¬ hf a = hf b := by
   refine (hp.pairwise_iff (fun {a b} h e => h e.symm)).1 ?_; refine t.We.imp fun {a b} h e => ?_; rw [e] at h; exact Db _ h
  rw [List.pairwise_cons] at hr; constructor
  ·intro hy; exact ⟨hs.subset hy, fun e => hr.1 y hy e.symm⟩
  ·rintro ⟨q, q2⟩
   rcases List.mem_cons.1 (hp.mem_iff.1 q) with e | e
   ·exact absurd (by rw [e]) q2
   ·exact e
 refine ⟨t.We.sublist hs, LB t.mn _, LB t.nn _, fun h y => ?_, fun u h => ?_, t.uu.sublist hs⟩
 ·rw [NY t.mn, hmem]; by_cases e : h = hf L[k]
  ·rw [if_pos e]; constructor
   ·intro q; cases q
   ·rintro ⟨q, q2⟩; exact absurd (q2.trans e) q.2
  ·rw [if_neg e, t.mg]; constructor
   ·rintro ⟨q, q2⟩; exact ⟨⟨q, fun q3 => e (q2.symm.trans q3)⟩, q2⟩
   ·rintro ⟨q, q2⟩; exact ⟨q.1, q2⟩
 ·rw [NY t.nn]; by_cases e : u = uf L[k]
  ·rw [if_pos e]; constructor
   ·intro q; cases q
   ·rintro ⟨y, q, q2, q3⟩
    have := t.fB ((hmem y).1 q).1 hLk (q2.trans e); exact absurd (by rw [this]) ((hmem y).1 q).2
  ·rw [if_neg e, t.ng]; constructor
   ·rintro ⟨y, q, q2, q3⟩
    refine ⟨y, (hmem _).2 ⟨q, fun q4 => e ?_⟩, q2, q3⟩; have := t.inj q hLk q4; subst this; exact q2.symm
   ·rintro ⟨y, q, q2, q3⟩; exact ⟨y, ((hmem y).1 q).1, q2, q3⟩
end
section
variable {α : Type}
def ML (p : α → Bool) (l : List α) : Int := match l.findIdx? p with | some i => (i : Int) | none => -1
theorem Ku (p : α → Bool) (l : List α) : (ML p l = -1 ∧ ∀ x ∈ l, p x = false) ∨ ∃ k : Nat, ∃ h : k < l.length, ML p l = (k : Int) ∧ p l[k] = true := by
 unfold ML; cases hf : l.findIdx? p with
 | none => exact .inl ⟨rfl, List.findIdx?_eq_none_iff.1 hf⟩
 | some k =>
  obtain ⟨h1, h2, _⟩ := List.findIdx?_eq_some_iff_getElem.1 hf; exact .inr ⟨k, h1, rfl, h2⟩
end
end Go.Idl
namespace Go.Idl
open Go
def CB (x : S89) : Bool := BI x.fType && decide (x.fType.map BU = x.fType) && decide (1 ≤ x.A7.length ∧ x.A7.length ≤ 200)
def BL (d : List S89) : Bool := decide (d.length ≤ 16) && d.all CB
def Rq (d : List S89) : Prop := d.length ≤ 1000000 ∧ ∀ x, x ∈ d → x.fType.length ≤ 1000000 ∧ x.A7.length ≤ 1000000
theorem T_ (s : Str) (h : s.length ≤ 1000000) : F81 s = some (s.map BU) := Ab (by omega)
theorem Zq (x : S89) (h : x.fType.length ≤ 1000000 ∧ x.A7.length ≤ 1000000) : F79 x = some (CB x) := by
 unfold F79 CB; rw [TV _ h.1, T_ _ h.1]; simp only [Option.bind_some]; by_cases h1 : BI x.fType = true
 ·rw [if_pos h1, h1]; by_cases h2 : x.fType.map BU = x.fType
  ·rw [if_pos h2, decide_eq_true h2]; by_cases h3 : (1 : Int) ≤ x.A7.length
   ·rw [if_pos h3]; congr 1; simp only [Bool.true_and]; rw [decide_eq_decide]; omega
   ·rw [if_neg h3, decide_eq_false (p := 1 ≤ x.A7.length ∧ _) (by omega)]; rfl
  ·rw [if_neg h2, decide_eq_false h2]; simp
 ·rw [if_neg h1, Bool.eq_false_iff.2 h1]; simp
theorem Wg (d : List S89) (h : Rq d) : Tj d = some (!d.all CB) := by
 unfold Tj VT; obtain ⟨j, hj, hf⟩ := Lw CB d 0
 rw [CA d (fun i x => if CB x = true then none else some (.inr (i : Int))) (.inl ()) (by have := h.1; omega)
   (fun i hi => by
     simp only [GX, VR]
     rw [if_pos (by omega), Ab (by omega), Int.toNat_natCast, getD_some hi, Zq _ (h.2 _ (List.getElem_mem _))]
     simp only [Option.bind_some]
     cases CB d[i] <;> simp)
   (by simp only [GX]; rw [if_neg (by omega)]), hf]
 by_cases h1 : d.all CB = true
 ·rw [if_pos h1, h1]; simp [J3]
 ·rw [if_neg h1, Bool.eq_false_iff.2 h1]; simp [hj]
theorem U0 (d : List S89) (h : Rq d) : F54 d = some (if BL d = true then 0 else 2) := by
 unfold F54 BL; by_cases h1 : (16 : Int) < d.length
 ·rw [if_pos h1, decide_eq_false (by omega)]; simp
 ·rw [if_neg h1, decide_eq_true (by omega)]; unfold F82; rw [Wg d h]; simp only [Option.bind_some, Bool.not_not, Bool.true_and]; by_cases h2 : d.all CB = true
  ·rw [if_neg (by simpa using h2), if_pos h2]
  ·rw [if_pos h2, if_neg h2]
theorem NZ {f : UInt8 → UInt8} : ∀ (l acc : Str) (k : Nat), MJ (fun _ (a : Str) x => (.inl (a ++ [f x]) : Str ⊕ Str)) id k acc l = acc ++ l.map f
  | [], acc, _ => by simp [MJ]
  | x :: l, acc, k => by
    rw [Lu]
    simp only
    rw [NZ l]
    simp
theorem Q6 (s : Str) (h : s.length ≤ 1000000) : Rb s = some (s.map BU) := by
 unfold Rb; have key := Rg (l := s) (step := fun (s_1 : Str × Int) => Fx s s_1.1 s_1.2) (fun _ (a : Str) x => (.inl (a ++ [BU x]) : Str ⊕ Str)) id (fun i a => a.length = i) (a := []) (by omega) rfl
  (fun i hi a hI => by
    simp only [Fx]
    rw [if_pos (by omega), Ab (by omega), Int.toNat_natCast, getD_some hi]
    generalize s[i] = x
    obtain ⟨e1, e2⟩ := GU x
    have hx := x.toNat_lt
    by_cases h1 : (65 : Int) ≤ x.toNat
    · rw [if_pos h1]
      by_cases h2 : (x.toNat : Int) ≤ 90
      · have hw : IntKind.u8.wrap ((x.toNat : Int) + 32) = (x.toNat : Int) + 32 := wrap_u8 (by omega) (by omega)
        have e3 := e1 ⟨h1, h2⟩
        rw [if_pos h2, hw, Ab (by omega), Ab (by simp; omega)]
        have e4 : ((x.toNat : Int) + 32).toNat = (BU x).toNat := by omega
        rw [e4, UInt8.ofNat_toNat]
      · rw [if_neg h2, Ab (by omega), Ab (by simp; omega), Int.toNat_natCast, UInt8.ofNat_toNat, e2 (by omega)]
    · rw [if_neg h1, Ab (by omega), Ab (by simp; omega), Int.toNat_natCast, UInt8.ofNat_toNat, e2 (by omega)])
  (fun i hi a a' hI e => by cases e; simp [hI])
  (fun a hI => by simp only [Fx]; rw [if_neg (by omega)]; rfl)
 rw [key, NZ]; simp [J9]
theorem Zr (d : List S89) (h : Rq d) : F73 d = some (BL d) := by
 unfold F73 BL; by_cases h1 : (16 : Int) < d.length
 ·rw [if_pos h1, decide_eq_false (by omega)]; simp
 ·rw [if_neg h1, decide_eq_true (by omega), D4 d CB (by omega)
    (fun i hi => by
      have hb := h.2 _ (List.getElem_mem hi)
      simp only [Ko]
      rw [if_pos (by omega), Ab (by omega), Int.toNat_natCast, getD_some hi, Q4 _ hb.1, Q6 _ hb.1]
      simp only [Option.bind_some]
      unfold CB
      by_cases a1 : BI d[i].fType = true
      · rw [if_neg (by simpa using a1), a1]
        by_cases a2 : (d[i].A7.length : Int) < 1
        · rw [if_pos a2, decide_eq_false (p := 1 ≤ d[i].A7.length ∧ _) (by omega)]; simp
        · rw [if_neg a2]
          by_cases a3 : (200 : Int) < d[i].A7.length
          · rw [if_pos a3, decide_eq_false (p := 1 ≤ d[i].A7.length ∧ _) (by omega)]; simp
          · rw [if_neg a3, decide_eq_true (p := 1 ≤ d[i].A7.length ∧ _) (by omega)]
            by_cases a4 : d[i].fType.map BU = d[i].fType
            · rw [if_neg (by simpa using a4), decide_eq_true a4]; simp
            · rw [if_pos a4, decide_eq_false a4]; simp
      · rw [if_pos a1, Bool.eq_false_iff.2 a1]; simp)
    (by simp only [Ko]; rw [if_neg (by omega)])]
  by_cases h2 : d.all CB = true
  ·simp [h2, Mz]
  ·rw [if_neg h2, Bool.eq_false_iff.2 h2]; simp
theorem Zs (a b : List S89) (ha : a.length ≤ 1000000) : F51 a b = some (decide (a = b)) := by
 unfold F51; by_cases hl : (a.length : Int) = b.length
 ·rw [if_neg (by simpa using hl)]; have hl' : a.length = b.length := by omega
  obtain ⟨r, h1, h2⟩ := Cz (step := fun (s : Int) => Ib a b s) (Post := fun y => (y = .inl () ∧ a = b) ∨ (y = .inr false ∧ ¬ a = b)) a.length (fun i => a.take i = b.take i) (by simp)
   (fun i hi hI => by
     have hw := AK (i := i) (by omega)
     have hib : i < b.length := by omega
     simp only [Ib]
     rw [if_pos (by omega), Ab (by omega), Ab (by omega), Int.toNat_natCast, getD_some hi, getD_some hib, hw]
     by_cases e : a[i].fType = b[i].fType ∧ a[i].A7 = b[i].A7
     · rw [if_neg (by simpa using e)]
       refine .inl ⟨rfl, ?_⟩
       have e' : a[i] = b[i] := by
         cases ha' : a[i] with | mk t v => cases hb' : b[i] with | mk t' v' => rw [ha', hb'] at e; simp at e; rw [e.1, e.2]
       rw [List.take_succ_eq_append_getElem hi, List.take_succ_eq_append_getElem hib, hI, e']
     · rw [if_pos e]
       refine .inr ⟨_, rfl, .inr ⟨rfl, fun q => e ?_⟩⟩
       subst q
       exact ⟨rfl, rfl⟩)
   (fun hI => by
     simp only [Ib]
     rw [if_neg (by omega)]
     refine ⟨_, rfl, .inl ⟨rfl, ?_⟩⟩
     rwa [List.take_of_length_le (Nat.le_refl _), List.take_of_length_le (by omega)] at hI)
  rw [h1]; rcases h2 with ⟨rfl, h⟩ | ⟨rfl, h⟩
  ·simp [MA, h]
  ·simp [h]
 ·rw [if_pos hl, decide_eq_false (fun e => hl (by rw [e]))]
theorem U1 (a b : List (List Str)) (ha : a.length = 8) (hb : b.length = 8) : F48 a b = some (decide (a = b)) := Ab ⟨ha, hb⟩
theorem Zt (a b : S39) (ha : a.A5.length = 8) (hb : b.A5.length = 8) : F19 a b = some (decide (a = b)) := by
 unfold F19; rw [Ab ha, Ab hb, U1 _ _ ha hb]; obtain ⟨h, u, s⟩ := a; obtain ⟨h', u', s'⟩ := b; simp only [S39.mk.injEq, Option.bind_some]; by_cases e1 : h = h'
 ·by_cases e2 : u = u'
  ·simp [e1, e2]
  ·simp [e1, e2]
 ·simp [e1]
theorem Zu (a b : S33) (ha : a.A5.length = 8) (hb : b.A5.length = 8) (hd : a.fDn.length ≤ 1000000) : F25 a b = some (decide (a = b)) := by
 unfold F25; rw [Ab ha, Ab hb, U1 _ _ ha hb, Zs _ _ hd]; obtain ⟨h, u, d, s⟩ := a; obtain ⟨h', u', d', s'⟩ := b; simp only [S33.mk.injEq, Option.bind_some]; by_cases e1 : h = h'
 ·by_cases e2 : u = u'
  ·by_cases e3 : d = d'
   ·simp [e1, e2, e3]
   ·simp [e1, e2, e3]
  ·simp [e1, e2]
 ·simp [e1]
theorem Fg {α : Type} (p : α → Bool) : ∀ (l : List α) (k : Nat), Cq (fun i x => if p x = true then some (.inr (i : Int)) else none) (.inl ()) k l = (match l.findIdx? p with | some j => (.inr ((k + j : Nat) : Int) : Unit ⊕ Int) | none => .inl ())
  | [], k => by simp [Cq]
  | x :: l, k => by
    rw [C9, List.findIdx?_cons]
    by_cases h : p x = true
    · simp [h]
    · simp only [h, if_false, Bool.false_eq_true]
      rw [Fg p l (k + 1)]
      cases l.findIdx? p with
      | none => rfl
      | some j => simp; omega
def EE (l : List S39) (h : Str) : Int := ML (fun x : S39 => decide (x.A9 = h)) l
def IY (l : List S39) (u : Str) : Int := ML (fun x : S39 => decide (x.Ac = u)) l
theorem Zv (l : List S39) (h : Str) (hl : l.length ≤ 1000000) : F15 l h = some (EE l h) := by
 unfold F15
 rw [CA l (fun i x => if decide (x.A9 = h) = true then some (.inr (i : Int)) else none) (.inl ()) (by omega)
   (fun i hi => by
     simp only [Km]
     rw [if_pos (by omega), Ab (by omega), Int.toNat_natCast, getD_some hi]
     by_cases e : l[i].A9 = h <;> simp [e])
   (by simp only [Km]; rw [if_neg (by omega)]), Fg]
 unfold EE ML; cases l.findIdx? (fun x : S39 => decide (x.A9 = h)) with
 | none => simp [Mx]
 | some j => simp
theorem Zw (l : List S39) (u : Str) (hl : l.length ≤ 1000000) : F16 l u = some (IY l u) := by
 unfold F16
 rw [CA l (fun i x => if decide (x.Ac = u) = true then some (.inr (i : Int)) else none) (.inl ()) (by omega)
   (fun i hi => by
     simp only [Kn]
     rw [if_pos (by omega), Ab (by omega), Int.toNat_natCast, getD_some hi]
     by_cases e : l[i].Ac = u <;> simp [e])
   (by simp only [Kn]; rw [if_neg (by omega)]), Fg]
 unfold IY ML; cases l.findIdx? (fun x : S39 => decide (x.Ac = u)) with
 | none => simp [My]
 | some j => simp
end Go.Idl
namespace Go.Idl
open Go
theorem Gu {α : Type} {l : List α} {i : Nat} {d : α} (h : i < l.length) : l.getD i d = l[i] := by rw [List.getD_eq_getElem?_getD, List.getElem?_eq_getElem h]; rfl
theorem byte_eq {a c : UInt8} : ((a.toNat : Int) = (c.toNat : Int)) ↔ a = c := by
 constructor
 ·intro h; exact UInt8.toNat_inj.1 (by omega)
 ·rintro rfl; rfl
theorem Kv {a : UInt8} {n : Nat} (c : UInt8) (hc : c.toNat = n) : ((a.toNat : Int) = (n : Int)) ↔ a = c := by
 rw [← hc]; exact byte_eq
theorem Il {a : UInt8} : ((a.toNat : Int) = 10) ↔ a = 10 := Kv 10 rfl
theorem LD (s : Str) (c : UInt8) (hs : s.length ≤ 4294967280) : ∀ (k i : Nat), i + k = s.length → AD (fun v => Eo s (c.toNat : Int) v) (i : Int) = some (match AP (s.drop i) c with | some p => .inr (s.take i ++ p.1, p.2, true) | none => .inl ())
  | 0, i, h => by
    rw [List.drop_of_length_le (by omega)]
    refine Av ?_
    simp only [Eo]
    rw [if_neg (by omega)]
    rfl
  | k + 1, i, h => by
    have hi : i < s.length := by omega
    have hg : s.getD i 0 = s[i] := by rw [List.getD_eq_getElem?_getD, List.getElem?_eq_getElem hi]; rfl
    have hw : IntKind.i64.wrap ((i : Int) + 1) = ((i + 1 : Nat) : Int) := AK (by omega)
    rw [List.drop_eq_getElem_cons hi]
    unfold AP
    by_cases hc : s[i] = c
    · rw [if_pos hc]
      refine Av ?_
      simp only [Eo]
      rw [if_pos (by omega), Ab (by omega), Int.toNat_natCast, hg, if_pos (byte_eq.2 hc), Ab (by omega), Ab (by omega), hw, Ab (by omega), Ab (by omega), Int.toNat_natCast]
      simp
    · rw [if_neg hc]
      rw [AR (s' := ((i + 1 : Nat) : Int)), LD s c hs k (i + 1) (by omega)]
      · cases AP (s.drop (i + 1)) c with
        | none => rfl
        | some p =>
          simp only [Option.map_some]
          rw [List.take_succ_eq_append_getElem hi]
          simp only [List.append_assoc, List.singleton_append]
      · simp only [Eo]
        rw [if_pos (by omega), Ab (by omega), Int.toNat_natCast, hg, if_neg (fun e => hc (byte_eq.1 e)), hw]
theorem Wh (s : Str) (c : UInt8) (hs : s.length ≤ 4294967280) : TM s (c.toNat : Int) = some (match AP s c with | some p => (p.1, p.2, true) | none => ([], [], false)) := by
 unfold TM; have := LD s c hs s.length 0 (by omega); rw [show (((0 : Nat) : Int)) = 0 from rfl, List.drop_zero] at this; rw [this]; cases AP s c with
 | none => rfl
 | some p => simp
theorem Q7 (st : Bv) (c : UInt8) (hs : st.Ax.fs.length < 4294967281) : Re st (c.toNat : Int) = some (match AP st.Ax.fs c with | some p => (p.1, ⟨⟨p.2⟩, st.Bh⟩) | none => (st.Ax.fs, ⟨⟨[]⟩, true⟩)) := by
 have hb := c.toNat_lt; unfold Re F65; rw [Ab (by omega), Ab (by omega), Int.toNat_natCast, UInt8.ofNat_toNat, Q3]; simp only [Option.bind_some]; cases AP st.Ax.fs c with
 | none => cases h : st.Bh <;> simp
 | some p => cases h : st.Bh <;> simp
theorem MM (st : Bv) (s : Str) (m : Nat) (hm : m ≤ 9999) (hs : s.length ≤ 281474976710656) : Rf st s (m : Int) = some (match Dg s m with | some n => ((n : Int), st) | none => (0, ⟨st.Ax, true⟩)) := by
 have noN : (∀ n, 1 ≤ n → n ≤ m → Lib.decDigits n ≠ s) → (match Dg s m with | some n => ((n : Int), st) | none => ((0 : Int), (⟨st.Ax, true⟩ : Bv))) = (0, ⟨st.Ax, true⟩) := fun h => by rw [Lv h]
 unfold Rf Zl; rw [Ab (by omega)]; simp only [Option.bind_some]; have hat : ∀ n, n ≤ m → Lib.decDigits n = s → CL s = ((n : Int), false) := fun n hn e => by rw [← e]; exact TP n (by omega)
 by_cases h1 : (CL s).2 = true
 ·rw [if_pos h1, noN]; intro n _ hn e; rw [hat n hn e] at h1; cases h1
 ·rw [if_neg h1]; by_cases h2 : (CL s).1 < 1
  ·rw [if_pos h2, noN]; intro n h0 hn e; rw [hat n hn e] at h2; simp only at h2; omega
  ·rw [if_neg h2]; by_cases h3 : (m : Int) < (CL s).1
   ·rw [if_pos h3, noN]; intro n h0 hn e; rw [hat n hn e] at h3; simp only at h3; omega
   ·rw [if_neg h3]; unfold F95; rw [Ab (by omega)]; simp only [Option.bind_some]; obtain ⟨v, hv⟩ : ∃ v : Nat, (CL s).1 = v := ⟨(CL s).1.toNat, by omega⟩; rw [hv, Lm]; by_cases h4 : Lib.decDigits v = s
    ·rw [if_neg (by simp [h4]), (B_ (s := s) (m := m) (n := v)).2 ⟨by omega, by omega, h4⟩]
    ·rw [if_pos h4, noN]; intro n h0 hn e; rw [hat n hn e] at hv; simp only at hv; exact h4 (by rw [show v = n by omega]; exact e)
theorem Hq (st : Bv) (hs : st.Ax.fs.length < 4294967281) : ∃ x st', W5 st = some (x, st') ∧ st'.Ax.fs.length ≤ st.Ax.fs.length ∧ (st.Bh = true → st'.Bh = true) ∧
    (st.Bh = false → match Hl 200 st.Ax.fs with | some p => x = p.1 ∧ st' = ⟨⟨p.2⟩, false⟩ | none => st'.Bh = true) := by
 unfold W5 Hl; have e := Q7 st 32 hs; rw [show (((32 : UInt8).toNat : Nat) : Int) = 32 from rfl] at e; rw [e]; simp only [Option.bind_some]; cases hc : AP st.Ax.fs 32 with
 | none =>
  simp only [Option.bind_none]; rw [show (200 : Int) = ((200 : Nat) : Int) from rfl, MM _ _ 200 (by omega) (by omega)]; simp only [Option.bind_some]; cases Dg st.Ax.fs 200 with
  | none =>
   simp only; rw [if_pos (by simp)]; exact ⟨_, _, rfl, by simp, fun _ => rfl, fun _ => rfl⟩
  | some n =>
   simp only; rw [if_pos (by simp)]; exact ⟨_, _, rfl, by simp, fun _ => rfl, fun _ => rfl⟩
 | some p =>
  obtain ⟨a, b⟩ := p; have hl := Cl hc; simp only [Option.bind_some]; rw [show (200 : Int) = ((200 : Nat) : Int) from rfl, MM _ _ 200 (by omega) (by omega)]; simp only [Option.bind_some]; cases hn : Dg a 200 with
  | none =>
   simp only [Option.bind_none]; exact ⟨[], ⟨⟨b⟩, true⟩, by simp, by simp only; omega, fun _ => rfl, fun _ => rfl⟩
  | some n =>
   have hn2 := (B_.1 hn).2.1; simp only [Option.bind_some]; cases hbad : st.Bh with
   | true =>
    rw [if_pos (by rfl)]; exact ⟨_, _, rfl, by simp only; omega, fun _ => rfl, fun e => by cases e⟩
   | false =>
    rw [if_neg (by simp)]; by_cases hb : (b.length : Int) ≤ n
    ·rw [if_pos hb, if_neg (by omega)]; exact ⟨_, _, rfl, by simp only; omega, fun _ => rfl, fun _ => rfl⟩
    ·rw [if_neg hb, Ab (by omega), Int.toNat_natCast]; by_cases h10 : b.getD n 0 = 10
     ·rw [if_neg (by rw [h10]; simp), Ab (by omega), Ab (by omega), AK (by omega), Ab (by omega), Ab (by omega), Int.toNat_natCast, if_pos ⟨by omega, h10⟩]; exact ⟨_, _, rfl, by simp; omega, fun e => (by cases e), fun _ => ⟨rfl, rfl⟩⟩
     ·rw [if_pos (fun e => h10 (Il.1 e)), if_neg (fun e => h10 e.2)]; exact ⟨_, _, rfl, by simp only; omega, fun _ => rfl, fun _ => rfl⟩
theorem Rr : ∀ (n : Nat) (acc : Str), acc.length + n ≤ 1000000000000000000 → AD (fun v : Int × (List UInt8) => Fy v.1 v.2) ((n : Int), acc) = some (Lib.decDigits n ++ acc) := by
 intro n
 induction n using Nat.strongRecOn with
 | _ n ih =>
  intro acc h; have hm : ((n : Int)).tmod 10 = ((n % 10 : Nat) : Int) := by rw [Int.tmod_eq_emod_of_nonneg (by omega)]; omega
  have hd : ((n : Int)).tdiv 10 = ((n / 10 : Nat) : Int) := by rw [Int.tdiv_eq_ediv_of_nonneg (by omega)]; omega
  have hw : IntKind.i64.wrap (48 + ((n % 10 : Nat) : Int)) = ((48 + n % 10 : Nat) : Int) := by rw [wrap_i64 (by omega) (by omega)]; omega
  have hw8 : IntKind.u8.wrap ((48 + n % 10 : Nat) : Int) = ((48 + n % 10 : Nat) : Int) := wrap_u8 (by omega) (by omega); have hwd : IntKind.i64.wrap ((n / 10 : Nat) : Int) = ((n / 10 : Nat) : Int) := wrap_i64 (by omega) (by omega); have hs : Fy (n : Int) acc = some (if n < 10 then .inr ([UInt8.ofNat (48 + n % 10)] ++ acc) else .inl (((n / 10 : Nat) : Int), [UInt8.ofNat (48 + n % 10)] ++ acc)) := by
   unfold Fy; rw [hm, hd, hw, hw8, hwd, Int.toNat_natCast, Ab (by omega), Ab (by simp only [List.length_cons, List.length_nil]; omega)]; by_cases hn : n < 10
   ·rw [if_pos hn, if_pos (by omega)]
   ·rw [if_neg hn, if_neg (by omega)]
  rw [Lib.decDigits]; by_cases hn : n < 10
  ·rw [if_pos hn] at hs; rw [dif_pos hn, show n % 10 = n by omega] at *; exact Av hs
  ·rw [if_neg hn] at hs; rw [dif_neg hn, AR (s := ((n : Int), acc)) hs, ih (n / 10) (by omega) _ (by simp; omega)]; simp
theorem Q8 (n : Nat) (h : n ≤ 1000000000) : TN (n : Int) = some (Lib.decDigits n) := by
 unfold TN; rw [Rr n [] (by simp; omega)]; simp
theorem LF (s : Str) (m : Nat) (hm : m ≤ 100000) : ∀ (k i : Nat), i + k = m + 1 → 1 ≤ i → (∀ n, 1 ≤ n → n < i → Lib.decDigits n ≠ s) → AD (fun v => Ep s (m : Int) v) (i : Int) = some (match Dg s m with | some n => .inr (n : Int) | none => .inl ())
  | 0, i, h, h1, hn => by
    rw [Lv fun n q1 q2 => hn n q1 (by omega)]
    refine Av ?_
    simp only [Ep]
    rw [if_neg (by omega)]
  | k + 1, i, h, h1, hn => by
    by_cases e : Lib.decDigits i = s
    · rw [B_.2 ⟨h1, (by omega : i ≤ m), e⟩]
      refine Av ?_
      simp only [Ep]
      rw [if_pos (by omega), Q8 i (by omega)]
      simp only [Option.bind_some]
      rw [if_pos e]
    · rw [AR (s' := ((i + 1 : Nat) : Int)), LF s m hm k (i + 1) (by omega) (by omega) fun n q1 q2 => ?_]
      · rcases Nat.lt_or_ge n i with q | q
        · exact hn n q1 q
        · rw [show n = i by omega]; exact e
      · simp only [Ep]
        rw [if_pos (by omega), Q8 i (by omega)]
        simp only [Option.bind_some]
        rw [if_neg e, AK (by omega)]
theorem Q9 (s : Str) (m : Nat) (hm : m ≤ 100000) : W7 s (m : Int) = some (((Dg s m).getD 0 : Nat) : Int) := by
 unfold W7; have := LF s m hm m 1 (by omega) (by omega) (fun n q1 q2 => by omega); rw [show ((1 : Nat) : Int) = 1 from rfl] at this; rw [this]; cases Dg s m with
 | none => rfl
 | some n => rfl
theorem Kw (nm : Str) : ∀ (l : List Str) (i : Nat), Cq (fun (k : Nat) (x : Str) => if nm = x then some (Sum.inr (k : Int) : Unit ⊕ Int) else none) (.inl ()) i l = match l.findIdx? (fun x => decide (x = nm)) with | some j => .inr ((i + j : Nat) : Int) | none => .inl ()
  | [], i => rfl
  | x :: l, i => by
    rw [C9, List.findIdx?_cons]
    by_cases e : nm = x
    · simp [e]
    · have e' : ¬ x = nm := fun h => e h.symm
      rw [if_neg e, Kw nm l (i + 1)]
      simp only [e', decide_false, Bool.false_eq_true, if_false]
      cases l.findIdx? (fun x => decide (x = nm)) with
      | none => rfl
      | some j => simp; omega
theorem Wi (nm : Str) : W8 Bt nm = some (match CU nm with | some i => (i : Int) | none => -1) := by
 unfold W8
 have h := CA (step := fun v => FA Bt nm v) Bt (fun i x => if nm = x then some (.inr (i : Int)) else none) (.inl ()) (by simp [Bt]) (fun i hi => by
   simp only [FA]
   rw [if_pos (by omega), Ab (by omega), Int.toNat_natCast, Gu hi]
   by_cases e : nm = Bt[i]
   · rw [if_pos e, if_pos e]
   · rw [if_neg e, if_neg e]) (by simp only [FA]; rw [if_neg (by omega)])
 rw [h, Kw]; unfold CU; cases Bt.findIdx? (fun x => decide (x = nm)) with
 | none => rfl
 | some j => simp
end Go.Idl
namespace Go.Idl
open Go Go.RowKit Go.Lib
variable {P : Program} {N : Nat} {tm : Tm} {H : A2}
theorem Kx {o : Oper} {K : IV → A2 → Prop} {Qp : List PanicEntry → A2 → Prop} {ts : Array TypeId} {x y : Operand} {k : IntKind} {a b : Int} (ho : o.op = .call { callee := .builtin .max, args := #[x, y], argTypes := ts }) (hok : okO N o = true)
    (hx : ev tm x = .v (.int k a)) (hy : ev tm y = .v (.int k b)) (hK : K (.v (.int k (max a b))) H) : AE P N o tm H K Qp := by
 obtain ⟨dst, op, type, pos, after, guard⟩ := o; simp only at ho; subst ho; refine AY (by simp) fun w g ac sm r hN => ?_; subst hN; have rx := r.ev (x := x) (by simp [okO, Op.operands] at hok; simpa [Call.operands] using hok.1 0 (by simp [Call.operands])); have ry := r.ev (x := y) (by simp [okO, Op.operands] at hok; simpa [Call.operands] using hok.1 1 (by simp [Call.operands])); rw [hx] at rx; rw [hy] at ry; have ex := rx.v_eq; have ey := ry.v_eq; refine ⟨.int k (max a b), w, g, H, _, .inl ?_, .refl _ _, sm, .v _, hK⟩; have em := run_max_ints (P := P) w ts type k k a b; rw [← ex, ← ey] at em; simp [execOp, resolve, invoke, BigFrame.builtin_max, em]
end Go.Idl
namespace Go.Idl
open Go Go.Proofs.Tryz Go.RowKit
variable {H : A2} {K : Au → A2 → Prop}
set_option pp.deepTerms false in
set_option maxRecDepth 8000 in
theorem U2 (nm : List UInt8) (hK : K (.ret (.tu [.v (.int .i64 (match CU nm with | some i => (i : Int) | none => 0)), .v (.bool (CU nm).isSome)])) H) : Aa prog 102 [.v (str nm)] H K := by
 refine AM (N := 14) func102 (by kernel_rfl) rfl (by kernel_rfl) (by kernel_rfl) fun hw hbd hnb => ?_; simp (maxSteps := 1000000) (disch := omega) [go_sem]; refine PR ?_; have hn8 : CS.length = 8 := rfl; have hdr : ∀ l : List IV, l.length = 8 → List.drop 8 l = [] := fun l h => List.drop_of_length_le (by omega); simp (maxSteps := 1000000) (disch := omega) [go_sem, hn8, hdr]; have e : (.sl 1 (Bt.map fun x => [.v (str x)]) : IV) = .sl 1 (chunks 1 8 ((Bt.map fun x => IV.v (str x)).drop 0)) := by
  rw [List.drop_zero, Dt (by simp [Bt])]; simp
 refine Ej (args' := [.sl 1 (Bt.map fun x => [.v (str x)]), .v (str nm)]) (.cons ?_ (.cons (.same (.v _)) .nil)) (fun H K hK => W9 Bt nm (Wi nm) hK) ?_
 ·rw [e]; exact Fz.bs _ 0 8 1 (Bt.map fun x => IV.v (str x)) (Bt.map fun x => IV.v (str x)) rfl (by simp [go_sem]; rfl) rfl (by simp [Bt]) (by simp [Cf]) (fzs (by simp [QW]))
 have hj : ∀ i, CU nm = some i → i < 8 := fun i h => Ho h; cases hf : CU nm with
 | none =>
  rw [hf] at hK; simp (maxSteps := 1000000) (disch := omega) [go_sem]; refine Kx (k := .i64) (a := 0) (b := -1) rfl (by kernel_rfl) (by simp [go_sem]) (by simp [go_sem]) ?_; simp (maxSteps := 1000000) (disch := omega) [go_sem]; exact AL (((Ext.refl hw).new _).set (Nat.le_refl _) _) (EZ (NBL.cons (.v _) (NBL.cons (.v _) NBL.nil))) hK
 | some i =>
  rw [hf] at hK; have := hj i hf; simp (maxSteps := 1000000) (disch := omega) [go_sem]; refine Kx (k := .i64) (a := 0) (b := i) rfl (by kernel_rfl) (by simp [go_sem]) (by simp [go_sem]) ?_; rw [show max (0 : Int) (i : Int) = i by omega]; simp (maxSteps := 1000000) (disch := omega) [go_sem]; exact AL (((Ext.refl hw).new _).set (Nat.le_refl _) _) (EZ (NBL.cons (.v _) (NBL.cons (.v _) NBL.nil))) hK
end Go.Idl
namespace Go.Idl
open Go Go.Proofs.Tryz Go.RowKit
variable {H : A2} {K : Au → A2 → Prop}
noncomputable def Er (s : Str) : Option (List (List Str)) := E0 s.length 0 s B3
noncomputable def Gv (s : Str) : List (List Str) × Int := match Er s with | some c => if AS c = true then (c, 0) else (B3, 260) | none => (B3, 260)
theorem U3 (st : Bv) (c : UInt8) (hs : st.Ax.fs.length ≤ 4000000000) : ∃ x st', Re st (c.toNat : Int) = some (x, st') ∧ st'.Ax.fs.length ≤ st.Ax.fs.length ∧ x.length ≤ st.Ax.fs.length ∧ (st.Bh = true → st'.Bh = true) ∧ (st.Bh = false → match AP st.Ax.fs c with | some p => x = p.1 ∧ st' = ⟨⟨p.2⟩, false⟩ | none => st'.Bh = true) := by
 rw [Q7 st c (by omega)]; cases hc : AP st.Ax.fs c with
 | none => exact ⟨_, _, rfl, by simp, by simp, fun _ => rfl, fun _ => rfl⟩
 | some p =>
  have := Cl (a := p.1) (b := p.2) hc; exact ⟨_, _, rfl, by simp only; omega, by omega, fun h => h, fun h => ⟨rfl, by rw [h]⟩⟩
theorem Wj (st : Bv) (s : Str) (hs : s.length ≤ 4000000000) : ∃ (n : Nat) (st' : Bv), Rf st s 8 = some ((n : Int), st') ∧ n ≤ 8 ∧ st'.Ax.fs.length ≤ st.Ax.fs.length ∧ (st.Bh = true → st'.Bh = true) ∧ (st.Bh = false → match Dg s 8 with | some m => n = m ∧ st' = st | none => st'.Bh = true) := by
 have e := MM st s 8 (by omega) (by omega); rw [show ((8 : Nat) : Int) = 8 from rfl] at e; rw [e]; cases hc : Dg s 8 with
 | none => exact ⟨0, _, rfl, by omega, Nat.le_refl _, fun _ => rfl, fun _ => rfl⟩
 | some m => exact ⟨m, _, rfl, (B_.1 hc).2.1, Nat.le_refl _, fun h => h, fun _ => ⟨rfl, rfl⟩⟩
def rdM : Option HO → Nat
  | some (.cells [.v (.string b), .v (.bool bad)]) => b.size + (if bad = true then 0 else 1)
  | _ => 0
theorem CV (s : Str) (b : Bool) : rdM (some (.cells [.v (str s), .v (.bool b)])) = s.length + (if b = true then 0 else 1) := by
 have : (⟨s.toArray⟩ : ByteArray).size = s.length := by show s.toArray.size = _; simp
 simp [rdM, str, this]
abbrev CW : List IV := List.replicate 8 (.v (.slice none 0 0))
structure fD (s : Str) (H H' : A2) (st : Bv) (C : List IV) (c : List (List Str)) (k f : Nat) : Prop where
  o0 : H'.obj H.next = some (.cells CW)
  o1 : H'.obj (H.next + 1) = some (.cells [.v (str st.Ax.fs), .v (.bool st.Bh)])
  o2 : H'.obj (H.next + 2) = some (.cells C)
  ext : Ext H H'
  nx : H.next + 3 ≤ H'.next
  rows : C4 H' (H.next + 3) C c
  c8 : c.length = 8
  len : st.Ax.fs.length ≤ s.length
  k8 : k ≤ 8
  good : st.Bh = false → st.Ax.fs.length ≤ f ∧ DK c ∧ (∀ j, k ≤ j → c.getD j [] = []) ∧ E0 f k st.Ax.fs c = Er s
  bad : st.Bh = true → Er s = none
theorem U4 {m : Nat} {s : Str} {p : Str × Str} (h : Hl m s = some p) : p.1.length ≤ m := by
 obtain ⟨⟨a, b⟩, h1, h⟩ := Option.bind_eq_some_iff.1 h; obtain ⟨n, h2, h⟩ := Option.bind_eq_some_iff.1 h; have := (B_.1 h2).2.1; split at h
 ·cases h; simp; omega
 ·cases h
structure Es (H H2 : A2) (b : Bool) (st3 : Bv) (c : List (List Str)) (fi n i : Nat) (st' : Bv) (C' : List IV) (c' : List (List Str)) : Prop where
  o0 : H2.obj H.next = some (.cells CW)
  o1 : H2.obj (H.next + 1) = some (.cells [.v (str st'.Ax.fs), .v (.bool st'.Bh)])
  o2 : H2.obj (H.next + 2) = some (.cells C')
  ext : Ext H H2
  nx : H.next + 3 ≤ H2.next
  rows : C4 H2 (H.next + 3) C' c'
  c8 : c'.length = 8
  len : st'.Ax.fs.length ≤ st3.Ax.fs.length
  fl : ∀ l, c'[fi]? = some l → l.length ≤ 1000000 + i
  dead : b = true → st'.Bh = true
  good : b = false → (st'.Bh = true ∧ Cr 200 n st3.Ax.fs = none) ∨ (st'.Bh = false ∧ ∃ acc, c' = c.set fi acc ∧ acc.length = i ∧ (∀ v, v ∈ acc → v.length ≤ 200) ∧ Cr 200 n st3.Ax.fs = (Cr 200 (n - i) st'.Ax.fs).map fun q => (acc ++ q.1, q.2))
theorem Es.next {H H2 J : A2} {b : Bool} {st3 : Bv} {c : List (List Str)} {fi n i : Nat} {st' st'' : Bv} {C' C'' : List IV} {c' : List (List Str)} (hJ : Es H H2 b st3 c fi n i st' C' c') (hin : i < n) (hfi : fi < c'.length) {x : Str}
    (l4 : st''.Ax.fs.length ≤ st'.Ax.fs.length) (b4 : st'.Bh = true → st''.Bh = true) (c4 : st'.Bh = false → match Hl 200 st'.Ax.fs with | some p => x = p.1 ∧ st'' = ⟨⟨p.2⟩, false⟩ | none => st''.Bh = true)
    (o0 : J.obj H.next = some (.cells CW)) (o1 : J.obj (H.next + 1) = some (.cells [.v (str st''.Ax.fs), .v (.bool st''.Bh)])) (o2 : J.obj (H.next + 2) = some (.cells C'')) (ext : Ext H J) (nx : H.next + 3 ≤ J.next) (rows : C4 J (H.next + 3) C'' (c'.set fi (c'[fi] ++ [x]))) :
    Es H J b st3 c fi n (i + 1) st'' C'' (c'.set fi (c'[fi] ++ [x])) := by
 refine ⟨o0, o1, o2, ext, nx, rows, by simp [hJ.c8], Nat.le_trans l4 hJ.len, fun l hl => ?_, fun h => b4 (hJ.dead h), fun h => ?_⟩
 ·rw [List.getElem?_set_self hfi] at hl; cases hl; have := hJ.fl _ (List.getElem?_eq_getElem hfi); simp; omega
 ·rcases hJ.good h with ⟨hd, hT⟩ | ⟨hd, acc, rfl, ha, hav, hT⟩
  ·exact .inl ⟨b4 hd, hT⟩
  ·have c4 := c4 hd; have e1 : n - i = (n - (i + 1)) + 1 := by omega
   rw [e1, Cr] at hT; cases hv : Hl 200 st'.Ax.fs with
   | none =>
    rw [hv] at c4 hT; exact .inl ⟨c4, by rw [hT]; rfl⟩
   | some p =>
    rw [hv] at c4 hT; obtain ⟨rfl, rfl⟩ := c4; refine .inr ⟨rfl, acc ++ [p.1], ?_, by simp [ha], fun v hv' => ?_, ?_⟩
    ·rw [List.set_set]; simp
    ·rcases List.mem_append.1 hv' with hv' | hv'
     ·exact hav v hv'
     ·rw [List.mem_singleton.1 hv']; exact U4 hv
    ·rw [hT]; simp only [Option.bind_some]; cases Cr 200 (n - (i + 1)) p.2 with
     | none => rfl
     | some q => simp
theorem Zx {st st1 st2 st3 : Bv} {nm mt : Str} {n : Nat} (hb : st.Bh = false) (b2 : st1.Bh = true → st2.Bh = true) (b3 : st2.Bh = true → st3.Bh = true)
    (c1 : st.Bh = false → match AP st.Ax.fs 32 with | some p => nm = p.1 ∧ st1 = ⟨⟨p.2⟩, false⟩ | none => st1.Bh = true)
    (c2 : st1.Bh = false → match AP st1.Ax.fs 10 with | some p => mt = p.1 ∧ st2 = ⟨⟨p.2⟩, false⟩ | none => st2.Bh = true)
    (c3 : st2.Bh = false → match Dg mt 8 with | some m => n = m ∧ st3 = st2 | none => st3.Bh = true) :
    (st3.Bh = true ∧ Hp st.Ax.fs = none) ∨ (st3.Bh = false ∧ st3.Ax.fs.length < st.Ax.fs.length ∧ Hp st.Ax.fs = (CU nm).bind fun i => (Cr 200 n st3.Ax.fs).map fun r => (i, r.1, r.2)) := by
 have c1 := c1 hb; unfold Hp; cases h1 : AP st.Ax.fs 32 with
 | none => rw [h1] at c1; exact .inl ⟨b3 (b2 c1), rfl⟩
 | some p =>
  rw [h1] at c1; obtain ⟨rfl, rfl⟩ := c1; have hl := Cl (a := p.1) (b := p.2) h1; have c2 := c2 rfl; simp only at c2; simp only [Option.bind_some]; cases h2 : AP p.2 10 with
  | none => rw [h2] at c2; exact .inl ⟨b3 c2, rfl⟩
  | some q =>
   rw [h2] at c2; obtain ⟨rfl, rfl⟩ := c2; have hl2 := Cl (a := q.1) (b := q.2) h2; have c3 := c3 rfl; simp only [Option.bind_some]; cases h3 : Dg q.1 8 with
   | none =>
    rw [h3] at c3; refine .inl ⟨c3, ?_⟩; cases CU p.1 <;> rfl
   | some m =>
    rw [h3] at c3; obtain ⟨rfl, rfl⟩ := c3; exact .inr ⟨rfl, by simp only; omega, rfl⟩
theorem E1 (f k : Nat) (s : Str) (c : List (List Str)) (h : s ≠ []) (hf : Hp s = none) : E0 f k s c = none := by
 cases f with
 | zero => unfold E0; rw [if_neg h]
 | succ f => unfold E0; rw [if_neg h, hf]; rfl
theorem N_ (f k : Nat) (s : Str) (c : List (List Str)) (h : s ≠ []) {i : Nat} {o : Option (List Str × Str)} (hf : Hp s = o.map fun r => (i, r.1, r.2)) (hi : i < k) : E0 f k s c = none := by
 cases f with
 | zero => unfold E0; rw [if_neg h]
 | succ f =>
  unfold E0; rw [if_neg h, hf]; cases o with
  | none => rfl
  | some r => simp [hi]
theorem LG (f k : Nat) (s : Str) (c : List (List Str)) (h : s ≠ []) {i : Nat} {l : List Str} {r : Str} (hf : Hp s = some (i, l, r)) (hi : k ≤ i) : E0 (f + 1) k s c = E0 f (i + 1) r (c.set i l) := by
 rw [E0, if_neg h, hf]; simp only [Option.bind_some]; rw [if_neg (by omega)]
set_option pp.deepTerms false in
set_option maxRecDepth 8000 in
set_option maxHeartbeats 4000000 in
theorem Zy (s : Str) (hs : s.length ≤ 1000000000) (hV : VOK prog H) (hK : K (.ret (.tu [cS (Gv s).1, .v (.int .i64 (Gv s).2)])) H) : Aa prog 66 [.v (str s)] H K := by
 refine AM (N := 78) func66 (by kernel_rfl) rfl (by kernel_rfl) (by kernel_rfl) fun hw hbd hnb => ?_; simp (maxSteps := 1000000) (disch := omega) [go_sem, bdP]; refine B5 (fun tm' H' => ∃ (st : Bv) (C : List IV) (c : List (List Str)) (k f : Nat), tm' 2 = .p H.next 0 ∧ tm' 4 = .p (H.next + 1) 0 ∧ tm' 5 = .p (H.next + 2) 0 ∧ tm' 6 = .v (.int .i64 ((k : Int) - 1)) ∧ fD s H H' st C c k f) (fun _ H' => rdM (H'.obj (H.next + 1))) (.same ?_) ?_
 ·refine ⟨⟨⟨s⟩, false⟩, CW, B3, 0, s.length, by simp [go_sem], by simp [go_sem], by simp [go_sem], by simp [go_sem], ?_⟩; refine ⟨by simp [go_sem, CW], by simp [go_sem], by simp [go_sem, CW], (((Ext.refl hw).new _).new _).new _, by simp [go_sem], .Gg 8, by simp [B3], by simp, by omega, fun _ => ⟨Nat.le_refl _, ⟨by simp [B3], by simp [B3]⟩, fun j _ => ?_, rfl⟩, fun h => by cases h⟩; rw [B3, List.getD_eq_getElem?_getD, List.getElem?_replicate]; split <;> rfl
 rintro I' μ' hI hμ tm' H' ⟨st, C, c, k, f, t2, t4, t5, t6, hR⟩
 have o1 := hR.o1; have o2 := hR.o2; have o0 := hR.o0; have badEnd : st.Bh = true → (Gv s) = (B3, 260) := fun h => by unfold Gv; rw [hR.bad h]
 refine AA _ (by kernel_rfl) _ _ _ ?_; simp (maxSteps := 1000000) (disch := omega) [go_sem, t2, t4, t5, t6, o1]; by_cases h0 : st.Ax.fs = []
 ·simp (maxSteps := 1000000) (disch := omega) [go_sem, t2, t4, t5, t6, o1, h0]; cases hb : st.Bh with
  | true =>
   rw [hb] at o1; rw [badEnd hb] at hK; simp (maxSteps := 1000000) (disch := omega) [go_sem, t2, t4, t5, t6, o1, bdP, o0]; exact AX (J := H) (hR.ext.set (Nat.le_refl _) _).Bp (.tu2 (by rw [BG]; exact Fz.Gg 8) (.same (.v _))) hK
  | false =>
   rw [hb] at o1; obtain ⟨g1, g2, g3, g4⟩ := hR.good hb; have hcT : Er s = some c := by rw [← g4, h0]; cases f <;> simp [E0]
   have hC8 : C.length = 8 := by rw [hR.rows.len, hR.c8]
   have htk : List.take 8 C = C := List.take_of_length_le (by omega); simp (maxSteps := 1000000) (disch := omega) [go_sem, t2, t4, t5, t6, o1, o2, hC8, htk]; refine Ej (H := H') (args' := [cS c]) (.cons (hR.rows.fz fun _ _ => rfl) .nil) (fun H K hK => K7 c (Ab g2) hK) ?_; by_cases hk : AS c = true
   ·have e : Gv s = (c, 0) := by unfold Gv; rw [hcT]; simp [hk]
    rw [e] at hK; rw [if_pos hk]; simp (maxSteps := 1000000) (disch := omega) [go_sem, t2, t4, t5, t6, o1, o2, hC8, htk, o0]; exact AX (J := H) (hR.ext.set (Nat.le_refl _) _).Bp (.tu2 ((hR.rows.mono (J' := H'.set H.next (.cells C)) (Nat.le_refl _) fun q o hq _ e => by simp only [go_sem, if_neg (show ¬ q = H.next by omega)]; exact e).fz fun q hq => hw q (by omega)) (.same (.v _))) hK
   ·have e : Gv s = (B3, 260) := by unfold Gv; rw [hcT]; simp [hk]
    rw [e] at hK; rw [if_neg hk]; simp (maxSteps := 1000000) (disch := omega) [go_sem, t2, t4, t5, t6, o1, bdP, o0, o2, hC8, htk]; exact AX (J := H) (hR.ext.set (Nat.le_refl _) _).Bp (.tu2 (by rw [BG]; exact Fz.Gg 8) (.same (.v _))) hK
 ·simp (maxSteps := 1000000) (disch := omega) [go_sem, t2, t4, t5, t6, o1, h0]; cases hb : st.Bh with
  | true =>
   rw [hb] at o1; rw [badEnd hb] at hK; simp (maxSteps := 1000000) (disch := omega) [go_sem, t2, t4, t5, t6, o1, bdP, o0]; exact AX (J := H) (hR.ext.set (Nat.le_refl _) _).Bp (.tu2 (by rw [BG]; exact Fz.Gg 8) (.same (.v _))) hK
  | false =>
   obtain ⟨g1, g2, g3, g4⟩ := hR.good hb; obtain ⟨nm, st1, e1, l1, m1, b1, c1⟩ := U3 st 32 (by have := hR.len; omega); rw [show (((32 : UInt8).toNat : Nat) : Int) = 32 from rfl] at e1; have o1' := o1; rw [hb] at o1'; simp (maxSteps := 1000000) (disch := omega) [go_sem, t2, t4, t5, t6, o1']; refine ME st 32 _ o1 (hV.of hR.ext.sn) e1 ?_; simp (maxSteps := 1000000) (disch := omega) [go_sem, t2, t4, t5, t6, BE]; refine U2 nm ?_; simp (maxSteps := 1000000) (disch := omega) [go_sem, t2, t4, t5, t6]; obtain ⟨mt, st2, e2, l2, m2, b2, c2⟩ := U3 st1 10 (by have := hR.len; omega); rw [show (((10 : UInt8).toNat : Nat) : Int) = 10 from rfl] at e2; refine ME st1 10 _ (by simp [go_sem, BE]) (hV.of hR.ext.sn) e2 ?_; simp (maxSteps := 1000000) (disch := omega) [go_sem, t2, t4, t5, t6, BE]; obtain ⟨n, st3, e3, hn, l3, b3, c3⟩ := Wj st2 mt (by have := hR.len; omega); refine Q1 st2 mt 8 _ (by simp [go_sem, BE]) (hV.of hR.ext.sn) e3 ?_; simp (maxSteps := 1000000) (disch := omega) [go_sem, t2, t4, t5, t6, BE]; have hF := Zx hb b2 b3 c1 c2 c3; have l30 : st3.Ax.fs.length ≤ st.Ax.fs.length := by omega
   have mk0 : ∀ (b : Bool) (fi : Nat), fi < 8 → (b = false → k ≤ fi) → Es H (H'.set (H.next + 1) (.cells [.v (str st3.Ax.fs), .v (.bool b)])) b st3 c fi n 0 ⟨st3.Ax, b⟩ C c := fun b fi hfi h => by
    have hlt : fi < c.length := by rw [hR.c8]; exact hfi
    refine ⟨by simp [go_sem, o0, CW], by simp [go_sem], by simp [go_sem, o2], hR.ext.set (by omega) _, by simpa [go_sem] using hR.nx, hR.rows.mono (Nat.le_refl _) fun q o hq _ e => ?_, hR.c8, Nat.le_refl _, fun l hl => ?_, fun h => h, fun hb' => .inr ⟨hb', [], ?_, rfl, fun v hv => by simp at hv, ?_⟩⟩
    ·simp only [go_sem, if_neg (show ¬ q = H.next + 1 by omega)]; exact e
    ·have := (g2.2 l (List.mem_of_getElem? hl)).1; omega
    ·have h3 := g3 fi (h hb'); rw [List.getD_eq_getElem?_getD, List.getElem?_eq_getElem hlt] at h3; have h3 : c[fi] = [] := h3; rw [← h3, List.set_getElem_self]
    ·simp
   cases hb3 : st3.Bh with
   | true =>
    cases hfx : CU nm with
    | none =>
     simp (maxSteps := 1000000) (disch := omega) [go_sem, t2, t4, t5, t6, hb3, hfx]; refine B5 (fun tm2 H2 => ∃ (i : Nat) (st' : Bv) (C' : List IV) (c' : List (List Str)), tm2 2 = .p H.next 0 ∧ tm2 4 = .p (H.next + 1) 0 ∧ tm2 5 = .p (H.next + 2) 0 ∧ tm2 7 = .v (.int .i64 (0 : Nat)) ∧ tm2 53 = .v (.int .i64 n) ∧ tm2 54 = .v (.int .i64 i) ∧ i ≤ n ∧ Es H H2 true st3 c 0 n i st' C' c') (fun tm2 _ => n - (intOf (tm2 54)).toNat) (.same ?_) ?_
     ·exact ⟨0, ⟨st3.Ax, true⟩, C, c, by simp [go_sem, t2], by simp [go_sem, t4], by simp [go_sem, t5], by simp [go_sem], by simp [go_sem], by simp [go_sem], by omega, mk0 true (0) (by omega) (fun h => (by cases h))⟩
     rintro I2 μ2 hI2 hμ2 tm2 H2 ⟨i, st', C', c', u2, u4, u5, u7, u53, u54, hi, hJ⟩
     have p1 := hJ.o1; have p2 := hJ.o2; have p0 := hJ.o0; refine AA _ (by kernel_rfl) _ _ _ ?_; simp (maxSteps := 1000000) (disch := omega) [go_sem, u2, u4, u5, u7, u53, u54]; refine Bw ?_ ?_ <;> intro hc2 <;> (try simp at hc2)
     ·obtain ⟨x, st'', e4, l4, b4, c4⟩ := Hq st' (by have := hJ.len; have := hR.len; omega); have hCl : C'.length = 8 := by rw [hJ.rows.len, hJ.c8]
      have hfi : (0) < c'.length := by rw [hJ.c8]; omega
      have hfC : (0) < C'.length := by omega
      rcases hJ.rows.at hfi with ⟨hC, hc0⟩ | ⟨nr, q1, q2, hC, q4⟩
      ·have hCe : C'[0]'hfC = .v (.slice none 0 0) := by rw [List.getElem?_eq_getElem hfC] at hC; exact Option.some.inj hC
       simp (maxSteps := 1000000) (disch := omega) [go_sem, u2, u4, u5, u7, u53, u54, p2, hCl]; refine Bn [0, 1, 2, 3, 4, 5, 6, 7, 8, 9] (by kernel_rfl) (by kernel_rfl) (fun _ _ _ _ h => h) ?_; simp (maxSteps := 1000000) (disch := omega) [go_sem, u2, u4, u5, u7, u53, u54, p2, hCl, hCe]; refine CF st' _ p1 (hV.of hJ.ext.sn) e4 ?_; have nx2 := hJ.nx; have n0 : ¬ H.next = H2.next := by omega
       have n1 : ¬ H.next + 1 = H2.next := by omega
       have n2 : ¬ H.next + 2 = H2.next := by omega
       simp (maxSteps := 1000000) (disch := omega) [go_sem, u2, u4, u5, u7, u53, u54, p2, hCl, hCe, BE, n0, n1, n2]; have n3 : ¬ H2.next = H.next + 2 := by omega
       have n4 : ¬ H2.next = H.next + 1 := by omega
       have ex : c'.set (0) (c'[0] ++ [x]) = c'.set (0) [x] := by rw [hc0]; rfl
       have eC : ∀ y : IV, List.take (0) C' ++ y :: List.drop (0 + 1) C' = C'.set (0) y := fun y => by rw [List.set_eq_take_append_cons_drop, if_pos hfC]
       have eT : ∀ y : IV, y :: C'.tail = C'.set 0 y := fun y => by cases C' with | nil => simp at hCl | cons a b => rfl
       refine .of hI2 hμ2 ⟨i + 1, st'', C'.set (0) (.os H2.next 1), c'.set (0) (c'[0] ++ [x]), by simp [go_sem, u2], by simp [go_sem, u4], by simp [go_sem, u5], by simp [go_sem, u7], by simp [go_sem, u53], by simp [go_sem], by omega, ?_⟩ (by simp [go_sem, u54]; omega); refine hJ.next hc2 hfi l4 b4 c4 (by simp [go_sem, p0, n0, CW]) (by simp [go_sem, n1]) (by first | (simp [go_sem, eC]; done) | (simp [go_sem, eT]; done)) (((hJ.ext.set (by omega) _).new _).set (by omega) _) (by simp [go_sem]; omega) ?_; rw [ex]; refine hJ.rows.Ih hfi hc0 (by omega) (Nat.le_refl _) (by simp [go_sem]) (by simp [go_sem]) (fun q o hq hq' e => ?_) (by simp [go_sem, n3, n4]); have m1 : ¬ q = H.next + 2 := by omega
       have m2 : ¬ q = H.next + 1 := by omega
       have m3 : ¬ q = H2.next := by omega
       simp [go_sem, m1, m2, m3, e]
      ·have hCe : C'[0]'hfC = .os nr c'[0].length := by rw [List.getElem?_eq_getElem hfC] at hC; exact Option.some.inj hC
       have hfl := hJ.fl _ (List.getElem?_eq_getElem hfi); simp (maxSteps := 1000000) (disch := omega) [go_sem, u2, u4, u5, u7, u53, u54, p2, hCl]; refine Bn [0, 1, 2, 3, 4, 5, 6, 7, 8, 9] (by kernel_rfl) (by kernel_rfl) (fun _ _ _ _ h => h) ?_; simp (maxSteps := 1000000) (disch := omega) [go_sem, u2, u4, u5, u7, u53, u54, p2, hCl, hCe]; refine CF st' _ p1 (hV.of hJ.ext.sn) e4 ?_; have n0 : ¬ H.next = nr := by omega
       have n1 : ¬ H.next + 1 = nr := by omega
       have n2 : ¬ H.next + 2 = nr := by omega
       have n3 : ¬ nr = H.next + 1 := by omega
       have n4 : ¬ nr = H.next + 2 := by omega
       simp (maxSteps := 1000000) (disch := omega) [go_sem, u2, u4, u5, u7, u53, u54, p2, hCl, hCe, BE, q4, n0, n1, n2, n3, n4]; have eC : ∀ y : IV, List.take (0) C' ++ y :: List.drop (0 + 1) C' = C'.set (0) y := fun y => by rw [List.set_eq_take_append_cons_drop, if_pos hfC]
       have eT : ∀ y : IV, y :: C'.tail = C'.set 0 y := fun y => by cases C' with | nil => simp at hCl | cons a b => rfl
       have el : (c'[0] ++ [x]).length = c'[0].length + 1 := by simp
       refine .of hI2 hμ2 ⟨i + 1, st'', C'.set (0) (.os nr (c'[0].length + 1)), c'.set (0) (c'[0] ++ [x]), by simp [go_sem, u2], by simp [go_sem, u4], by simp [go_sem, u5], by simp [go_sem, u7], by simp [go_sem, u53], by simp [go_sem], by omega, ?_⟩ (by simp [go_sem, u54]; omega); have nx2 := hJ.nx; refine hJ.next hc2 hfi l4 b4 c4 (by simp [go_sem, p0, n0, CW]) (by simp [go_sem, n1]) (by first | (simp [go_sem, eC]; done) | (simp [go_sem, eT]; done)) (((hJ.ext.set (by omega) _).set (by omega) _).set (by omega) _) (by simp [go_sem]; omega) ?_; rw [← el]; refine hJ.rows.Ii hfi hC (by simp [go_sem]) (fun q o hq hq' hne e => ?_) (by simp [go_sem, n3, n4]); have m1 : ¬ q = H.next + 2 := by omega
       have m2 : ¬ q = H.next + 1 := by omega
       simp [go_sem, m1, m2, hne, e]
     ·simp (maxSteps := 1000000) (disch := omega) [go_sem, u2, u4, u5, u7, u53, u54]; have hd := hJ.dead rfl; have hT : Er s = none := by
       rcases hF with ⟨_, hF⟩ | ⟨h, _⟩
       ·rw [← g4]; exact E1 f k _ c h0 hF
       ·rw [hb3] at h; cases h
      refine .of hI hμ ⟨st', C', c', 0 + 1, f, by simp [go_sem, u2], by simp [go_sem, u4], by simp [go_sem, u5], by simp [go_sem, u7], ⟨p0, p1, p2, hJ.ext, hJ.nx, hJ.rows, hJ.c8, by have := hJ.len; have := hR.len; omega, by omega, fun h => (by rw [hd] at h; cases h), fun _ => hT⟩⟩ ?_; rw [p1, CV, CV, hd]; have := hJ.len; simp; omega
    | some fi =>
     have hfi8 := Ho hfx; simp (maxSteps := 1000000) (disch := omega) [go_sem, t2, t4, t5, t6, hb3, hfx]; refine B5 (fun tm2 H2 => ∃ (i : Nat) (st' : Bv) (C' : List IV) (c' : List (List Str)), tm2 2 = .p H.next 0 ∧ tm2 4 = .p (H.next + 1) 0 ∧ tm2 5 = .p (H.next + 2) 0 ∧ tm2 7 = .v (.int .i64 (fi : Nat)) ∧ tm2 53 = .v (.int .i64 n) ∧ tm2 54 = .v (.int .i64 i) ∧ i ≤ n ∧ Es H H2 true st3 c fi n i st' C' c') (fun tm2 _ => n - (intOf (tm2 54)).toNat) (.same ?_) ?_
     ·exact ⟨0, ⟨st3.Ax, true⟩, C, c, by simp [go_sem, t2], by simp [go_sem, t4], by simp [go_sem, t5], by simp [go_sem], by simp [go_sem], by simp [go_sem], by omega, mk0 true (fi) (by omega) (fun h => (by cases h))⟩
     rintro I2 μ2 hI2 hμ2 tm2 H2 ⟨i, st', C', c', u2, u4, u5, u7, u53, u54, hi, hJ⟩
     have p1 := hJ.o1; have p2 := hJ.o2; have p0 := hJ.o0; refine AA _ (by kernel_rfl) _ _ _ ?_; simp (maxSteps := 1000000) (disch := omega) [go_sem, u2, u4, u5, u7, u53, u54]; refine Bw ?_ ?_ <;> intro hc2 <;> (try simp at hc2)
     ·obtain ⟨x, st'', e4, l4, b4, c4⟩ := Hq st' (by have := hJ.len; have := hR.len; omega); have hCl : C'.length = 8 := by rw [hJ.rows.len, hJ.c8]
      have hfi : (fi) < c'.length := by rw [hJ.c8]; omega
      have hfC : (fi) < C'.length := by omega
      rcases hJ.rows.at hfi with ⟨hC, hc0⟩ | ⟨nr, q1, q2, hC, q4⟩
      ·have hCe : C'[fi]'hfC = .v (.slice none 0 0) := by rw [List.getElem?_eq_getElem hfC] at hC; exact Option.some.inj hC
       simp (maxSteps := 1000000) (disch := omega) [go_sem, u2, u4, u5, u7, u53, u54, p2, hCl]; refine Bn [0, 1, 2, 3, 4, 5, 6, 7, 8, 9] (by kernel_rfl) (by kernel_rfl) (fun _ _ _ _ h => h) ?_; simp (maxSteps := 1000000) (disch := omega) [go_sem, u2, u4, u5, u7, u53, u54, p2, hCl, hCe]; refine CF st' _ p1 (hV.of hJ.ext.sn) e4 ?_; have nx2 := hJ.nx; have n0 : ¬ H.next = H2.next := by omega
       have n1 : ¬ H.next + 1 = H2.next := by omega
       have n2 : ¬ H.next + 2 = H2.next := by omega
       simp (maxSteps := 1000000) (disch := omega) [go_sem, u2, u4, u5, u7, u53, u54, p2, hCl, hCe, BE, n0, n1, n2]; have n3 : ¬ H2.next = H.next + 2 := by omega
       have n4 : ¬ H2.next = H.next + 1 := by omega
       have ex : c'.set (fi) (c'[fi] ++ [x]) = c'.set (fi) [x] := by rw [hc0]; rfl
       have eC : ∀ y : IV, List.take (fi) C' ++ y :: List.drop (fi + 1) C' = C'.set (fi) y := fun y => by rw [List.set_eq_take_append_cons_drop, if_pos hfC]
       have eT : ∀ y : IV, y :: C'.tail = C'.set 0 y := fun y => by cases C' with | nil => simp at hCl | cons a b => rfl
       refine .of hI2 hμ2 ⟨i + 1, st'', C'.set (fi) (.os H2.next 1), c'.set (fi) (c'[fi] ++ [x]), by simp [go_sem, u2], by simp [go_sem, u4], by simp [go_sem, u5], by simp [go_sem, u7], by simp [go_sem, u53], by simp [go_sem], by omega, ?_⟩ (by simp [go_sem, u54]; omega); refine hJ.next hc2 hfi l4 b4 c4 (by simp [go_sem, p0, n0, CW]) (by simp [go_sem, n1]) (by first | (simp [go_sem, eC]; done) | (simp [go_sem, eT]; done)) (((hJ.ext.set (by omega) _).new _).set (by omega) _) (by simp [go_sem]; omega) ?_; rw [ex]; refine hJ.rows.Ih hfi hc0 (by omega) (Nat.le_refl _) (by simp [go_sem]) (by simp [go_sem]) (fun q o hq hq' e => ?_) (by simp [go_sem, n3, n4]); have m1 : ¬ q = H.next + 2 := by omega
       have m2 : ¬ q = H.next + 1 := by omega
       have m3 : ¬ q = H2.next := by omega
       simp [go_sem, m1, m2, m3, e]
      ·have hCe : C'[fi]'hfC = .os nr c'[fi].length := by rw [List.getElem?_eq_getElem hfC] at hC; exact Option.some.inj hC
       have hfl := hJ.fl _ (List.getElem?_eq_getElem hfi); simp (maxSteps := 1000000) (disch := omega) [go_sem, u2, u4, u5, u7, u53, u54, p2, hCl]; refine Bn [0, 1, 2, 3, 4, 5, 6, 7, 8, 9] (by kernel_rfl) (by kernel_rfl) (fun _ _ _ _ h => h) ?_; simp (maxSteps := 1000000) (disch := omega) [go_sem, u2, u4, u5, u7, u53, u54, p2, hCl, hCe]; refine CF st' _ p1 (hV.of hJ.ext.sn) e4 ?_; have n0 : ¬ H.next = nr := by omega
       have n1 : ¬ H.next + 1 = nr := by omega
       have n2 : ¬ H.next + 2 = nr := by omega
       have n3 : ¬ nr = H.next + 1 := by omega
       have n4 : ¬ nr = H.next + 2 := by omega
       simp (maxSteps := 1000000) (disch := omega) [go_sem, u2, u4, u5, u7, u53, u54, p2, hCl, hCe, BE, q4, n0, n1, n2, n3, n4]; have eC : ∀ y : IV, List.take (fi) C' ++ y :: List.drop (fi + 1) C' = C'.set (fi) y := fun y => by rw [List.set_eq_take_append_cons_drop, if_pos hfC]
       have eT : ∀ y : IV, y :: C'.tail = C'.set 0 y := fun y => by cases C' with | nil => simp at hCl | cons a b => rfl
       have el : (c'[fi] ++ [x]).length = c'[fi].length + 1 := by simp
       refine .of hI2 hμ2 ⟨i + 1, st'', C'.set (fi) (.os nr (c'[fi].length + 1)), c'.set (fi) (c'[fi] ++ [x]), by simp [go_sem, u2], by simp [go_sem, u4], by simp [go_sem, u5], by simp [go_sem, u7], by simp [go_sem, u53], by simp [go_sem], by omega, ?_⟩ (by simp [go_sem, u54]; omega); have nx2 := hJ.nx; refine hJ.next hc2 hfi l4 b4 c4 (by simp [go_sem, p0, n0, CW]) (by simp [go_sem, n1]) (by first | (simp [go_sem, eC]; done) | (simp [go_sem, eT]; done)) (((hJ.ext.set (by omega) _).set (by omega) _).set (by omega) _) (by simp [go_sem]; omega) ?_; rw [← el]; refine hJ.rows.Ii hfi hC (by simp [go_sem]) (fun q o hq hq' hne e => ?_) (by simp [go_sem, n3, n4]); have m1 : ¬ q = H.next + 2 := by omega
       have m2 : ¬ q = H.next + 1 := by omega
       simp [go_sem, m1, m2, hne, e]
     ·simp (maxSteps := 1000000) (disch := omega) [go_sem, u2, u4, u5, u7, u53, u54]; have hd := hJ.dead rfl; have hT : Er s = none := by
       rcases hF with ⟨_, hF⟩ | ⟨h, _⟩
       ·rw [← g4]; exact E1 f k _ c h0 hF
       ·rw [hb3] at h; cases h
      refine .of hI hμ ⟨st', C', c', fi + 1, f, by simp [go_sem, u2], by simp [go_sem, u4], by simp [go_sem, u5], by simp [go_sem, u7], ⟨p0, p1, p2, hJ.ext, hJ.nx, hJ.rows, hJ.c8, by have := hJ.len; have := hR.len; omega, by omega, fun h => (by rw [hd] at h; cases h), fun _ => hT⟩⟩ ?_; rw [p1, CV, CV, hd]; have := hJ.len; simp; omega
   | false =>
    cases hfx : CU nm with
    | none =>
     simp (maxSteps := 1000000) (disch := omega) [go_sem, t2, t4, t5, t6, hb3, hfx]; refine B5 (fun tm2 H2 => ∃ (i : Nat) (st' : Bv) (C' : List IV) (c' : List (List Str)), tm2 2 = .p H.next 0 ∧ tm2 4 = .p (H.next + 1) 0 ∧ tm2 5 = .p (H.next + 2) 0 ∧ tm2 7 = .v (.int .i64 (0 : Nat)) ∧ tm2 53 = .v (.int .i64 n) ∧ tm2 54 = .v (.int .i64 i) ∧ i ≤ n ∧ Es H H2 true st3 c 0 n i st' C' c') (fun tm2 _ => n - (intOf (tm2 54)).toNat) (.same ?_) ?_
     ·exact ⟨0, ⟨st3.Ax, true⟩, C, c, by simp [go_sem, t2], by simp [go_sem, t4], by simp [go_sem, t5], by simp [go_sem], by simp [go_sem], by simp [go_sem], by omega, mk0 true (0) (by omega) (fun h => (by cases h))⟩
     rintro I2 μ2 hI2 hμ2 tm2 H2 ⟨i, st', C', c', u2, u4, u5, u7, u53, u54, hi, hJ⟩
     have p1 := hJ.o1; have p2 := hJ.o2; have p0 := hJ.o0; refine AA _ (by kernel_rfl) _ _ _ ?_; simp (maxSteps := 1000000) (disch := omega) [go_sem, u2, u4, u5, u7, u53, u54]; refine Bw ?_ ?_ <;> intro hc2 <;> (try simp at hc2)
     ·obtain ⟨x, st'', e4, l4, b4, c4⟩ := Hq st' (by have := hJ.len; have := hR.len; omega); have hCl : C'.length = 8 := by rw [hJ.rows.len, hJ.c8]
      have hfi : (0) < c'.length := by rw [hJ.c8]; omega
      have hfC : (0) < C'.length := by omega
      rcases hJ.rows.at hfi with ⟨hC, hc0⟩ | ⟨nr, q1, q2, hC, q4⟩
      ·have hCe : C'[0]'hfC = .v (.slice none 0 0) := by rw [List.getElem?_eq_getElem hfC] at hC; exact Option.some.inj hC
       simp (maxSteps := 1000000) (disch := omega) [go_sem, u2, u4, u5, u7, u53, u54, p2, hCl]; refine Bn [0, 1, 2, 3, 4, 5, 6, 7, 8, 9] (by kernel_rfl) (by kernel_rfl) (fun _ _ _ _ h => h) ?_; simp (maxSteps := 1000000) (disch := omega) [go_sem, u2, u4, u5, u7, u53, u54, p2, hCl, hCe]; refine CF st' _ p1 (hV.of hJ.ext.sn) e4 ?_; have nx2 := hJ.nx; have n0 : ¬ H.next = H2.next := by omega
       have n1 : ¬ H.next + 1 = H2.next := by omega
       have n2 : ¬ H.next + 2 = H2.next := by omega
       simp (maxSteps := 1000000) (disch := omega) [go_sem, u2, u4, u5, u7, u53, u54, p2, hCl, hCe, BE, n0, n1, n2]; have n3 : ¬ H2.next = H.next + 2 := by omega
       have n4 : ¬ H2.next = H.next + 1 := by omega
       have ex : c'.set (0) (c'[0] ++ [x]) = c'.set (0) [x] := by rw [hc0]; rfl
       have eC : ∀ y : IV, List.take (0) C' ++ y :: List.drop (0 + 1) C' = C'.set (0) y := fun y => by rw [List.set_eq_take_append_cons_drop, if_pos hfC]
       have eT : ∀ y : IV, y :: C'.tail = C'.set 0 y := fun y => by cases C' with | nil => simp at hCl | cons a b => rfl
       refine .of hI2 hμ2 ⟨i + 1, st'', C'.set (0) (.os H2.next 1), c'.set (0) (c'[0] ++ [x]), by simp [go_sem, u2], by simp [go_sem, u4], by simp [go_sem, u5], by simp [go_sem, u7], by simp [go_sem, u53], by simp [go_sem], by omega, ?_⟩ (by simp [go_sem, u54]; omega); refine hJ.next hc2 hfi l4 b4 c4 (by simp [go_sem, p0, n0, CW]) (by simp [go_sem, n1]) (by first | (simp [go_sem, eC]; done) | (simp [go_sem, eT]; done)) (((hJ.ext.set (by omega) _).new _).set (by omega) _) (by simp [go_sem]; omega) ?_; rw [ex]; refine hJ.rows.Ih hfi hc0 (by omega) (Nat.le_refl _) (by simp [go_sem]) (by simp [go_sem]) (fun q o hq hq' e => ?_) (by simp [go_sem, n3, n4]); have m1 : ¬ q = H.next + 2 := by omega
       have m2 : ¬ q = H.next + 1 := by omega
       have m3 : ¬ q = H2.next := by omega
       simp [go_sem, m1, m2, m3, e]
      ·have hCe : C'[0]'hfC = .os nr c'[0].length := by rw [List.getElem?_eq_getElem hfC] at hC; exact Option.some.inj hC
       have hfl := hJ.fl _ (List.getElem?_eq_getElem hfi); simp (maxSteps := 1000000) (disch := omega) [go_sem, u2, u4, u5, u7, u53, u54, p2, hCl]; refine Bn [0, 1, 2, 3, 4, 5, 6, 7, 8, 9] (by kernel_rfl) (by kernel_rfl) (fun _ _ _ _ h => h) ?_; simp (maxSteps := 1000000) (disch := omega) [go_sem, u2, u4, u5, u7, u53, u54, p2, hCl, hCe]; refine CF st' _ p1 (hV.of hJ.ext.sn) e4 ?_; have n0 : ¬ H.next = nr := by omega
       have n1 : ¬ H.next + 1 = nr := by omega
       have n2 : ¬ H.next + 2 = nr := by omega
       have n3 : ¬ nr = H.next + 1 := by omega
       have n4 : ¬ nr = H.next + 2 := by omega
       simp (maxSteps := 1000000) (disch := omega) [go_sem, u2, u4, u5, u7, u53, u54, p2, hCl, hCe, BE, q4, n0, n1, n2, n3, n4]; have eC : ∀ y : IV, List.take (0) C' ++ y :: List.drop (0 + 1) C' = C'.set (0) y := fun y => by rw [List.set_eq_take_append_cons_drop, if_pos hfC]
       have eT : ∀ y : IV, y :: C'.tail = C'.set 0 y := fun y => by cases C' with | nil => simp at hCl | cons a b => rfl
       have el : (c'[0] ++ [x]).length = c'[0].length + 1 := by simp
       refine .of hI2 hμ2 ⟨i + 1, st'', C'.set (0) (.os nr (c'[0].length + 1)), c'.set (0) (c'[0] ++ [x]), by simp [go_sem, u2], by simp [go_sem, u4], by simp [go_sem, u5], by simp [go_sem, u7], by simp [go_sem, u53], by simp [go_sem], by omega, ?_⟩ (by simp [go_sem, u54]; omega); have nx2 := hJ.nx; refine hJ.next hc2 hfi l4 b4 c4 (by simp [go_sem, p0, n0, CW]) (by simp [go_sem, n1]) (by first | (simp [go_sem, eC]; done) | (simp [go_sem, eT]; done)) (((hJ.ext.set (by omega) _).set (by omega) _).set (by omega) _) (by simp [go_sem]; omega) ?_; rw [← el]; refine hJ.rows.Ii hfi hC (by simp [go_sem]) (fun q o hq hq' hne e => ?_) (by simp [go_sem, n3, n4]); have m1 : ¬ q = H.next + 2 := by omega
       have m2 : ¬ q = H.next + 1 := by omega
       simp [go_sem, m1, m2, hne, e]
     ·simp (maxSteps := 1000000) (disch := omega) [go_sem, u2, u4, u5, u7, u53, u54]; have hd := hJ.dead rfl; have hT : Er s = none := by
       rcases hF with ⟨h, _⟩ | ⟨_, _, hF⟩
       ·rw [hb3] at h; cases h
       ·rw [← g4]; exact E1 f k _ c h0 (by rw [hF, hfx]; rfl)
      refine .of hI hμ ⟨st', C', c', 0 + 1, f, by simp [go_sem, u2], by simp [go_sem, u4], by simp [go_sem, u5], by simp [go_sem, u7], ⟨p0, p1, p2, hJ.ext, hJ.nx, hJ.rows, hJ.c8, by have := hJ.len; have := hR.len; omega, by omega, fun h => (by rw [hd] at h; cases h), fun _ => hT⟩⟩ ?_; rw [p1, CV, CV, hd]; have := hJ.len; simp; omega
    | some fi =>
     have hfi8 := Ho hfx; by_cases hik : (fi : Int) ≤ (k : Int) - 1
     ·simp (maxSteps := 1000000) (disch := omega) [go_sem, t2, t4, t5, t6, hb3, hfx, hik]; refine B5 (fun tm2 H2 => ∃ (i : Nat) (st' : Bv) (C' : List IV) (c' : List (List Str)), tm2 2 = .p H.next 0 ∧ tm2 4 = .p (H.next + 1) 0 ∧ tm2 5 = .p (H.next + 2) 0 ∧ tm2 7 = .v (.int .i64 (fi : Nat)) ∧ tm2 53 = .v (.int .i64 n) ∧ tm2 54 = .v (.int .i64 i) ∧ i ≤ n ∧ Es H H2 true st3 c fi n i st' C' c') (fun tm2 _ => n - (intOf (tm2 54)).toNat) (.same ?_) ?_
      ·exact ⟨0, ⟨st3.Ax, true⟩, C, c, by simp [go_sem, t2], by simp [go_sem, t4], by simp [go_sem, t5], by simp [go_sem], by simp [go_sem], by simp [go_sem], by omega, mk0 true (fi) (by omega) (fun h => (by cases h))⟩
      rintro I2 μ2 hI2 hμ2 tm2 H2 ⟨i, st', C', c', u2, u4, u5, u7, u53, u54, hi, hJ⟩
      have p1 := hJ.o1; have p2 := hJ.o2; have p0 := hJ.o0; refine AA _ (by kernel_rfl) _ _ _ ?_; simp (maxSteps := 1000000) (disch := omega) [go_sem, u2, u4, u5, u7, u53, u54]; refine Bw ?_ ?_ <;> intro hc2 <;> (try simp at hc2)
      ·obtain ⟨x, st'', e4, l4, b4, c4⟩ := Hq st' (by have := hJ.len; have := hR.len; omega); have hCl : C'.length = 8 := by rw [hJ.rows.len, hJ.c8]
       have hfi : (fi) < c'.length := by rw [hJ.c8]; omega
       have hfC : (fi) < C'.length := by omega
       rcases hJ.rows.at hfi with ⟨hC, hc0⟩ | ⟨nr, q1, q2, hC, q4⟩
       ·have hCe : C'[fi]'hfC = .v (.slice none 0 0) := by rw [List.getElem?_eq_getElem hfC] at hC; exact Option.some.inj hC
        simp (maxSteps := 1000000) (disch := omega) [go_sem, u2, u4, u5, u7, u53, u54, p2, hCl]; refine Bn [0, 1, 2, 3, 4, 5, 6, 7, 8, 9] (by kernel_rfl) (by kernel_rfl) (fun _ _ _ _ h => h) ?_; simp (maxSteps := 1000000) (disch := omega) [go_sem, u2, u4, u5, u7, u53, u54, p2, hCl, hCe]; refine CF st' _ p1 (hV.of hJ.ext.sn) e4 ?_; have nx2 := hJ.nx; have n0 : ¬ H.next = H2.next := by omega
        have n1 : ¬ H.next + 1 = H2.next := by omega
        have n2 : ¬ H.next + 2 = H2.next := by omega
        simp (maxSteps := 1000000) (disch := omega) [go_sem, u2, u4, u5, u7, u53, u54, p2, hCl, hCe, BE, n0, n1, n2]; have n3 : ¬ H2.next = H.next + 2 := by omega
        have n4 : ¬ H2.next = H.next + 1 := by omega
        have ex : c'.set (fi) (c'[fi] ++ [x]) = c'.set (fi) [x] := by rw [hc0]; rfl
        have eC : ∀ y : IV, List.take (fi) C' ++ y :: List.drop (fi + 1) C' = C'.set (fi) y := fun y => by rw [List.set_eq_take_append_cons_drop, if_pos hfC]
        have eT : ∀ y : IV, y :: C'.tail = C'.set 0 y := fun y => by cases C' with | nil => simp at hCl | cons a b => rfl
        refine .of hI2 hμ2 ⟨i + 1, st'', C'.set (fi) (.os H2.next 1), c'.set (fi) (c'[fi] ++ [x]), by simp [go_sem, u2], by simp [go_sem, u4], by simp [go_sem, u5], by simp [go_sem, u7], by simp [go_sem, u53], by simp [go_sem], by omega, ?_⟩ (by simp [go_sem, u54]; omega); refine hJ.next hc2 hfi l4 b4 c4 (by simp [go_sem, p0, n0, CW]) (by simp [go_sem, n1]) (by first | (simp [go_sem, eC]; done) | (simp [go_sem, eT]; done)) (((hJ.ext.set (by omega) _).new _).set (by omega) _) (by simp [go_sem]; omega) ?_; rw [ex]; refine hJ.rows.Ih hfi hc0 (by omega) (Nat.le_refl _) (by simp [go_sem]) (by simp [go_sem]) (fun q o hq hq' e => ?_) (by simp [go_sem, n3, n4]); have m1 : ¬ q = H.next + 2 := by omega
        have m2 : ¬ q = H.next + 1 := by omega
        have m3 : ¬ q = H2.next := by omega
        simp [go_sem, m1, m2, m3, e]
       ·have hCe : C'[fi]'hfC = .os nr c'[fi].length := by rw [List.getElem?_eq_getElem hfC] at hC; exact Option.some.inj hC
        have hfl := hJ.fl _ (List.getElem?_eq_getElem hfi); simp (maxSteps := 1000000) (disch := omega) [go_sem, u2, u4, u5, u7, u53, u54, p2, hCl]; refine Bn [0, 1, 2, 3, 4, 5, 6, 7, 8, 9] (by kernel_rfl) (by kernel_rfl) (fun _ _ _ _ h => h) ?_; simp (maxSteps := 1000000) (disch := omega) [go_sem, u2, u4, u5, u7, u53, u54, p2, hCl, hCe]; refine CF st' _ p1 (hV.of hJ.ext.sn) e4 ?_; have n0 : ¬ H.next = nr := by omega
        have n1 : ¬ H.next + 1 = nr := by omega
        have n2 : ¬ H.next + 2 = nr := by omega
        have n3 : ¬ nr = H.next + 1 := by omega
        have n4 : ¬ nr = H.next + 2 := by omega
        simp (maxSteps := 1000000) (disch := omega) [go_sem, u2, u4, u5, u7, u53, u54, p2, hCl, hCe, BE, q4, n0, n1, n2, n3, n4]; have eC : ∀ y : IV, List.take (fi) C' ++ y :: List.drop (fi + 1) C' = C'.set (fi) y := fun y => by rw [List.set_eq_take_append_cons_drop, if_pos hfC]
        have eT : ∀ y : IV, y :: C'.tail = C'.set 0 y := fun y => by cases C' with | nil => simp at hCl | cons a b => rfl
        have el : (c'[fi] ++ [x]).length = c'[fi].length + 1 := by simp
        refine .of hI2 hμ2 ⟨i + 1, st'', C'.set (fi) (.os nr (c'[fi].length + 1)), c'.set (fi) (c'[fi] ++ [x]), by simp [go_sem, u2], by simp [go_sem, u4], by simp [go_sem, u5], by simp [go_sem, u7], by simp [go_sem, u53], by simp [go_sem], by omega, ?_⟩ (by simp [go_sem, u54]; omega); have nx2 := hJ.nx; refine hJ.next hc2 hfi l4 b4 c4 (by simp [go_sem, p0, n0, CW]) (by simp [go_sem, n1]) (by first | (simp [go_sem, eC]; done) | (simp [go_sem, eT]; done)) (((hJ.ext.set (by omega) _).set (by omega) _).set (by omega) _) (by simp [go_sem]; omega) ?_; rw [← el]; refine hJ.rows.Ii hfi hC (by simp [go_sem]) (fun q o hq hq' hne e => ?_) (by simp [go_sem, n3, n4]); have m1 : ¬ q = H.next + 2 := by omega
        have m2 : ¬ q = H.next + 1 := by omega
        simp [go_sem, m1, m2, hne, e]
      ·simp (maxSteps := 1000000) (disch := omega) [go_sem, u2, u4, u5, u7, u53, u54]; have hd := hJ.dead rfl; have hT : Er s = none := by
        rcases hF with ⟨h, _⟩ | ⟨_, _, hF⟩
        ·rw [hb3] at h; cases h
        ·rw [← g4]; exact N_ f k _ c h0 (by rw [hF, hfx]; rfl) (by omega)
       refine .of hI hμ ⟨st', C', c', fi + 1, f, by simp [go_sem, u2], by simp [go_sem, u4], by simp [go_sem, u5], by simp [go_sem, u7], ⟨p0, p1, p2, hJ.ext, hJ.nx, hJ.rows, hJ.c8, by have := hJ.len; have := hR.len; omega, by omega, fun h => (by rw [hd] at h; cases h), fun _ => hT⟩⟩ ?_; rw [p1, CV, CV, hd]; have := hJ.len; simp; omega
     ·simp (maxSteps := 1000000) (disch := omega) [go_sem, t2, t4, t5, t6, hb3, hfx, hik]; refine B5 (fun tm2 H2 => ∃ (i : Nat) (st' : Bv) (C' : List IV) (c' : List (List Str)), tm2 2 = .p H.next 0 ∧ tm2 4 = .p (H.next + 1) 0 ∧ tm2 5 = .p (H.next + 2) 0 ∧ tm2 7 = .v (.int .i64 (fi : Nat)) ∧ tm2 53 = .v (.int .i64 n) ∧ tm2 54 = .v (.int .i64 i) ∧ i ≤ n ∧ Es H H2 false st3 c fi n i st' C' c') (fun tm2 _ => n - (intOf (tm2 54)).toNat) (.same ?_) ?_
      ·exact ⟨0, ⟨st3.Ax, false⟩, C, c, by simp [go_sem, t2], by simp [go_sem, t4], by simp [go_sem, t5], by simp [go_sem], by simp [go_sem], by simp [go_sem], by omega, mk0 false (fi) (by omega) (fun _ => (by omega))⟩
      rintro I2 μ2 hI2 hμ2 tm2 H2 ⟨i, st', C', c', u2, u4, u5, u7, u53, u54, hi, hJ⟩
      have p1 := hJ.o1; have p2 := hJ.o2; have p0 := hJ.o0; refine AA _ (by kernel_rfl) _ _ _ ?_; simp (maxSteps := 1000000) (disch := omega) [go_sem, u2, u4, u5, u7, u53, u54]; refine Bw ?_ ?_ <;> intro hc2 <;> (try simp at hc2)
      ·obtain ⟨x, st'', e4, l4, b4, c4⟩ := Hq st' (by have := hJ.len; have := hR.len; omega); have hCl : C'.length = 8 := by rw [hJ.rows.len, hJ.c8]
       have hfi : (fi) < c'.length := by rw [hJ.c8]; omega
       have hfC : (fi) < C'.length := by omega
       rcases hJ.rows.at hfi with ⟨hC, hc0⟩ | ⟨nr, q1, q2, hC, q4⟩
       ·have hCe : C'[fi]'hfC = .v (.slice none 0 0) := by rw [List.getElem?_eq_getElem hfC] at hC; exact Option.some.inj hC
        simp (maxSteps := 1000000) (disch := omega) [go_sem, u2, u4, u5, u7, u53, u54, p2, hCl]; refine Bn [0, 1, 2, 3, 4, 5, 6, 7, 8, 9] (by kernel_rfl) (by kernel_rfl) (fun _ _ _ _ h => h) ?_; simp (maxSteps := 1000000) (disch := omega) [go_sem, u2, u4, u5, u7, u53, u54, p2, hCl, hCe]; refine CF st' _ p1 (hV.of hJ.ext.sn) e4 ?_; have nx2 := hJ.nx; have n0 : ¬ H.next = H2.next := by omega
        have n1 : ¬ H.next + 1 = H2.next := by omega
        have n2 : ¬ H.next + 2 = H2.next := by omega
        simp (maxSteps := 1000000) (disch := omega) [go_sem, u2, u4, u5, u7, u53, u54, p2, hCl, hCe, BE, n0, n1, n2]; have n3 : ¬ H2.next = H.next + 2 := by omega
        have n4 : ¬ H2.next = H.next + 1 := by omega
        have ex : c'.set (fi) (c'[fi] ++ [x]) = c'.set (fi) [x] := by rw [hc0]; rfl
        have eC : ∀ y : IV, List.take (fi) C' ++ y :: List.drop (fi + 1) C' = C'.set (fi) y := fun y => by rw [List.set_eq_take_append_cons_drop, if_pos hfC]
        have eT : ∀ y : IV, y :: C'.tail = C'.set 0 y := fun y => by cases C' with | nil => simp at hCl | cons a b => rfl
        refine .of hI2 hμ2 ⟨i + 1, st'', C'.set (fi) (.os H2.next 1), c'.set (fi) (c'[fi] ++ [x]), by simp [go_sem, u2], by simp [go_sem, u4], by simp [go_sem, u5], by simp [go_sem, u7], by simp [go_sem, u53], by simp [go_sem], by omega, ?_⟩ (by simp [go_sem, u54]; omega); refine hJ.next hc2 hfi l4 b4 c4 (by simp [go_sem, p0, n0, CW]) (by simp [go_sem, n1]) (by first | (simp [go_sem, eC]; done) | (simp [go_sem, eT]; done)) (((hJ.ext.set (by omega) _).new _).set (by omega) _) (by simp [go_sem]; omega) ?_; rw [ex]; refine hJ.rows.Ih hfi hc0 (by omega) (Nat.le_refl _) (by simp [go_sem]) (by simp [go_sem]) (fun q o hq hq' e => ?_) (by simp [go_sem, n3, n4]); have m1 : ¬ q = H.next + 2 := by omega
        have m2 : ¬ q = H.next + 1 := by omega
        have m3 : ¬ q = H2.next := by omega
        simp [go_sem, m1, m2, m3, e]
       ·have hCe : C'[fi]'hfC = .os nr c'[fi].length := by rw [List.getElem?_eq_getElem hfC] at hC; exact Option.some.inj hC
        have hfl := hJ.fl _ (List.getElem?_eq_getElem hfi); simp (maxSteps := 1000000) (disch := omega) [go_sem, u2, u4, u5, u7, u53, u54, p2, hCl]; refine Bn [0, 1, 2, 3, 4, 5, 6, 7, 8, 9] (by kernel_rfl) (by kernel_rfl) (fun _ _ _ _ h => h) ?_; simp (maxSteps := 1000000) (disch := omega) [go_sem, u2, u4, u5, u7, u53, u54, p2, hCl, hCe]; refine CF st' _ p1 (hV.of hJ.ext.sn) e4 ?_; have n0 : ¬ H.next = nr := by omega
        have n1 : ¬ H.next + 1 = nr := by omega
        have n2 : ¬ H.next + 2 = nr := by omega
        have n3 : ¬ nr = H.next + 1 := by omega
        have n4 : ¬ nr = H.next + 2 := by omega
        simp (maxSteps := 1000000) (disch := omega) [go_sem, u2, u4, u5, u7, u53, u54, p2, hCl, hCe, BE, q4, n0, n1, n2, n3, n4]; have eC : ∀ y : IV, List.take (fi) C' ++ y :: List.drop (fi + 1) C' = C'.set (fi) y := fun y => by rw [List.set_eq_take_append_cons_drop, if_pos hfC]
        have eT : ∀ y : IV, y :: C'.tail = C'.set 0 y := fun y => by cases C' with | nil => simp at hCl | cons a b => rfl
        have el : (c'[fi] ++ [x]).length = c'[fi].length + 1 := by simp
        refine .of hI2 hμ2 ⟨i + 1, st'', C'.set (fi) (.os nr (c'[fi].length + 1)), c'.set (fi) (c'[fi] ++ [x]), by simp [go_sem, u2], by simp [go_sem, u4], by simp [go_sem, u5], by simp [go_sem, u7], by simp [go_sem, u53], by simp [go_sem], by omega, ?_⟩ (by simp [go_sem, u54]; omega); have nx2 := hJ.nx; refine hJ.next hc2 hfi l4 b4 c4 (by simp [go_sem, p0, n0, CW]) (by simp [go_sem, n1]) (by first | (simp [go_sem, eC]; done) | (simp [go_sem, eT]; done)) (((hJ.ext.set (by omega) _).set (by omega) _).set (by omega) _) (by simp [go_sem]; omega) ?_; rw [← el]; refine hJ.rows.Ii hfi hC (by simp [go_sem]) (fun q o hq hq' hne e => ?_) (by simp [go_sem, n3, n4]); have m1 : ¬ q = H.next + 2 := by omega
        have m2 : ¬ q = H.next + 1 := by omega
        simp [go_sem, m1, m2, hne, e]
      ·simp (maxSteps := 1000000) (disch := omega) [go_sem, u2, u4, u5, u7, u53, u54]; have e0 : n - i = 0 := by omega
       rcases hJ.good rfl with ⟨hd, hT0⟩ | ⟨hd, acc, rfl, ha, hav, hT0⟩
       ·have hT : Er s = none := by
         rcases hF with ⟨h, _⟩ | ⟨_, _, hF⟩
         ·rw [hb3] at h; cases h
         ·rw [← g4]; exact E1 f k _ c h0 (by rw [hF, hfx, Option.bind_some, hT0]; rfl)
        refine .of hI hμ ⟨st', C', c', fi + 1, f, by simp [go_sem, u2], by simp [go_sem, u4], by simp [go_sem, u5], by simp [go_sem, u7], ⟨p0, p1, p2, hJ.ext, hJ.nx, hJ.rows, hJ.c8, by have := hJ.len; have := hR.len; omega, by omega, fun h => (by rw [hd] at h; cases h), fun _ => hT⟩⟩ ?_; rw [p1, CV, CV, hd]; have := hJ.len; simp; omega
       ·rcases hF with ⟨h, _⟩ | ⟨_, hlt, hF⟩
        ·rw [hb3] at h; cases h
        ·rw [e0] at hT0; have hF' : Hp st.Ax.fs = some (fi, acc, st'.Ax.fs) := by rw [hF, hfx, Option.bind_some, hT0]; simp [Cr]
         have hle := hJ.len; obtain ⟨f', rfl⟩ : ∃ f', f = f' + 1 := ⟨f - 1, by have : 0 < st.Ax.fs.length := List.length_pos_iff.2 h0; omega⟩; have hcon : E0 f' (fi + 1) st'.Ax.fs (c.set fi acc) = Er s := by
          rw [← g4]; exact (LG f' k _ c h0 hF' (by omega)).symm
         refine .of hI hμ ⟨st', C', c.set fi acc, fi + 1, f', by simp [go_sem, u2], by simp [go_sem, u4], by simp [go_sem, u5], by simp [go_sem, u7], ⟨p0, p1, p2, hJ.ext, hJ.nx, hJ.rows, hJ.c8, by have := hR.len; omega, by omega, fun _ => ⟨by omega, ⟨hJ.c8, ?_⟩, fun j hj => ?_, hcon⟩, fun h => (by rw [hd] at h; cases h)⟩⟩ ?_
         ·intro l hl; rcases List.mem_or_eq_of_mem_set hl with hl | rfl
          ·exact g2.2 l hl
          ·exact ⟨by omega, fun v hv => by have := hav v hv; omega⟩
         ·have := g3 j (by omega); rw [List.getD_eq_getElem?_getD] at this ⊢; rw [List.getElem?_set_ne (by omega)]; exact this
         ·rw [p1, CV, CV, hd]; simp; omega
end Go.Idl
namespace Go.Idl
open Go Go.Proofs.Tryz Go.RowKit
variable {H : A2} {K : Au → A2 → Prop}
noncomputable def CX (s : Str) : List (List Str) × Bool := match Er s with | some c => if AS c = true then (c, true) else (B3, false) | none => (B3, false)
theorem Zz (s : Str) (c : UInt8) (hs : s.length ≤ 4000000000) : ∃ x y b, TM s (c.toNat : Int) = some (x, y, b) ∧ x.length ≤ s.length ∧ y.length ≤ s.length ∧ (match AP s c with | some p => x = p.1 ∧ y = p.2 ∧ b = true | none => b = false) := by
 rw [Wh s c (by omega)]; cases hc : AP s c with
 | none => exact ⟨_, _, _, rfl, by simp, by simp, rfl⟩
 | some p => have := Cl (a := p.1) (b := p.2) hc; exact ⟨_, _, _, rfl, by omega, by omega, rfl, rfl, rfl⟩
theorem U5 (nm : Str) (i : Nat) (hi : i < 8) : CU nm = some i ↔ Bt.getD i [] = nm := by
 constructor
 ·intro h; obtain ⟨h1, h2, _⟩ := List.findIdx?_eq_some_iff_getElem.1 h; rw [List.getD_eq_getElem?_getD, List.getElem?_eq_getElem h1]; simpa using h2
 ·rintro rfl
  exact Rk i hi
def txM : IV → Nat
  | .v (.string b) => b.size
  | _ => 0
theorem ZA (s : Str) : txM (.v (str s)) = s.length := by
 show s.toArray.size = _; simp
structure kB (s : Str) (H H' : A2) (fs : Str) (C : List IV) (c : List (List Str)) (k f : Nat) : Prop where
  o0 : H'.obj H.next = some (.cells CW)
  o1 : H'.obj (H.next + 1) = some (.cells C)
  ext : Ext H H'
  nx : H.next + 2 ≤ H'.next
  rows : C4 H' (H.next + 2) C c
  k8 : k ≤ 8
  len : fs.length ≤ f
  lens : fs.length ≤ s.length
  small : DK c
  zero : ∀ j, k ≤ j → c.getD j [] = []
  good : E0 f k fs c = Er s
structure fE (H H2 : A2) (c : List (List Str)) (fi n i : Nat) (l0 l : Str) (C' : List IV) (acc : List Str) : Prop where
  o0 : H2.obj H.next = some (.cells CW)
  o1 : H2.obj (H.next + 1) = some (.cells C')
  ext : Ext H H2
  nx : H.next + 2 ≤ H2.next
  rows : C4 H2 (H.next + 2) C' (c.set fi acc)
  len : l.length ≤ l0.length
  al : acc.length = i
  av : ∀ v, v ∈ acc → v.length ≤ 200
  good : Cr 200 n l0 = (Cr 200 (n - i) l).map fun q => (acc ++ q.1, q.2)
set_option pp.deepTerms false in
set_option maxRecDepth 8000 in
set_option maxHeartbeats 4000000 in
theorem fF (s : Str) (hs : s.length ≤ 1000000000) (hK : K (.ret (.tu [cS (CX s).1, .v (.bool (CX s).2)])) H) : Aa prog 68 [.v (str s)] H K := by
 refine AM (N := 117) func68 (by kernel_rfl) rfl (by kernel_rfl) (by kernel_rfl) fun hw hbd hnb => ?_; simp (maxSteps := 1000000) (disch := omega) [go_sem, bdP]; refine B5 (fun tm' H' => ∃ (fs : Str) (C : List IV) (c : List (List Str)) (k f : Nat), tm' 0 = .v (str fs) ∧ tm' 2 = .p H.next 0 ∧ tm' 4 = .p (H.next + 1) 0 ∧ tm' 5 = .v (.int .i64 ((k : Int) - 1)) ∧ kB s H H' fs C c k f) (fun tm' _ => txM (tm' 0)) (.same ?_) ?_
 ·refine ⟨s, CW, B3, 0, s.length, by simp [go_sem], by simp [go_sem], by simp [go_sem], by simp [go_sem], by simp [go_sem, CW], by simp [go_sem, CW], ?_, by simp [go_sem], .Gg 8, by omega, Nat.le_refl _, Nat.le_refl _, ⟨by simp [B3], by simp [B3]⟩, fun j _ => ?_, rfl⟩
  ·exact ((((Ext.refl hw).new _).new _).set (by simp [go_sem]) _)
  ·rw [B3, List.getD_eq_getElem?_getD, List.getElem?_replicate]; split <;> rfl
 rintro I' μ' hI hμ tm' H' ⟨fs, C, c, k, f, t0, t2, t4, t5, hR⟩
 have o1 := hR.o1; have o0 := hR.o0; have c8 := hR.small.1; have hC8 : C.length = 8 := by rw [hR.rows.len, c8]
 have htk : List.take 8 C = C := List.take_of_length_le (by omega); refine AA _ (by kernel_rfl) _ _ _ ?_; simp (maxSteps := 1000000) (disch := omega) [go_sem, t0, t2, t4, t5]; by_cases h0 : fs = []
 ·have hcT : Er s = some c := by rw [← hR.good, h0]; cases f <;> simp [E0]
  simp (maxSteps := 1000000) (disch := omega) [go_sem, t0, t2, t4, t5, h0, o1, hC8, htk]; refine Ej (H := H') (args' := [cS c]) (.cons (hR.rows.fz fun _ _ => rfl) .nil) (fun H K hK => Kl c (Pj c hR.small) hK) ?_; by_cases hk : AS c = true
  ·have e : CX s = (c, true) := by unfold CX; rw [hcT]; simp [hk]
   rw [e] at hK; rw [hk]; simp (maxSteps := 1000000) (disch := omega) [go_sem, t0, t2, t4, t5, o1, hC8, htk, o0]; exact AX (J := H) (hR.ext.set (Nat.le_refl _) _).Bp (.tu2 ((hR.rows.mono (J' := H'.set H.next (.cells C)) (Nat.le_refl _) fun q o hq _ e => by simp only [go_sem, if_neg (show ¬ q = H.next by omega)]; exact e).fz fun q hq => hw q (by omega)) (.same (.v _))) hK
  ·have hk : AS c = false := by simpa using hk
   have e : CX s = (B3, false) := by unfold CX; rw [hcT]; simp [hk]
   rw [e] at hK; rw [hk]; simp (maxSteps := 1000000) (disch := omega) [go_sem, t0, t2, t4, t5, bdP, o0]; exact AX (J := H) (hR.ext.set (Nat.le_refl _) _).Bp (.tu2 (by rw [BG]; exact Fz.Gg 8) (.same (.v _))) hK
 ·simp (maxSteps := 1000000) (disch := omega) [go_sem, t0, t2, t4, t5, h0]; obtain ⟨nm, y, b1, e1, l1, m1, c1⟩ := Zz fs 32 (by have := hR.lens; omega); rw [show (((32 : UInt8).toNat : Nat) : Int) = 32 from rfl] at e1; refine MG fs 32 e1 ?_; simp (maxSteps := 1000000) (disch := omega) [go_sem, t0, t2, t4, t5]; obtain ⟨mt, l0, b2, e2, l2, m2, c2⟩ := Zz y 10 (by have := hR.lens; omega); rw [show (((10 : UInt8).toNat : Nat) : Int) = 10 from rfl] at e2; refine MG y 10 e2 ?_; simp (maxSteps := 1000000) (disch := omega) [go_sem, t0, t2, t4, t5]; refine B5 (fun tm2 H2 => H2 = H' ∧ ∃ i : Nat, tm2 2 = .p H.next 0 ∧ tm2 4 = .p (H.next + 1) 0 ∧ tm2 5 = .v (.int .i64 ((k : Int) - 1)) ∧ tm2 6 = .v (str nm) ∧ tm2 8 = .v (.bool b1) ∧ tm2 9 = .v (str mt) ∧ tm2 10 = .v (str l0) ∧ tm2 11 = .v (.bool b2) ∧ tm2 12 = .v (.int .i64 (match CU nm with | some j => if j < i then (j : Int) else -1 | none => -1)) ∧ tm2 13 = .v (.int .i64 i) ∧ i ≤ 8) (fun tm2 _ => 8 - (intOf (tm2 13)).toNat) (.same ?_) ?_
  ·refine ⟨rfl, 0, by simp [go_sem, t2], by simp [go_sem, t4], by simp [go_sem, t5], by simp [go_sem], by simp [go_sem], by simp [go_sem], by simp [go_sem], by simp [go_sem], ?_, by simp [go_sem], by omega⟩; simp [go_sem]; cases CU nm <;> rfl
  rintro I2 μ2 hI2 hμ2 tm2 H2 ⟨rfl, i, u2, u4, u5, u6, u8, u9, u10, u11, u12, u13, hi⟩
  refine AA _ (by kernel_rfl) _ _ _ ?_; simp (maxSteps := 1000000) (disch := omega) [go_sem, u2, u4, u5, u6, u8, u9, u10, u11, u12, u13]; refine Bw ?_ ?_ <;> intro hc1 <;> (try simp at hc1)
  ·refine Wa rfl ?_; have hnl : Bt.length = 8 := rfl; have hg : Bt.getD i [] = Bt[i]'(by omega) := Gu (by omega); have hiff := U5 nm i (by omega); rw [hg] at hiff; show Jx _ _ (.ret (.sl 1 (Bt.map fun x => [.v (str x)]))) _; simp (maxSteps := 1000000) (disch := omega) [go_sem, u2, u4, u5, u6, u8, u9, u10, u11, u12, u13, hnl]; by_cases e : Bt[i]'(by omega) = nm
   ·have hfx := hiff.2 e; simp (maxSteps := 1000000) (disch := omega) [go_sem, u2, u4, u5, u6, u8, u9, u10, u11, u12, u13, hnl, e]; exact .of hI2 hμ2 ⟨rfl, i + 1, by simp [go_sem, u2], by simp [go_sem, u4], by simp [go_sem, u5], by simp [go_sem, u6], by simp [go_sem, u8], by simp [go_sem, u9], by simp [go_sem, u10], by simp [go_sem, u11], by simp [go_sem, hfx], by simp [go_sem], by omega⟩ (by simp [go_sem, u13]; omega)
   ·have hne : (match CU nm with | some j => if j < i + 1 then (j : Int) else -1 | none => -1) = (match CU nm with | some j => if j < i then (j : Int) else -1 | none => -1) := by
     cases hq : CU nm with
     | none => rfl
     | some j =>
      have : j ≠ i := by rintro rfl; exact e (hiff.1 hq)
      simp only; by_cases hj : j < i
      ·rw [if_pos hj, if_pos (by omega)]
      ·rw [if_neg hj, if_neg (by omega)]
    simp (maxSteps := 1000000) (disch := omega) [go_sem, u2, u4, u5, u6, u8, u9, u10, u11, u12, u13, hnl, e]; refine .of hI2 hμ2 ⟨rfl, i + 1, by simp [go_sem, u2], by simp [go_sem, u4], by simp [go_sem, u5], by simp [go_sem, u6], by simp [go_sem, u8], by simp [go_sem, u9], by simp [go_sem, u10], by simp [go_sem, u11], ?_, by simp [go_sem], by omega⟩ (by simp [go_sem, u13]; omega); rw [hne]; simp [go_sem, u12]
  ·have hi8 : i = 8 := by omega
   subst hi8; obtain ⟨fi, hfi⟩ : ∃ fi : Int, fi = (match CU nm with | some j => (j : Int) | none => -1) := ⟨_, rfl⟩; have u12' : tm2 12 = .v (.int .i64 fi) := by
    rw [u12, hfi]; cases hq : CU nm with
    | none => rfl
    | some j => have := Ho hq; simp [this]
   have e3 := Q9 mt 8 (by omega); rw [show ((8 : Nat) : Int) = 8 from rfl] at e3; simp (maxSteps := 1000000) (disch := omega) [go_sem, u2, u4, u5, u6, u8, u9, u10, u11, u12', u13]; refine Q2 mt 8 e3 ?_; have badQ : Hp fs = none → CX s = (B3, false) := fun h => by
    have : Er s = none := by rw [← hR.good]; exact E1 f k _ c h0 h
    unfold CX; rw [this]
   simp (maxSteps := 1000000) (disch := omega) [go_sem, u2, u4, u5, u6, u8, u9, u10, u11, u12', u13]; cases hb1 : b1 with
   | false =>
    have hq : CX s = (B3, false) := badQ (by
      unfold Hp
      cases h1 : AP fs 32 with
      | none => rfl
      | some p => rw [h1] at c1; rw [c1.2.2] at hb1; cases hb1)
    rw [hq] at hK; simp (maxSteps := 1000000) (disch := omega) [go_sem, u2, u4, u5, u6, u8, u9, u10, u11, u12', u13, bdP, o0]; exact AX (J := H) (hR.ext.set (Nat.le_refl _) _).Bp (.tu2 (by rw [BG]; exact Fz.Gg 8) (.same (.v _))) hK
   | true =>
    obtain ⟨p1, hp1⟩ : ∃ p, AP fs 32 = some p := by
     cases h1 : AP fs 32 with
     | none => rw [h1] at c1; rw [c1] at hb1; cases hb1
     | some p => exact ⟨p, rfl⟩
    rw [hp1] at c1; obtain ⟨rfl, rfl, _⟩ := c1; have hl1 := Cl (a := p1.1) (b := p1.2) hp1; cases hb2 : b2 with
    | false =>
     have hq : CX s = (B3, false) := badQ (by
       unfold Hp
       rw [hp1, Option.bind_some]
       cases h1 : AP p1.2 10 with
       | none => rfl
       | some p => rw [h1] at c2; rw [c2.2.2] at hb2; cases hb2)
     rw [hq] at hK; simp (maxSteps := 1000000) (disch := omega) [go_sem, u2, u4, u5, u6, u8, u9, u10, u11, u12', u13, bdP, o0, hb2]; exact AX (J := H) (hR.ext.set (Nat.le_refl _) _).Bp (.tu2 (by rw [BG]; exact Fz.Gg 8) (.same (.v _))) hK
    | true =>
     obtain ⟨p2, hp2⟩ : ∃ p, AP p1.2 10 = some p := by
      cases h1 : AP p1.2 10 with
      | none => rw [h1] at c2; rw [c2] at hb2; cases hb2
      | some p => exact ⟨p, rfl⟩
     rw [hp2] at c2; obtain ⟨rfl, rfl, _⟩ := c2; have hl2 := Cl (a := p2.1) (b := p2.2) hp2; have hF : Hp fs = (CU p1.1).bind fun i => (Dg p2.1 8).bind fun n => (Cr 200 n p2.2).map fun r => (i, r.1, r.2) := by
      unfold Hp; rw [hp1, Option.bind_some, hp2, Option.bind_some]
     by_cases hfk : fi ≤ (k : Int) - 1
     ·have hq : CX s = (B3, false) := by
       cases hfx : CU p1.1 with
       | none => exact badQ (by rw [hF, hfx]; rfl)
       | some j =>
        have : Er s = none := by
         rw [← hR.good]; refine N_ f k _ c h0 (i := j) (o := (Dg p2.1 8).bind fun n => Cr 200 n p2.2) ?_ (by rw [hfx] at hfi; simp only at hfi; omega); rw [hF, hfx, Option.bind_some]; cases Dg p2.1 8 <;> rfl
        unfold CX; rw [this]
      rw [hq] at hK; simp (maxSteps := 1000000) (disch := omega) [go_sem, u2, u4, u5, u6, u8, u9, u10, u11, u12', u13, bdP, o0, hb2, hfk]; exact AX (J := H) (hR.ext.set (Nat.le_refl _) _).Bp (.tu2 (by rw [BG]; exact Fz.Gg 8) (.same (.v _))) hK
     ·obtain ⟨j, hfx⟩ : ∃ j, CU p1.1 = some j := by
       cases hfx : CU p1.1 with
       | none => rw [hfx] at hfi; simp only at hfi; omega
       | some j => exact ⟨j, rfl⟩
      have hfj : fi = j := by rw [hfi, hfx]
      have hj8 := Ho hfx; have hkj : k ≤ j := by omega
      cases hN : Dg p2.1 8 with
      | none =>
       have hq : CX s = (B3, false) := badQ (by rw [hF, hfx, Option.bind_some, hN]; rfl); rw [hq] at hK; simp (maxSteps := 1000000) (disch := omega) [go_sem, u2, u4, u5, u6, u8, u9, u10, u11, u12', u13, bdP, o0, hb2, hfk, hN]; exact AX (J := H) (hR.ext.set (Nat.le_refl _) _).Bp (.tu2 (by rw [BG]; exact Fz.Gg 8) (.same (.v _))) hK
      | some n =>
       obtain ⟨hn1, hn2, _⟩ := B_.1 hN; subst hfj; have hn0 : ¬ n = 0 := by omega
       have hjc : j < c.length := by omega
       have hset : c.set j [] = c := by
        have h3 := hR.zero j hkj; rw [List.getD_eq_getElem?_getD, List.getElem?_eq_getElem hjc] at h3; have h3 : c[j] = [] := h3; rw [← h3, List.set_getElem_self]
       simp (maxSteps := 1000000) (disch := omega) [go_sem, u2, u4, u5, u6, u8, u9, u10, u11, u12', u13, hb2, hfk, hN, hn0]; refine B5 (fun tm3 H3 => ∃ (i2 : Nat) (l : Str) (C' : List IV) (acc : List Str), tm3 2 = .p H.next 0 ∧ tm3 4 = .p (H.next + 1) 0 ∧ tm3 5 = .v (.int .i64 (j : Nat)) ∧ tm3 10 = .v (str l) ∧ tm3 12 = .v (.int .i64 (j : Nat)) ∧ tm3 14 = .v (.int .i64 n) ∧ tm3 15 = .v (.int .i64 i2) ∧ i2 ≤ n ∧ fE H H3 c j n i2 p2.2 l C' acc) (fun tm3 _ => n - (intOf (tm3 15)).toNat) (.same ?_) ?_
       ·refine ⟨0, p2.2, C, [], by simp [go_sem, u2], by simp [go_sem, u4], by simp [go_sem], by simp [go_sem, u10], by simp [go_sem, u12'], by simp [go_sem], by simp [go_sem], by omega, o0, o1, hR.ext, hR.nx, by rw [hset]; exact hR.rows, Nat.le_refl _, rfl, fun v hv => by simp at hv, by simp⟩
       rintro I3 μ3 hI3 hμ3 tm3 H3 ⟨i2, l, C', acc, w2, w4, w5, w10, w12, w14, w15, hi2, hJ⟩
       have p1' := hJ.o1; have p0 := hJ.o0; have hCl : C'.length = 8 := by rw [hJ.rows.len, List.length_set, c8]
       have hjC : j < C'.length := by omega
       have hal := hJ.al; refine AA _ (by kernel_rfl) _ _ _ ?_; simp (maxSteps := 1000000) (disch := omega) [go_sem, w2, w4, w5, w10, w12, w14, w15]; refine Bw ?_ ?_ <;> intro hc4 <;> (try simp at hc4)
       ·obtain ⟨lg, mo, b3, e4, l4, m4, c4⟩ := Zz l 32 (by have := hJ.len; have := hR.lens; omega); rw [show (((32 : UInt8).toNat : Nat) : Int) = 32 from rfl] at e4
        have hbad : Hl 200 l = none → CX s = (B3, false) := fun h => badQ (by
          have e1 : n - i2 = (n - (i2 + 1)) + 1 := by omega
          have hg := hJ.good
          rw [e1, Cr, h] at hg
          rw [hF, hfx, Option.bind_some, hN, Option.bind_some, hg]
          rfl)
        simp (maxSteps := 1000000) (disch := omega) [go_sem, w2, w4, w5, w10, w12, w14, w15]; refine MG l 32 e4 ?_; simp (maxSteps := 1000000) (disch := omega) [go_sem, w2, w4, w5, w10, w12, w14, w15]; have e5 := Q9 lg 200 (by omega); rw [show ((200 : Nat) : Int) = 200 from rfl] at e5; refine Q2 lg 200 e5 ?_; simp (maxSteps := 1000000) (disch := omega) [go_sem, w2, w4, w5, w10, w12, w14, w15]; cases hb3 : b3 with
        | false =>
         have hq : CX s = (B3, false) := hbad (by
           unfold Hl
           cases h1 : AP l 32 with
           | none => rfl
           | some p => rw [h1] at c4; rw [c4.2.2] at hb3; cases hb3)
         rw [hq] at hK; simp (maxSteps := 1000000) (disch := omega) [go_sem, w2, w4, w5, w10, w12, w14, w15, bdP, p0, hb3]; exact AX (J := H) (hJ.ext.set (Nat.le_refl _) _).Bp (.tu2 (by rw [BG]; exact Fz.Gg 8) (.same (.v _))) hK
        | true =>
         obtain ⟨p3, hp3⟩ : ∃ p, AP l 32 = some p := by
          cases h1 : AP l 32 with
          | none => rw [h1] at c4; rw [c4] at hb3; cases hb3
          | some p => exact ⟨p, rfl⟩
         rw [hp3] at c4; obtain ⟨rfl, rfl, _⟩ := c4; cases hM : Dg p3.1 200 with
         | none =>
          have hq : CX s = (B3, false) := hbad (by unfold Hl; rw [hp3, Option.bind_some, hM]; rfl); rw [hq] at hK; simp (maxSteps := 1000000) (disch := omega) [go_sem, w2, w4, w5, w10, w12, w14, w15, bdP, p0, hb3, hM]; exact AX (J := H) (hJ.ext.set (Nat.le_refl _) _).Bp (.tu2 (by rw [BG]; exact Fz.Gg 8) (.same (.v _))) hK
         | some kk =>
          obtain ⟨hk1, hk2, _⟩ := B_.1 hM; have hkk : ¬ kk = 0 := by omega
          by_cases hlen : p3.2.length ≤ kk
          ·have hq : CX s = (B3, false) := hbad (by unfold Hl; rw [hp3, Option.bind_some, hM, Option.bind_some, if_neg (by omega)]); rw [hq] at hK; simp (maxSteps := 1000000) (disch := omega) [go_sem, w2, w4, w5, w10, w12, w14, w15, bdP, p0, hb3, hM, hkk, hlen]; exact AX (J := H) (hJ.ext.set (Nat.le_refl _) _).Bp (.tu2 (by rw [BG]; exact Fz.Gg 8) (.same (.v _))) hK
          ·have hgt : kk < p3.2.length := by omega
           have hg10 : p3.2.getD kk 0 = p3.2[kk] := Gu hgt; by_cases h10 : p3.2[kk] = 10
           ·have hv : Hl 200 l = some (p3.2.take kk, p3.2.drop (kk + 1)) := by
             unfold Hl; rw [hp3, Option.bind_some, hM, Option.bind_some, if_pos ⟨hgt, by rw [hg10]; exact h10⟩]
            simp (maxSteps := 1000000) (disch := omega) [go_sem, w2, w4, w5, w10, w12, w14, w15, hb3, hM, hkk, hlen, h10]; have nx2 := hJ.nx; have hfi : j < (c.set j acc).length := by rw [List.length_set]; exact hjc
            have hself : (c.set j acc)[j]'hfi = acc := List.getElem_set_self _; have hkle : kk ≤ p3.2.length := by omega
            have hc3l := Cl (a := p3.1) (b := p3.2) hp3; have hle := hJ.len; have hls := hR.lens; have eS : ∀ a : List Str, (c.set j acc).set j a = c.set j a := fun a => List.set_set _; have nxt : ∀ (J : A2) (C'' : List IV), J.obj H.next = some (.cells CW) → J.obj (H.next + 1) = some (.cells C'') → Ext H J → H.next + 2 ≤ J.next → C4 J (H.next + 2) C'' (c.set j (acc ++ [p3.2.take kk])) → fE H J c j n (i2 + 1) p2.2 (p3.2.drop (kk + 1)) C'' (acc ++ [p3.2.take kk]) := fun J C'' q0 q1 q2 q3 q4 => by
             refine ⟨q0, q1, q2, q3, q4, by simp; omega, by simp [hal], fun v hv' => ?_, ?_⟩
             ·rcases List.mem_append.1 hv' with hv' | hv'
              ·exact hJ.av v hv'
              ·rw [List.mem_singleton.1 hv']; simp; omega
             ·have e1 : n - i2 = (n - (i2 + 1)) + 1 := by omega
              rw [hJ.good, e1, Cr, hv]; simp only [Option.bind_some]; cases Cr 200 (n - (i2 + 1)) (p3.2.drop (kk + 1)) with
              | none => rfl
              | some q => simp
            have eC : ∀ y : IV, List.take j C' ++ y :: List.drop (j + 1) C' = C'.set j y := fun y => by rw [List.set_eq_take_append_cons_drop, if_pos hjC]
            rcases hJ.rows.at hfi with ⟨hC, hc0⟩ | ⟨nr, q1, q2, hC, q4⟩
            ·rw [hself] at hc0; have hCe : C'[j]'hjC = .v (.slice none 0 0) := by rw [List.getElem?_eq_getElem hjC] at hC; exact Option.some.inj hC
             have n0 : ¬ H.next = H3.next := by omega
             have n1 : ¬ H.next + 1 = H3.next := by omega
             have n3 : ¬ H3.next = H.next + 1 := by omega
             refine Bn [0, 1, 2, 3, 4, 5, 6, 7, 8, 9, 10] (by kernel_rfl) (by kernel_rfl) (fun _ _ _ _ h => h) ?_; simp (maxSteps := 1000000) (disch := omega) [go_sem, w2, w4, w5, w10, w12, w14, w15, p1', hCl, hCe, n0, n1, hkle]; refine .of hI3 hμ3 ⟨i2 + 1, p3.2.drop (kk + 1), C'.set j (.os H3.next 1), acc ++ [p3.2.take kk], by simp [go_sem, w2], by simp [go_sem, w4], by simp [go_sem, w5], by simp [go_sem], by simp [go_sem, w12], by simp [go_sem, w14], by simp [go_sem], by omega, ?_⟩ (by simp [go_sem, w15]; omega); refine nxt _ _ (by simp [go_sem, p0, n0, CW]) (by simp [go_sem, eC]) ((hJ.ext.new _).set (by omega) _) (by simp [go_sem]; omega) ?_; rw [hc0, List.nil_append, ← eS [p3.2.take kk]]; refine hJ.rows.Ih hfi (by rw [hself]; exact hc0) (by omega) (Nat.le_refl _) (by simp [go_sem]) (by simp [go_sem]) (fun q o hq hq' e => ?_) (by simp [go_sem, n3]); have m1 : ¬ q = H.next + 1 := by omega
             have m3 : ¬ q = H3.next := by omega
             simp [go_sem, m1, m3, e]
            ·rw [hself] at hC q4; have hCe : C'[j]'hjC = .os nr acc.length := by rw [List.getElem?_eq_getElem hjC] at hC; exact Option.some.inj hC
             have n0 : ¬ H.next = nr := by omega
             have n1 : ¬ H.next + 1 = nr := by omega
             have n3 : ¬ nr = H.next + 1 := by omega
             refine Bn [0, 1, 2, 3, 4, 5, 6, 7, 8, 9, 10] (by kernel_rfl) (by kernel_rfl) (fun _ _ _ _ h => h) ?_; simp (maxSteps := 1000000) (disch := omega) [go_sem, w2, w4, w5, w10, w12, w14, w15, p1', hCl, hCe, q4, n0, n1, n3, hkle]; refine .of hI3 hμ3 ⟨i2 + 1, p3.2.drop (kk + 1), C'.set j (.os nr (acc.length + 1)), acc ++ [p3.2.take kk], by simp [go_sem, w2], by simp [go_sem, w4], by simp [go_sem, w5], by simp [go_sem], by simp [go_sem, w12], by simp [go_sem, w14], by simp [go_sem], by omega, ?_⟩ (by simp [go_sem, w15]; omega); refine nxt _ _ (by simp [go_sem, p0, n0, CW]) (by simp [go_sem, eC]) ((hJ.ext.set (by omega) _).set (by omega) _) (by simp [go_sem]; omega) ?_; have el : (acc ++ [p3.2.take kk]).length = acc.length + 1 := by simp
             rw [← eS (acc ++ [p3.2.take kk]), ← el]; refine hJ.rows.Ii hfi hC (by simp [go_sem]) (fun q o hq hq' hne e => ?_) (by simp [go_sem, n3]); have m1 : ¬ q = H.next + 1 := by omega
             simp [go_sem, m1, hne, e]
           ·have hq : CX s = (B3, false) := hbad (by unfold Hl; rw [hp3, Option.bind_some, hM, Option.bind_some, if_neg (fun e => h10 (by rw [← hg10]; exact e.2))]); have h10' : ¬ (p3.2[kk].toNat : Int) = 10 := fun e => h10 (Il.1 e); rw [hq] at hK; simp (maxSteps := 1000000) (disch := omega) [go_sem, w2, w4, w5, w10, w12, w14, w15, bdP, p0, hb3, hM, hkk, hlen, h10']; exact AX (J := H) (hJ.ext.set (Nat.le_refl _) _).Bp (.tu2 (by rw [BG]; exact Fz.Gg 8) (.same (.v _))) hK
       ·simp (maxSteps := 1000000) (disch := omega) [go_sem, w2, w4, w5, w10, w12, w14, w15]; have hin : i2 = n := by omega
        subst hin; have hg := hJ.good; rw [Nat.sub_self] at hg; have hle := hJ.len; obtain ⟨f', rfl⟩ : ∃ f', f = f' + 1 := ⟨f - 1, by have : 0 < fs.length := List.length_pos_iff.2 h0; have := hR.len; omega⟩; have hF' : Hp fs = some (j, acc, l) := by rw [hF, hfx, Option.bind_some, hN, Option.bind_some, hg]; simp [Cr]
        have hcon : E0 f' (j + 1) l (c.set j acc) = Er s := by
         rw [← hR.good]; exact (LG f' k _ c h0 hF' hkj).symm
        refine .of hI hμ ⟨l, C', c.set j acc, j + 1, f', by simp [go_sem, w10], by simp [go_sem, w2], by simp [go_sem, w4], by simp [go_sem, w5], ⟨p0, p1', hJ.ext, hJ.nx, hJ.rows, by omega, by have := hR.len; omega, by have := hR.lens; omega, ⟨by simp [c8], fun m hm => ?_⟩, fun q hq => ?_, hcon⟩⟩ ?_
        ·rcases List.mem_or_eq_of_mem_set hm with hm | rfl
         ·exact hR.small.2 m hm
         ·exact ⟨by omega, fun v hv => by have := hJ.av v hv; omega⟩
        ·have := hR.zero q (by omega); rw [List.getD_eq_getElem?_getD] at this ⊢; rw [List.getElem?_set_ne (by omega)]; exact this
        ·simp only [go_sem, w10, t0, if_true, ZA]; omega
end Go.Idl
namespace Go.Idl
open Go Go.Proofs.Tryz Go.RowKit
variable {H : A2} {K : Au → A2 → Prop}
noncomputable def F66 (s : List UInt8) : Option (List (List (List UInt8)) × Int) := gd ((s.length : Int) ≤ 1000000000) (some (Gv s))
theorem U6 (s : List UInt8) (hV : VOK prog H) {r : List (List (List UInt8)) × Int} (h : F66 s = some r) (hK : K (.ret (.tu [cS r.1, .v (.int .i64 r.2)])) H) : Aa prog 66 [.v (str s)] H K := by
 obtain ⟨h0, h⟩ := Ad.1 h; cases h; exact Zy s (by omega) hV hK
noncomputable def F68 (s : List UInt8) : Option (List (List (List UInt8)) × Bool) := gd ((s.length : Int) ≤ 1000000000) (some (CX s))
theorem U7 (s : List UInt8) {r : List (List (List UInt8)) × Bool} (h : F68 s = some r) (hK : K (.ret (.tu [cS r.1, .v (.bool r.2)])) H) : Aa prog 68 [.v (str s)] H K := by
 obtain ⟨h0, h⟩ := Ad.1 h; cases h; exact fF s (by omega) hK
end Go.Idl
namespace Go.Idl
set_option maxHeartbeats 8000000
set_option pp.deepTerms false
set_option maxRecDepth 60000
open Go Go.Proofs.Tryz
structure AI where
 fs : List UInt8
 fat : Int
deriving DecidableEq
def AI.zero : AI := ⟨[], 0⟩
noncomputable def IZ (a0 : AI) : Option (Int × Bool) :=
 if (a0.fs.length : Int) ≤ a0.fat then (some (0, false)) else (gd (0 ≤ a0.fat ∧ a0.fat < a0.fs.length) (some ((((a0.fs.getD a0.fat.toNat 0).toNat : Int), true))))
theorem Dw {H : A2} {K : Au → A2 → Prop} (a0 : AI) (ka0 : Nat) (Ar : H.obj ka0 = some (.cells ([.v (str a0.fs), .v (.int .i64 a0.fat)]))) {r : Int × Bool} (h : IZ a0 = some r) (hK : K (.ret (.tu [.v (.int .u8 r.1), .v (.bool r.2)])) H) : Aa prog 137 [.p ka0 0] H K := by
 refine Ag (N := 23) func137 (by kernel_rfl) rfl (by kernel_rfl) (by kernel_rfl) fun cb hcb hw hbd hnb => ?_; clear hbd hnb; subst hcb; unfold IZ at h; have DZ : ka0 < H.next := Nat.lt_of_not_le fun q => by rw [hw _ q] at Ar; cases Ar
 refine wG ?_; refine A3 fun cb hc2 => ?_; refine A3 fun cb hc3 => ?_; refine AB [] [0, 1, 2, 3, 4, 5, 6, 7, 8, 9] (by kernel_rfl) (by kernel_rfl) (fun _ _ _ _ h => h) ?_; refine sF Ar ?_; subst hc3; refine A8 h eA rfl ?_ ?_
 ·intro c4 h; refine wG ?_; refine vO ?_; obtain rfl := sI h; refine sG ?_; exact Ap (.refl hw) hK
 intro c4 h; simp (disch := omega) at c4; refine vO ?_; subst hc2; refine A3 fun cb hc6 => ?_; refine AB [] [0, 1, 2, 3, 4, 5, 6, 7, 8, 9, 10] (by kernel_rfl) (by kernel_rfl) (fun _ _ _ _ h => h) ?_; obtain ⟨g7, h⟩ := Ad.1 h; refine sF Ar ?_; subst hc6; refine vO ?_; obtain rfl := sI h; refine sG ?_; exact Ap (.refl hw) hK
noncomputable def Hr (a0 : AI) (v10 : AI) : Option (Except Unit ((List UInt8) × AI)) :=
 gd (0 ≤ a0.fat) (gd (a0.fat ≤ v10.fat) (gd (v10.fat ≤ v10.fs.length) ((IZ v10).bind fun (x16 : Int × Bool) => if x16.2 = true then ((F80 ((v10.fs.take v10.fat.toNat).drop a0.fat.toNat)).bind fun (x18 : Bool) => if x18 = true then ((F81 ((v10.fs.take v10.fat.toNat).drop a0.fat.toNat)).bind fun (x22 : (List UInt8)) => some ((.ok ((x22, (⟨v10.fs, IntKind.i64.wrap (v10.fat + 1)⟩ : AI)))))) else (some (.error ()))) else (some (.error ())))))
noncomputable def Dx (v7 : Int) (v8 : Bool) (v9 : AI) : Option ((Int × Bool × AI) ⊕ AI) :=
 if v8 = true then (if ¬ v7 = 61 then ((IZ ((⟨v9.fs, IntKind.i64.wrap (v9.fat + 1)⟩ : AI))).bind fun (x28 : Int × Bool) => some (.inl ((x28.1, x28.2, (⟨v9.fs, IntKind.i64.wrap (v9.fat + 1)⟩ : AI))))) else (some (.inr v9))) else (some (.inr v9))
noncomputable def U8 (a0 : AI) : Option (Except Unit ((List UInt8) × AI)) :=
 (IZ a0).bind fun (x5 : Int × Bool) => (AD (fun (s : Int × Bool × AI) => Dx s.1 s.2.1 s.2.2) (x5.1, x5.2, a0)).bind fun (e : AI) => Hr a0 e
theorem Wl {H : A2} {K : Au → A2 → Prop} (a0 : AI) (ka0 : Nat) (Ar : H.obj ka0 = some (.cells ([.v (str a0.fs), .v (.int .i64 a0.fat)]))) {r : Except Unit ((List UInt8) × AI)} (h : U8 a0 = some r) (hP : ∀ e, r = .error e → K (.pan (Gq e)) (H.del ka0)) (hK : ∀ v : (List UInt8) × AI, r = .ok v → K (.ret (.v (str v.1))) (BE H [(ka0, .cells ([.v (str v.2.fs), .v (.int .i64 v.2.fat)]))])) : Aa prog 134 [.p ka0 0] H K := by
 refine Ag (N := 65) func134 (by kernel_rfl) rfl (by kernel_rfl) (by kernel_rfl) fun cb hcb hw hbd hnb => ?_; clear hbd hnb; subst hcb; unfold U8 at h; have DZ : ka0 < H.next := Nat.lt_of_not_le fun q => by rw [hw _ q] at Ar; cases Ar
 refine wG ?_; refine wF Ar ?_; refine A3 fun cb hc3 => ?_; refine A3 fun cb hc4 => ?_; refine vG ?_; obtain ⟨x5, hx5, h⟩ := A4 h; refine Dw a0 ka0 (by assumption) hx5 ?_; refine sG ?_; subst hc4; obtain ⟨y6, hl6q, hk6⟩ := A4 h; refine AF (fun tm' H' => ∃ v10 : AI, v10 = y6 ∧ Ext (H.del ka0) H' ∧ H.next ≤ H'.next ∧ tm' 0 = .p ka0 0 ∧ tm' 3 = .v (.int .i64 a0.fat) ∧ H'.obj ka0 = some (.cells ([.v (str v10.fs), .v (.int .i64 v10.fat)]))) ?_ fun cb hc6 => ?_
 ·rintro tm6e H6e ⟨v10, rfl, he6e, hl6e, t0_6e, t3_6e, ob0_6e⟩
  have h : Hr a0 v10 = some r := hk6; unfold Hr at h; simp -implicitDefEqProofs only [go_sem]; subst hc3; refine A3 fun cb hc11 => ?_; refine AB [] [0, 1, 2, 3, 4, 5, 6, 7, 8, 9, 10] (by kernel_rfl) (by kernel_rfl) (fun _ _ _ _ h => h) ?_; obtain ⟨g12, h⟩ := Ad.1 h; obtain ⟨g13, h⟩ := Ad.1 h; obtain ⟨g14, h⟩ := Ad.1 h; refine sF (nd t0_6e (nd t3_6e ob0_6e)) ?_; subst hc11; refine A3 fun cb hc15 => ?_; refine vF t0_6e ?_; obtain ⟨x16, hx16, h⟩ := A4 h; refine Dw v10 ka0 (by assumption) hx16 ?_; refine sG ?_; subst hc15; refine A3 fun cb hc17 => ?_; refine vG ?_; refine A6 h eA ?_ ?_
  ·intro c23 h; refine sG ?_; obtain ⟨x18, hx18, h⟩ := A4 h; refine Ti ((v10.fs.take v10.fat.toNat).drop a0.fat.toNat) hx18 ?_; refine sG ?_; refine Aa.eqA (args' := [.v (.bool x18)]) rfl ?_; by_cases m19 : ¬ (x18 = true)
   ·rw [if_neg m19] at h; refine C8  (by simpa using m19) ?_; simp (disch := omega) at m19; obtain rfl := sI h; refine sG ?_; exact Fb (by exact EK he6e) ((Dl.refl _).del ka0) (hP _ rfl)
   have m19 := Classical.not_not.1 m19; rw [if_pos m19] at h; refine Gr  (by simpa using m19) ?_; refine sG ?_; subst hc17; refine wF (nd t0_6e ob0_6e) ?_; refine A3 fun cb hc21 => ?_; refine vG ?_; obtain ⟨x22, hx22, h⟩ := A4 h; refine T6 ((v10.fs.take v10.fat.toNat).drop a0.fat.toNat) hx22 ?_; refine sG ?_; subst hc21; refine vO ?_; obtain rfl := sI h; refine sG ?_; refine Aq (r' := .v (str x22)) (io1 ka0 (.cells ([.v (str v10.fs), .v (.int .i64 (IntKind.i64.wrap (v10.fat + 1)))])) (by exact As he6e) (by omega) (by simp -implicitDefEqProofs (disch := omega) [go_sem]) (by exact Bz)) rfl (.same (by exact nbA)) (hK _ rfl)
  intro c23 h; simp (disch := omega) at c23; refine sG ?_; refine C8  rfl ?_; obtain rfl := sI h; refine sG ?_; exact Fb (by exact EK he6e) ((Dl.refl _).del ka0) (hP _ rfl)
 refine Ah ?_; refine Az (fun (s : Int × Bool × AI) tm' H' => Ext (H.del ka0) H' ∧ H.next ≤ H'.next ∧ tm' 0 = .p ka0 0 ∧ tm' 3 = .v (.int .i64 a0.fat) ∧ tm' 4 = .v (.int .u8 s.1) ∧ tm' 5 = .v (.bool s.2.1) ∧ H'.obj ka0 = some (.cells ([.v (str s.2.2.fs), .v (.int .i64 s.2.2.fat)]))) hl6q ?_ ?_
 ·refine .same ⟨by exact As (Ext.AW (Ext.refl hw) ka0), by omega, ?_, ?_, ?_, ?_, ?_⟩ <;> first | with_reducible assumption | (simp -implicitDefEqProofs (disch := omega) [go_sem] <;> omega)
 rintro I6 hI6 ⟨v7, v8, v9⟩ x6 tm6 H6 ⟨he6, hl6, Ky, KX, O0, Rs, Dd⟩ h hret6
 replace h : Dx v7 v8 v9 = some x6 := h; unfold Dx at h; refine A3 fun cb hc24 => ?_; refine A3 fun cb hc25 => ?_; refine vF Rs ?_; refine A6 h eA ?_ ?_
 ·intro c29 h; refine sF O0 ?_; subst hc25; refine A8 h eA rfl ?_ ?_
  ·intro c26 h; refine vO ?_; subst hc24; refine A3 fun cb hc27 => ?_; refine Ah ?_; refine vF (nd Ky Dd) ?_; subst hc27; refine vF Ky ?_; obtain ⟨x28, hx28, h⟩ := A4 h; refine Dw ((⟨v9.fs, IntKind.i64.wrap (v9.fat + 1)⟩ : AI)) ka0 eA hx28 ?_; refine sG ?_; obtain rfl := sI h; refine Aj hI6 ((x28.1, x28.2, (⟨v9.fs, IntKind.i64.wrap (v9.fat + 1)⟩ : AI))) ?_; refine .same ⟨by exact As he6, by (simp -implicitDefEqProofs (disch := omega) [go_sem] <;> omega), ?_, ?_, ?_, ?_, ?_⟩ <;> (simp -implicitDefEqProofs (disch := omega) [go_sem, Ky, KX] <;> omega)
  intro c26 h; simp (disch := omega) at c26; refine vO ?_; obtain rfl := sI h; have hy6 := hret6 _ rfl; refine hc6 _ _ ?_; refine .same ⟨v9, hy6, by exact As he6, by with_reducible assumption, ?_, ?_, ?_⟩ <;> first | with_reducible assumption | (simp -implicitDefEqProofs (disch := omega) [go_sem, Ky, KX] <;> omega)
 intro c29 h; simp (disch := omega) at c29; refine sG ?_; subst hc25; refine Al eA rfl ?_; refine vO ?_; obtain rfl := sI h; have hy6 := hret6 _ rfl; refine hc6 _ _ ?_; refine .same ⟨v9, hy6, by exact As he6, by with_reducible assumption, ?_, ?_, ?_⟩ <;> first | with_reducible assumption | (simp -implicitDefEqProofs (disch := omega) [go_sem, Ky, KX] <;> omega)
noncomputable def O1 (a0 : Int) : Option Int :=
 (FK a0 48 57).bind fun (x4 : Bool) => if x4 = true then (some (IntKind.u8.wrap (a0 - 48))) else ((FK a0 97 102).bind fun (x8 : Bool) => if x8 = true then (some (IntKind.u8.wrap ((IntKind.u8.wrap (a0 - 97)) + 10))) else ((FK a0 65 70).bind fun (x12 : Bool) => if x12 = true then (some (IntKind.u8.wrap ((IntKind.u8.wrap (a0 - 65)) + 10))) else (some 16)))
theorem Jd {H : A2} {K : Au → A2 → Prop} (a0 : Int) {r : Int} (h : O1 a0 = some r) (hK : K (.ret (.v (.int .u8 r))) H) : Aa prog 183 [.v (.int .u8 a0)] H K := by
 refine Ag (N := 20) func183 (by kernel_rfl) rfl (by kernel_rfl) (by kernel_rfl) fun cb hcb hw hbd hnb => ?_; clear hbd hnb; subst hcb; unfold O1 at h; refine wG ?_; refine A3 fun cb hc2 => ?_; refine Ah ?_; refine A3 fun cb hc3 => ?_; refine vG ?_; obtain ⟨x4, hx4, h⟩ := A4 h; refine Fu a0 48 57 hx4 ?_; refine sG ?_; subst hc3; refine A8 h eA rfl ?_ ?_
 ·intro c5 h; refine wG ?_; refine vO ?_; obtain rfl := sI h; refine sG ?_; exact Ap (.refl hw) hK
 intro c5 h; simp (disch := omega) at c5; refine A3 fun cb hc7 => ?_; refine vG ?_; obtain ⟨x8, hx8, h⟩ := A4 h; refine Fu a0 97 102 hx8 ?_; refine sG ?_; subst hc7; refine A8 h eA rfl ?_ ?_
 ·intro c9 h; refine wG ?_; refine vO ?_; obtain rfl := sI h; refine sG ?_; exact Ap (.refl hw) hK
 intro c9 h; simp (disch := omega) at c9; refine A3 fun cb hc11 => ?_; refine vG ?_; obtain ⟨x12, hx12, h⟩ := A4 h; refine Fu a0 65 70 hx12 ?_; refine sG ?_; subst hc11; refine A8 h eA rfl ?_ ?_
 ·intro c13 h; refine wG ?_; refine vO ?_; obtain rfl := sI h; refine sG ?_; exact Ap (.refl hw) hK
 intro c13 h; simp (disch := omega) at c13; refine vO ?_; subst hc2; refine wG ?_; refine vO ?_; obtain rfl := sI h; refine sG ?_; exact Ap (.refl hw) hK
noncomputable def Rt (a0 : AI) : Option (Except Unit (Int × AI)) :=
 (IZ a0).bind fun (x3 : Int × Bool) => if x3.2 = true then ((P0 ).bind fun (x9 : (List (Int × Bool))) => if (B8 x9 x3.1).getD false = true then (some ((.ok ((x3.1, (⟨a0.fs, IntKind.i64.wrap (a0.fat + 1)⟩ : AI)))))) else (if x3.1 = 32 then (some ((.ok ((x3.1, (⟨a0.fs, IntKind.i64.wrap (a0.fat + 1)⟩ : AI)))))) else (if x3.1 = 35 then (some ((.ok ((x3.1, (⟨a0.fs, IntKind.i64.wrap (a0.fat + 1)⟩ : AI)))))) else ((IZ ((⟨a0.fs, IntKind.i64.wrap (a0.fat + 1)⟩ : AI))).bind fun (x15 : Int × Bool) => if x15.2 = true then ((O1 x3.1).bind fun (x17 : Int) => if x17 < 16 then ((O1 x15.1).bind fun (x18 : Int) => if x18 < 16 then ((O1 x3.1).bind fun (x22 : Int) => (O1 x15.1).bind fun (x23 : Int) => some ((.ok ((orI .u8 (IntKind.u8.wrap (x22 * 16)) x23, (⟨a0.fs, IntKind.i64.wrap ((IntKind.i64.wrap (a0.fat + 1)) + 1)⟩ : AI)))))) else (some (.error ()))) else (some (.error ()))) else (some (.error ())))))) else (some (.error ()))
theorem Wm {H : A2} {K : Au → A2 → Prop} (a0 : AI) (ka0 : Nat) (Ar : H.obj ka0 = some (.cells ([.v (str a0.fs), .v (.int .i64 a0.fat)]))) {r : Except Unit (Int × AI)} (h : Rt a0 = some r) (hP : ∀ e, r = .error e → K (.pan (Gq e)) (H.del ka0)) (hK : ∀ v : Int × AI, r = .ok v → K (.ret (.v (.int .u8 v.1))) (BE H [(ka0, .cells ([.v (str v.2.fs), .v (.int .i64 v.2.fat)]))])) : Aa prog 157 [.p ka0 0] H K := by
 refine Ag (N := 62) func157 (by kernel_rfl) rfl (by kernel_rfl) (by kernel_rfl) fun cb hcb hw hbd hnb => ?_; clear hbd hnb; subst hcb; unfold Rt at h; have DZ : ka0 < H.next := Nat.lt_of_not_le fun q => by rw [hw _ q] at Ar; cases Ar
 refine wG ?_; refine A3 fun cb hc2 => ?_; refine vG ?_; obtain ⟨x3, hx3, h⟩ := A4 h; refine Dw a0 ka0 (by assumption) hx3 ?_; refine sG ?_; subst hc2; refine A3 fun cb hc4 => ?_; refine vG ?_; refine Aa.eqA (args' := [.v (.bool x3.2)]) rfl ?_; by_cases m5 : ¬ (x3.2 = true)
 ·rw [if_neg m5] at h; refine C8  (by simpa using m5) ?_; simp (disch := omega) at m5; obtain rfl := sI h; refine sG ?_; exact Fb (by exact EK (Ext.AW (Ext.refl hw) ka0)) ((Dl.refl _).del ka0) (hP _ rfl)
 have m5 := Classical.not_not.1 m5; rw [if_pos m5] at h; refine Gr  (by simpa using m5) ?_; refine sG ?_; subst hc4; refine wF Ar ?_; refine A3 fun cb hc7 => ?_; refine A3 fun cb hc8 => ?_; refine vG ?_; obtain ⟨x9, hx9, h⟩ := A4 h; refine Mo  hx9 ?_; have hmL181 := @OK _ .u8 (fun (x : Bool) => .v (.bool x)); have hmF181 := fun o => La (fun (x : Bool) => .v (.bool x)) false (z := .v (.bool false)) (o := o) (by rfl); refine sF (nd @hmL181 @hmF181) ?_; refine A6 h eA ?_ ?_
 ·intro c27 h; refine sG ?_; subst hc8; refine Ai eA rfl ?_; refine wG ?_; refine vO ?_; obtain rfl := sI h; refine sG ?_; refine Aq (r' := .v (.int .u8 x3.1)) (io1 ka0 (.cells ([.v (str a0.fs), .v (.int .i64 (IntKind.i64.wrap (a0.fat + 1)))])) (by exact As (Ext.AW (Ext.refl hw) ka0)) (by omega) (by simp -implicitDefEqProofs (disch := omega) [go_sem]) (by exact Bz)) rfl (.same (by exact nbA)) (hK _ rfl)
 intro c27 h; simp (disch := omega) at c27; refine sG ?_; refine A6 h rfl ?_ ?_
 ·intro c26 h; refine sG ?_; subst hc8; refine Ai eA rfl ?_; refine wG ?_; refine vO ?_; obtain rfl := sI h; refine sG ?_; refine Aq (r' := .v (.int .u8 x3.1)) (io1 ka0 (.cells ([.v (str a0.fs), .v (.int .i64 (IntKind.i64.wrap (a0.fat + 1)))])) (by exact As (Ext.AW (Ext.refl hw) ka0)) (by omega) (by simp -implicitDefEqProofs (disch := omega) [go_sem]) (by exact Bz)) rfl (.same (by exact nbA)) (hK _ rfl)
 intro c26 h; refine sG ?_; subst hc8; refine A8 h eA rfl ?_ ?_
 ·intro c12 h; refine wG ?_; refine vO ?_; obtain rfl := sI h; refine sG ?_; refine Aq (r' := .v (.int .u8 x3.1)) (io1 ka0 (.cells ([.v (str a0.fs), .v (.int .i64 (IntKind.i64.wrap (a0.fat + 1)))])) (by exact As (Ext.AW (Ext.refl hw) ka0)) (by omega) (by simp -implicitDefEqProofs (disch := omega) [go_sem]) (by exact Bz)) rfl (.same (by exact nbA)) (hK _ rfl)
 intro c12 h; refine vO ?_; subst hc7; refine A3 fun cb hc14 => ?_; refine vG ?_; obtain ⟨x15, hx15, h⟩ := A4 h; refine Dw ((⟨a0.fs, IntKind.i64.wrap (a0.fat + 1)⟩ : AI)) ka0 eA hx15 ?_; refine sG ?_; subst hc14; refine A3 fun cb hc16 => ?_; refine vG ?_; refine A6 h eA ?_ ?_
 ·intro c25 h; refine sG ?_; obtain ⟨x17, hx17, h⟩ := A4 h; refine Jd x3.1 hx17 ?_; refine sG ?_; refine A6 h rfl ?_ ?_
  ·intro c24 h; refine sG ?_; obtain ⟨x18, hx18, h⟩ := A4 h; refine Jd x15.1 hx18 ?_; refine sG ?_; refine Aa.eqA (args' := [.v (.bool (decide (x18 < 16)))]) rfl ?_; by_cases m19 : ¬ (x18 < 16)
   ·rw [if_neg m19] at h; refine C8  (by simpa using m19) ?_; simp (disch := omega) at m19; obtain rfl := sI h; refine sG ?_; exact Fb (by exact EK (Ext.AW (Ext.refl hw) ka0)) ((Dl.refl _).del ka0) (hP _ rfl)
   have m19 := Classical.not_not.1 m19; rw [if_pos m19] at h; refine Gr  (by simpa using m19) ?_; refine sG ?_; subst hc16; refine wG ?_; refine A3 fun cb hc21 => ?_; refine vG ?_; obtain ⟨x22, hx22, h⟩ := A4 h; refine Jd x3.1 hx22 ?_; refine sG ?_; obtain ⟨x23, hx23, h⟩ := A4 h; refine Jd x15.1 hx23 ?_; refine sG ?_; subst hc21; refine vO ?_; obtain rfl := sI h; refine sG ?_; refine Aq (r' := .v (.int .u8 (orI .u8 (IntKind.u8.wrap (x22 * 16)) x23))) (io1 ka0 (.cells ([.v (str a0.fs), .v (.int .i64 (IntKind.i64.wrap ((IntKind.i64.wrap (a0.fat + 1)) + 1)))])) (by exact As (Ext.AW (Ext.refl hw) ka0)) (by omega) (by simp -implicitDefEqProofs (disch := omega) [go_sem]) (by exact Bz)) rfl (.same (by exact nbA)) (hK _ rfl)
  intro c24 h; simp (disch := omega) at c24; refine sG ?_; refine C8  rfl ?_; obtain rfl := sI h; refine sG ?_; exact Fb (by exact EK (Ext.AW (Ext.refl hw) ka0)) ((Dl.refl _).del ka0) (hP _ rfl)
 intro c25 h; simp (disch := omega) at c25; refine sG ?_; refine C8  rfl ?_; obtain rfl := sI h; refine sG ?_; exact Fb (by exact EK (Ext.AW (Ext.refl hw) ka0)) ((Dl.refl _).del ka0) (hP _ rfl)
noncomputable def Hs (v15 : List UInt8) (v17 : Bool) (v18 : AI) : Option (Except Unit ((List UInt8) × AI)) :=
 if ¬ (v17 = true) then (if 1 ≤ (v15.length : Int) then (if (v15.length : Int) ≤ 200 then (some ((.ok (v15, v18)))) else (some (.error ()))) else (some (.error ()))) else (some (.error ()))
noncomputable def CQ (v12 : Int) (v28 : List UInt8) (v30 : AI) : Option (((List UInt8) × Bool × Bool × Int × Bool × AI) ⊕ (((List UInt8) × Bool × AI) ⊕ (Except Unit ((List UInt8) × AI)))) :=
 (IZ v30).bind fun (x31 : Int × Bool) => some (.inl ((v28, false, decide (v12 = 32), x31.1, x31.2, v30)))
noncomputable def CG (v8 : List UInt8) (v10 : Bool) (v11 : Bool) (v12 : Int) (v13 : Bool) (v14 : AI) : Option (((List UInt8) × Bool × Bool × Int × Bool × AI) ⊕ (((List UInt8) × Bool × AI) ⊕ (Except Unit ((List UInt8) × AI)))) :=
 if v13 = true then (if ¬ v12 = 44 then (if v12 = 92 then ((Rt ((⟨v14.fs, IntKind.i64.wrap (v14.fat + 1)⟩ : AI))).bind fun (x37 : Except Unit (Int × AI)) => orP x37 (fun (ex37 : Unit) => some (.inr (.inr (.error ex37)))) (fun (y38 : Int × AI) => gd (0 ≤ y38.1 ∧ y38.1 ≤ 255) (gd ((v8.length + ([UInt8.ofNat y38.1.toNat]).length) * 1 ≤ 140737488355328) (CQ v12 (v8 ++ ([UInt8.ofNat y38.1.toNat])) y38.2)))) else ((P0 ).bind fun (x42 : (List (Int × Bool))) => if ¬ ((B8 x42 v12).getD false = true) then (if 32 ≤ v12 then (if v12 ≤ 126 then (if ¬ (v10 = true) then (gd (0 ≤ v12 ∧ v12 ≤ 255) (gd ((v8.length + ([UInt8.ofNat v12.toNat]).length) * 1 ≤ 140737488355328) (CQ v12 (v8 ++ ([UInt8.ofNat v12.toNat])) ((⟨v14.fs, IntKind.i64.wrap (v14.fat + 1)⟩ : AI))))) else (if ¬ v12 = 32 then (if ¬ v12 = 35 then (gd (0 ≤ v12 ∧ v12 ≤ 255) (gd ((v8.length + ([UInt8.ofNat v12.toNat]).length) * 1 ≤ 140737488355328) (CQ v12 (v8 ++ ([UInt8.ofNat v12.toNat])) ((⟨v14.fs, IntKind.i64.wrap (v14.fat + 1)⟩ : AI))))) else (some (.inr (.inr (.error ()))))) else (some (.inr (.inr (.error ())))))) else (some (.inr (.inr (.error ()))))) else (some (.inr (.inr (.error ()))))) else (some (.inr (.inr (.error ())))))) else (some (.inr (.inl (v8, v11, v14))))) else (some (.inr (.inl (v8, v11, v14))))
noncomputable def Pm (a0 : AI) : Option (Except Unit ((List UInt8) × AI)) :=
 (IZ a0).bind fun (x6 : Int × Bool) => (AD (fun (s : (List UInt8) × Bool × Bool × Int × Bool × AI) => CG s.1 s.2.1 s.2.2.1 s.2.2.2.1 s.2.2.2.2.1 s.2.2.2.2.2) ([], true, false, x6.1, x6.2, a0)).bind fun y => Sum.elim (fun (e : (List UInt8) × Bool × AI) => Hs e.1 e.2.1 e.2.2) (fun (q : Except Unit ((List UInt8) × AI)) => some q) y
theorem Wn {H : A2} {K : Au → A2 → Prop} (a0 : AI) (ka0 : Nat) (Ar : H.obj ka0 = some (.cells ([.v (str a0.fs), .v (.int .i64 a0.fat)]))) {r : Except Unit ((List UInt8) × AI)} (h : Pm a0 = some r) (hP : ∀ e, r = .error e → K (.pan (Gq e)) (H.del ka0)) (hK : ∀ v : (List UInt8) × AI, r = .ok v → K (.ret (.v (str v.1))) (BE H [(ka0, .cells ([.v (str v.2.fs), .v (.int .i64 v.2.fat)]))])) : Aa prog 135 [.p ka0 0] H K := by
 refine Ag (N := 80) func135 (by kernel_rfl) rfl (by kernel_rfl) (by kernel_rfl) fun cb hcb hw hbd hnb => ?_; clear hbd hnb; subst hcb; unfold Pm at h; have DZ : ka0 < H.next := Nat.lt_of_not_le fun q => by rw [hw _ q] at Ar; cases Ar
 refine A3 fun cb hc1 => ?_; refine vcK ?_; simp -implicitDefEqProofs (disch := omega) [go_sem]; subst hc1; refine A3 fun cb hc2 => ?_; refine vcK ?_; simp -implicitDefEqProofs (disch := omega) [go_sem]; subst hc2; refine A3 fun cb hc3 => ?_; refine vcK ?_; simp -implicitDefEqProofs (disch := omega) [go_sem]; subst hc3; refine A3 fun cb hc4 => ?_; refine A3 fun cb hc5 => ?_; refine vcK ?_; simp -implicitDefEqProofs (disch := omega) [go_sem]; obtain ⟨x6, hx6, h⟩ := A4 h; refine Aa.eqA (args' := [.p ka0 0]) rfl (Dw a0 ka0 (by assumption) hx6 ?_); simp -implicitDefEqProofs (disch := omega) [go_sem]; subst hc5; obtain ⟨y7, hl7q, hk7⟩ := A4 h; refine AF (fun tm' H' => ∃ n16 : Nat, ∃ v15 : List UInt8, ∃ v17 : Bool, ∃ v18 : AI, .inl (v15, v17, v18) = y7 ∧ Ext (H.del ka0) H' ∧ H.next ≤ H'.next ∧ H.next ≤ n16 ∧ n16 < H'.next ∧ ¬ ka0 = n16 ∧ tm' 3 = .os n16 v15.length ∧ tm' 5 = .v (.bool v17) ∧ H'.obj ka0 = some (.cells ([.v (str v18.fs), .v (.int .i64 v18.fat)])) ∧ H'.obj n16 = some (.row 1 (v15.map fun x => [.v (.int .u8 x.toNat)]))) ?_ fun cb hc7 => ?_
 ·rintro tm7e H7e ⟨n16, v15, v17, v18, rfl, he7e, hl7e, hr0_7e, hs0_7e, hq57, t3_7e, t5_7e, ob0_7e, or0_7e⟩
  have h : Hs v15 v17 v18 = some r := hk7; unfold Hs at h; simp -implicitDefEqProofs only [go_sem]; subst hc4; refine A3 fun cb hc19 => ?_; refine vcK ?_; simp -implicitDefEqProofs (disch := omega) [go_sem, t5_7e]; refine A6 h (by (simp -implicitDefEqProofs (disch := omega) [go_sem] <;> omega)) ?_ ?_
  ·intro c23 h; simp (disch := omega) at c23; simp -implicitDefEqProofs (disch := omega) [go_sem, t3_7e]; refine A6 h rfl ?_ ?_
   ·intro c22 h; simp -implicitDefEqProofs (disch := omega) [go_sem, t3_7e]; refine Aa.eqA (args' := [.v (.bool (decide ((v15.length : Int) ≤ 200)))]) rfl ?_; by_cases m20 : ¬ ((v15.length : Int) ≤ 200)
    ·rw [if_neg m20] at h; refine C8  (by simpa using m20) ?_; simp (disch := omega) at m20; have er := Option.some.inj h; subst er; simp -implicitDefEqProofs (disch := omega) [go_sem]; exact Fb (by exact EK he7e) ((Dl.refl _).del ka0) (hP _ rfl)
    have m20 := Classical.not_not.1 m20; rw [if_pos m20] at h; refine Gr  (by simpa using m20) ?_; simp -implicitDefEqProofs (disch := omega) [go_sem]; subst hc19; refine A3 fun cb hc21 => ?_; refine IWp.gh (Gh.freeze (d := 3) (k := n16) (sz := 1) (es := v15.map fun x => [.v (.int .u8 x.toNat)]) (by (simp -implicitDefEqProofs (disch := omega) [go_sem, or0_7e] <;> omega)) (by (simp -implicitDefEqProofs (disch := omega) [go_sem, t3_7e] <;> omega))) ?_; refine vcK ?_; simp -implicitDefEqProofs (disch := omega) [go_sem]; subst hc21; refine vcK ?_; simp -implicitDefEqProofs only [go_sem]; have er := Option.some.inj h; subst er; simp -implicitDefEqProofs (disch := omega) [go_sem]; refine Aq (r' := .v (str v15)) (io1 ka0 (.cells ([.v (str v18.fs), .v (.int .i64 v18.fat)])) (by exact As he7e) (by omega) (by simp -implicitDefEqProofs (disch := omega) [go_sem, ob0_7e]) (by exact Bz)) rfl (.same (by exact nbA)) (hK _ rfl)
   intro c22 h; simp (disch := omega) at c22; simp -implicitDefEqProofs (disch := omega) [go_sem]; refine Aa.eqA (args' := [.v (.bool false)]) rfl (C8  rfl ?_); have er := Option.some.inj h; subst er; simp -implicitDefEqProofs (disch := omega) [go_sem]; exact Fb (by exact EK he7e) ((Dl.refl _).del ka0) (hP _ rfl)
  intro c23 h; simp (disch := omega) at c23; simp -implicitDefEqProofs (disch := omega) [go_sem]; refine Aa.eqA (args' := [.v (.bool false)]) rfl (C8  rfl ?_); have er := Option.some.inj h; subst er; simp -implicitDefEqProofs (disch := omega) [go_sem]; exact Fb (by exact EK he7e) ((Dl.refl _).del ka0) (hP _ rfl)
 refine Ah ?_; refine Az (fun (s : (List UInt8) × Bool × Bool × Int × Bool × AI) tm' H' => ∃ n9 : Nat, Ext (H.del ka0) H' ∧ H.next ≤ H'.next ∧ H.next ≤ n9 ∧ n9 < H'.next ∧ ¬ ka0 = n9 ∧ tm' 0 = .p ka0 0 ∧ tm' 3 = .os n9 s.1.length ∧ tm' 4 = .v (.bool s.2.1) ∧ tm' 5 = .v (.bool s.2.2.1) ∧ tm' 6 = .v (.int .u8 s.2.2.2.1) ∧ tm' 7 = .v (.bool s.2.2.2.2.1) ∧ H'.obj ka0 = some (.cells ([.v (str s.2.2.2.2.2.fs), .v (.int .i64 s.2.2.2.2.2.fat)])) ∧ H'.obj n9 = some (.row 1 (s.1.map fun x => [.v (.int .u8 x.toNat)]))) hl7q ?_ ?_
 ·refine UpI.gh (Gh.Md (d := 3) (sz := 1) (by omega) (by (simp -implicitDefEqProofs (disch := omega) [go_sem] <;> omega))) ?_; refine .same ⟨H.next, by exact As (Ext.AW (Ext.refl hw) ka0), by (simp -implicitDefEqProofs (disch := omega) [go_sem] <;> omega), by omega, by (simp -implicitDefEqProofs (disch := omega) [go_sem] <;> omega), by omega, ?_, ?_, ?_, ?_, ?_, ?_, ?_, ?_⟩ <;> (simp -implicitDefEqProofs (disch := omega) [go_sem, Ar] <;> omega)
 rintro I7 hI7 ⟨v8, v10, v11, v12, v13, v14⟩ x7 tm7 H7 ⟨n9, he7, hl7, lu, lz, hq58, U9, Ua, kC, fG, KY, kD, fH, Ub⟩ h hret7
 replace h : CG v8 v10 v11 v12 v13 v14 = some x7 := h; unfold CG at h; refine A3 fun cb hc24 => ?_; refine A3 fun cb hc25 => ?_; refine vcK ?_; simp -implicitDefEqProofs (disch := omega) [go_sem, kD]; refine A6 h (by (simp -implicitDefEqProofs (disch := omega) [go_sem] <;> omega)) ?_ ?_
 ·intro c56 h; simp -implicitDefEqProofs (disch := omega) [go_sem, KY]; subst hc25; refine A8 h (by (simp -implicitDefEqProofs (disch := omega) [go_sem] <;> omega)) rfl ?_ ?_
  ·intro c26 h; refine vcK ?_; simp -implicitDefEqProofs only [go_sem]; subst hc24; refine Bg (fun tm' H' => ∃ n29 : Nat, ∃ v28 : List UInt8, ∃ v30 : AI, Ext (H.del ka0) H' ∧ H7.next ≤ H'.next ∧ H.next ≤ n29 ∧ n29 < H'.next ∧ ¬ ka0 = n29 ∧ tm' 0 = .p ka0 0 ∧ tm' 3 = .os n29 v28.length ∧ tm' 4 = .v (.bool false) ∧ tm' 5 = .v (.bool (decide (v12 = 32))) ∧ H'.obj ka0 = some (.cells ([.v (str v30.fs), .v (.int .i64 v30.fat)])) ∧ H'.obj n29 = some (.row 1 (v28.map fun x => [.v (.int .u8 x.toNat)])) ∧ CQ v12 v28 v30 = some x7) ?_ fun cb hc27 => ?_
   ·rintro tm27 H27 ⟨n29, v28, v30, he27, hl27, kE, kF, hq55, Xv, fI, fJ, fK, kG, kH, h⟩
    unfold CQ at h; refine vcK ?_; simp -implicitDefEqProofs (disch := omega) [go_sem, Xv]; obtain ⟨x31, hx31, h⟩ := A4 h; refine Aa.eqA (args' := [.p ka0 0]) rfl (Dw v30 ka0 (by assumption) hx31 ?_); simp -implicitDefEqProofs (disch := omega) [go_sem]; have e7 := Option.some.inj h; subst e7; refine Aj hI7 ((v28, false, decide (v12 = 32), x31.1, x31.2, v30)) ?_; refine .same ⟨n29, by exact As he27, by omega, by with_reducible assumption, by with_reducible assumption, by with_reducible assumption, ?_, ?_, ?_, ?_, ?_, ?_, ?_, ?_⟩ <;> first | with_reducible assumption | (simp -implicitDefEqProofs (disch := omega) [go_sem, Xv, fI, fJ, fK] <;> omega)
   refine Ah ?_; refine A3 fun cb hc32 => ?_; refine vcK ?_; simp -implicitDefEqProofs (disch := omega) [go_sem, U9, fH]; subst hc32; refine A3 fun cb hc33 => ?_; refine vcK ?_; simp -implicitDefEqProofs (disch := omega) [go_sem, KY]; subst hc33; refine A3 fun cb hc34 => ?_; refine A3 fun cb hc35 => ?_; refine vcK ?_; simp -implicitDefEqProofs (disch := omega) [go_sem, KY]; subst hc35; refine A8 h (by (simp -implicitDefEqProofs (disch := omega) [go_sem] <;> omega)) rfl ?_ ?_
   ·intro c36 h; refine vcK ?_; simp -implicitDefEqProofs (disch := omega) [go_sem, U9]; obtain ⟨x37, hx37, h⟩ := A4 h; refine Aa.eqA (args' := [.p ka0 0]) rfl (Wm ((⟨v14.fs, IntKind.i64.wrap (v14.fat + 1)⟩ : AI)) ka0 (by simp -implicitDefEqProofs (disch := omega) [go_sem]) hx37 ?_ ?_)
    ·intro ex37 qx37; subst qx37; replace h := Hi h; have e7 := Option.some.inj h; subst e7; have e7 := hret7 _ rfl; subst e7; replace h : some (.error ex37) = some r := hk7; have er := Option.some.inj h; subst er; simp -implicitDefEqProofs (disch := omega) [go_sem]; exact Fb (by exact EK he7) ((Dl.refl _).del ka0) (hP _ rfl)
    intro y38 qx37; subst qx37; replace h := Jb h; simp -implicitDefEqProofs (disch := omega) [go_sem]; subst hc34; refine A3 fun cb hc39 => ?_; refine vcK ?_; obtain ⟨g40, h⟩ := Ad.1 h; obtain ⟨g41, h⟩ := Ad.1 h; simp (disch := omega) at g41; simp -implicitDefEqProofs (disch := omega) [go_sem, Ua, Ub]; subst hc39; refine vcK ?_; simp -implicitDefEqProofs (disch := omega) [go_sem]; refine hc27 _ _ ?_; refine .same ⟨n9, (v8 ++ ([UInt8.ofNat y38.1.toNat])), y38.2, by exact As he7, by (simp -implicitDefEqProofs (disch := omega) [go_sem] <;> omega), by with_reducible assumption, by (simp -implicitDefEqProofs (disch := omega) [go_sem] <;> omega), by with_reducible assumption, ?_, ?_, ?_, ?_, ?_, ?_, h⟩ <;> (simp -implicitDefEqProofs (disch := omega) [go_sem, U9] <;> omega)
   intro c36 h; refine vcK ?_; simp -implicitDefEqProofs (disch := omega) [go_sem]; obtain ⟨x42, hx42, h⟩ := A4 h; refine Aa.eqA (args' := []) rfl (Mo  hx42 ?_); have hmL181 := @OK _ .u8 (fun (x : Bool) => .v (.bool x)); have hmF181 := fun o => La (fun (x : Bool) => .v (.bool x)) false (z := .v (.bool false)) (o := o) (by rfl); simp -implicitDefEqProofs (disch := omega) [go_sem, KY, hmL181, hmF181]; refine A6 h (by (simp -implicitDefEqProofs (disch := omega) [go_sem] <;> omega)) ?_ ?_
   ·intro c54 h; simp (disch := omega) at c54; simp -implicitDefEqProofs (disch := omega) [go_sem, KY]; refine A6 h rfl ?_ ?_
    ·intro c53 h; simp -implicitDefEqProofs (disch := omega) [go_sem, KY]; refine A6 h rfl ?_ ?_
     ·intro c52 h; simp -implicitDefEqProofs (disch := omega) [go_sem, kC]; refine A6 h (by (simp -implicitDefEqProofs (disch := omega) [go_sem] <;> omega)) ?_ ?_
      ·intro c51 h; simp (disch := omega) at c51; simp -implicitDefEqProofs (disch := omega) [go_sem]; refine Aa.eqA (args' := [.v (.bool true)]) rfl (Gr  rfl ?_); simp -implicitDefEqProofs (disch := omega) [go_sem]; subst hc34; refine A3 fun cb hc43 => ?_; refine vcK ?_; obtain ⟨g44, h⟩ := Ad.1 h; obtain ⟨g45, h⟩ := Ad.1 h; simp (disch := omega) at g45; simp -implicitDefEqProofs (disch := omega) [go_sem, Ua, KY, Ub]; subst hc43; refine vcK ?_; simp -implicitDefEqProofs (disch := omega) [go_sem]; refine hc27 _ _ ?_; refine .same ⟨n9, (v8 ++ ([UInt8.ofNat v12.toNat])), ((⟨v14.fs, IntKind.i64.wrap (v14.fat + 1)⟩ : AI)), by exact As he7, by (simp -implicitDefEqProofs (disch := omega) [go_sem] <;> omega), by with_reducible assumption, by (simp -implicitDefEqProofs (disch := omega) [go_sem] <;> omega), by with_reducible assumption, ?_, ?_, ?_, ?_, ?_, ?_, h⟩ <;> (simp -implicitDefEqProofs (disch := omega) [go_sem, U9] <;> omega)
      intro c51 h; simp (disch := omega) at c51; simp -implicitDefEqProofs (disch := omega) [go_sem, KY]; refine A6 h (by (simp -implicitDefEqProofs (disch := omega) [go_sem] <;> omega)) ?_ ?_
      ·intro c50 h; simp -implicitDefEqProofs (disch := omega) [go_sem, KY]; refine Aa.eqA (args' := [.v (.bool (decide (¬ v12 = 35)))]) (by (simp -implicitDefEqProofs (disch := omega) [go_sem] <;> omega)) ?_; by_cases m46 : ¬ (¬ v12 = 35)
       ·rw [if_neg m46] at h; refine C8  (by simpa using m46) ?_; simp (disch := omega) at m46; have e7 := Option.some.inj h; subst e7; have e7 := hret7 _ rfl; subst e7; replace h : some ((.error ())) = some r := hk7; have er := Option.some.inj h; subst er; simp -implicitDefEqProofs (disch := omega) [go_sem]; exact Fb (by exact EK he7) ((Dl.refl _).del ka0) (hP _ rfl)
       have m46 := Classical.not_not.1 m46; rw [if_pos m46] at h; refine Gr  (by simpa using m46) ?_; simp -implicitDefEqProofs (disch := omega) [go_sem]; subst hc34; refine A3 fun cb hc47 => ?_; refine vcK ?_; obtain ⟨g48, h⟩ := Ad.1 h; obtain ⟨g49, h⟩ := Ad.1 h; simp (disch := omega) at g49; simp -implicitDefEqProofs (disch := omega) [go_sem, Ua, KY, Ub]; subst hc47; refine vcK ?_; simp -implicitDefEqProofs (disch := omega) [go_sem]; refine hc27 _ _ ?_; refine .same ⟨n9, (v8 ++ ([UInt8.ofNat v12.toNat])), ((⟨v14.fs, IntKind.i64.wrap (v14.fat + 1)⟩ : AI)), by exact As he7, by (simp -implicitDefEqProofs (disch := omega) [go_sem] <;> omega), by with_reducible assumption, by (simp -implicitDefEqProofs (disch := omega) [go_sem] <;> omega), by with_reducible assumption, ?_, ?_, ?_, ?_, ?_, ?_, h⟩ <;> (simp -implicitDefEqProofs (disch := omega) [go_sem, U9] <;> omega)
      intro c50 h; simp (disch := omega) at c50; simp -implicitDefEqProofs (disch := omega) [go_sem]; refine Aa.eqA (args' := [.v (.bool false)]) rfl (C8  rfl ?_); have e7 := Option.some.inj h; subst e7; have e7 := hret7 _ rfl; subst e7; replace h : some ((.error ())) = some r := hk7; have er := Option.some.inj h; subst er; simp -implicitDefEqProofs (disch := omega) [go_sem]; exact Fb (by exact EK he7) ((Dl.refl _).del ka0) (hP _ rfl)
     intro c52 h; simp (disch := omega) at c52; simp -implicitDefEqProofs (disch := omega) [go_sem]; refine Aa.eqA (args' := [.v (.bool false)]) rfl (C8  rfl ?_); have e7 := Option.some.inj h; subst e7; have e7 := hret7 _ rfl; subst e7; replace h : some ((.error ())) = some r := hk7; have er := Option.some.inj h; subst er; simp -implicitDefEqProofs (disch := omega) [go_sem]; exact Fb (by exact EK he7) ((Dl.refl _).del ka0) (hP _ rfl)
    intro c53 h; simp (disch := omega) at c53; simp -implicitDefEqProofs (disch := omega) [go_sem]; refine Aa.eqA (args' := [.v (.bool false)]) rfl (C8  rfl ?_); have e7 := Option.some.inj h; subst e7; have e7 := hret7 _ rfl; subst e7; replace h : some ((.error ())) = some r := hk7; have er := Option.some.inj h; subst er; simp -implicitDefEqProofs (disch := omega) [go_sem]; exact Fb (by exact EK he7) ((Dl.refl _).del ka0) (hP _ rfl)
   intro c54 h; simp (disch := omega) at c54; simp -implicitDefEqProofs (disch := omega) [go_sem]; refine Aa.eqA (args' := [.v (.bool false)]) rfl (C8  rfl ?_); have e7 := Option.some.inj h; subst e7; have e7 := hret7 _ rfl; subst e7; replace h : some ((.error ())) = some r := hk7; have er := Option.some.inj h; subst er; simp -implicitDefEqProofs (disch := omega) [go_sem]; exact Fb (by exact EK he7) ((Dl.refl _).del ka0) (hP _ rfl)
  intro c26 h; simp (disch := omega) at c26; refine vcK ?_; simp -implicitDefEqProofs only [go_sem]; have e7 := Option.some.inj h; subst e7; have hy7 := hret7 _ rfl; refine hc7 _ _ ?_; refine .same ⟨n9, v8, v11, v14, hy7, by exact As he7, by with_reducible assumption, by with_reducible assumption, by with_reducible assumption, by with_reducible assumption, ?_, ?_, ?_, ?_⟩ <;> first | with_reducible assumption | (simp -implicitDefEqProofs (disch := omega) [go_sem, Ua, fG] <;> omega)
 intro c56 h; simp (disch := omega) at c56; simp -implicitDefEqProofs (disch := omega) [go_sem]; subst hc25; refine Al (by (simp -implicitDefEqProofs (disch := omega) [go_sem] <;> omega)) rfl ?_; refine vcK ?_; simp -implicitDefEqProofs only [go_sem]; have e7 := Option.some.inj h; subst e7; have hy7 := hret7 _ rfl; refine hc7 _ _ ?_; refine .same ⟨n9, v8, v11, v14, hy7, by exact As he7, by with_reducible assumption, by with_reducible assumption, by with_reducible assumption, by with_reducible assumption, ?_, ?_, ?_, ?_⟩ <;> first | with_reducible assumption | (simp -implicitDefEqProofs (disch := omega) [go_sem, Ua, fG] <;> omega)
noncomputable def Ru (a0c : AI) : Option (Except Unit (S89 × AI)) :=
 (U8 a0c).bind fun (x3 : Except Unit ((List UInt8) × AI)) => orP x3 (fun (ex3 : Unit) => some (.error ex3)) (fun (y4 : (List UInt8) × AI) => (Pm y4.2).bind fun (x6 : Except Unit ((List UInt8) × AI)) => orP x6 (fun (ex6 : Unit) => some (.error ex6)) (fun (y7 : (List UInt8) × AI) => some ((.ok (((⟨y4.1, y7.1⟩ : S89), y7.2))))))
theorem Wo {H : A2} {K : Au → A2 → Prop} (a0c : AI) (ka0 : Nat) (ka0c : Nat) (Ar : H.obj ka0 = some (.cells ([.p ka0c 0]))) (oka0c : H.obj ka0c = some (.cells ([.v (str a0c.fs), .v (.int .i64 a0c.fat)]))) (D_ : ¬ ka0 = ka0c) {r : Except Unit (S89 × AI)} (h : Ru a0c = some r) (hP : ∀ e, r = .error e → K (.pan (Gq e)) (H.del ka0c)) (hK : ∀ v : S89 × AI, r = .ok v → K (.ret (.ag ([.v (str v.1.fType), .v (str v.1.A7)]))) (BE H [(ka0c, .cells ([.v (str v.2.fs), .v (.int .i64 v.2.fat)]))])) : Aa prog 133 [.p ka0 0] H K := by
 refine Ag (N := 9) func133 (by kernel_rfl) rfl (by kernel_rfl) (by kernel_rfl) fun cb hcb hw hbd hnb => ?_; clear hbd hnb; subst hcb; unfold Ru at h; have DZ : ka0 < H.next := Nat.lt_of_not_le fun q => by rw [hw _ q] at Ar; cases Ar
 have hka0c : ka0c < H.next := Nat.lt_of_not_le fun q => by rw [hw _ q] at oka0c; cases oka0c
 have Lq : ¬ ka0c = ka0 := fun q => D_ q.symm; refine wG ?_; refine A3 fun cb hc2 => ?_; refine vF Ar ?_; obtain ⟨x3, hx3, h⟩ := A4 h; refine Wl a0c ka0c (eF oka0c) hx3 ?_ ?_
 ·intro ex3 qx3; subst qx3; replace h := Hi h; obtain rfl := sI h; refine sG ?_; exact Fb (by exact EK (Ext.AW (Ext.refl hw) ka0c)) ((Dl.refl _).del ka0c) (hP _ rfl)
 intro y4 qx3; subst qx3; replace h := Jb h; refine sG ?_; subst hc2; refine A3 fun cb hc5 => ?_; refine vF Ar ?_; obtain ⟨x6, hx6, h⟩ := A4 h; refine Wn y4.2 ka0c eA hx6 ?_ ?_
 ·intro ex6 qx6; subst qx6; replace h := Hi h; obtain rfl := sI h; refine sG ?_; exact Fb (by exact EK (Ext.AW (Ext.refl hw) ka0c)) ((Dl.refl _).del ka0c) (hP _ rfl)
 intro y7 qx6; subst qx6; replace h := Jb h; simp -implicitDefEqProofs (disch := omega) [go_sem, bdP]; subst hc5; refine vO ?_; obtain rfl := sI h; refine sG ?_; refine Aq (r' := .ag [.v (str y4.1), .v (str y7.1)]) (io1 ka0c (.cells ([.v (str y7.2.fs), .v (.int .i64 y7.2.fat)])) (by exact As (Ext.AW (Ext.refl hw) ka0c)) (by omega) (by simp -implicitDefEqProofs (disch := omega) [go_sem]) (by exact Bz)) rfl (.same (by exact nbA)) (hK _ rfl)
noncomputable def MN (v9 : List S89) (v11 : AI) : Option ((List S89) × Int) :=
 some (v9, 0)
noncomputable def Et (a0 : List UInt8) (v6 : List S89) (v8 : AI) : Option (((List S89) × AI) ⊕ (((List S89) × AI) ⊕ ((List S89) × Int))) :=
 if ¬ a0 = [] then ((Ru v8).bind fun (x17 : Except Unit (S89 × AI)) => orP x17 (fun (ex17 : Unit) => some (.inr (.inr ([], 160)))) (fun (y18 : S89 × AI) => gd ((v6.length + ([y18.1]).length) * 32 ≤ 140737488355328) (if (((v6 ++ ([y18.1])).length : Int)) ≤ 16 then ((IZ y18.2).bind fun (x24 : Int × Bool) => if ¬ (x24.2 = true) then (some (.inr (.inl ((v6 ++ ([y18.1]), y18.2))))) else (some (.inl ((v6 ++ ([y18.1]), (⟨y18.2.fs, IntKind.i64.wrap (y18.2.fat + 1)⟩ : AI)))))) else (some (.inr (.inr ([], 160))))))) else (some (.inr (.inl (v6, v8))))
noncomputable def F99 (a0 : List UInt8) : Option ((List S89) × Int) :=
 (AD (fun (s : (List S89) × AI) => Et a0 s.1 s.2) ([], (⟨a0, 0⟩ : AI))).bind fun y => Sum.elim (fun (e : (List S89) × AI) => MN e.1 e.2) (fun (q : (List S89) × Int) => some q) y
theorem ZB {H : A2} {K : Au → A2 → Prop} (a0 : List UInt8) {r : (List S89) × Int} (h : F99 a0 = some r) (hK : K (.ret (.tu [.sl 2 (r.1.map fun x => [.v (str x.fType), .v (str x.A7)]), .v (.int .i64 r.2)])) H) : Aa prog 99 [.v (str a0)] H K := by
 refine P9 (N := 39) func99 (by kernel_rfl) rfl (by kernel_rfl) (by kernel_rfl) fun cb hcb hw => ?_; subst hcb; unfold F99 at h; refine Lc fun cb hc1 => ?_; refine HP.of ?_; refine vcK ?_; simp -implicitDefEqProofs (disch := omega) [go_sem]; subst hc1; refine Lc fun cb hc2 => ?_; refine Nv (by kernel_rfl) ?_; simp (decide := true) only [MB, Rc, Pa]; simp -implicitDefEqProofs (disch := omega) [go_sem]; subst hc2; refine HP.of ?_; refine A3 fun cb hc3 => ?_; refine vcK ?_; simp -implicitDefEqProofs (disch := omega) [go_sem, bdP]; subst hc3; refine A3 fun cb hc4 => ?_; refine vcK ?_; simp -implicitDefEqProofs (disch := omega) [go_sem]; subst hc4; obtain ⟨y5, hl5q, hk5⟩ := A4 h; refine Bg (fun tm' H' => ∃ n10 : Nat, ∃ v9 : List S89, ∃ v11 : AI, .inl (v9, v11) = y5 ∧ Ext H H' ∧ H.next + 4 ≤ H'.next ∧ H.next ≤ n10 ∧ n10 < H'.next ∧ ¬ H.next = n10 ∧ ¬ H.next + 1 = n10 ∧ ¬ H.next + 2 = n10 ∧ ¬ H.next + 3 = n10 ∧ tm' 2 = .p H.next 0 ∧ tm' 3 = .p (H.next + 1) 0 ∧ H'.obj H.next = some (.cells ([.os n10 v9.length])) ∧ H'.obj (H.next + 1) = some (.cells ([.v (.int .i64 0)])) ∧ H'.obj (H.next + 2) = some (.cells ([.v (str v11.fs), .v (.int .i64 v11.fat)])) ∧ H'.obj (H.next + 3) = some (.cells ([.p (H.next + 2) 0])) ∧ H'.obj n10 = some (.row 2 (v9.map fun x => [.v (str x.fType), .v (str x.A7)]))) ?_ fun cb hc5 => ?_
 ·rintro tm5e H5e ⟨n10, v9, v11, rfl, he5e, hl5e, hr0_5e, hs0_5e, hq27, hq28, hq29, hq30, t2_5e, t3_5e, ob0_5e, ob1_5e, ob2_5e, ob3_5e, or0_5e⟩
  have h : MN v9 v11 = some r := hk5; unfold MN at h; refine A3 fun cb hc12 => ?_; refine vcK ?_; simp -implicitDefEqProofs (disch := omega) [go_sem, t2_5e, t3_5e, ob0_5e, ob1_5e]; subst hc12; refine IWp.gh (Gh.Xa (k := n10) (kb := H.next) (cs := [.os n10 v9.length]) (cs' := [.sl 2 (v9.map fun x => [.v (str x.fType), .v (str x.A7)])]) (by simp -implicitDefEqProofs (disch := omega) [go_sem]) (by omega) (FJ.cons (FzK.row _ _ _ (by simp -implicitDefEqProofs (disch := omega) [go_sem, or0_5e]) (by simp)) FJ.nil)) ?_; refine vcK ?_; simp -implicitDefEqProofs only [go_sem]; have er := Option.some.inj h; subst er; refine V_ ?_; refine BB.eqA (args' := [.p H.next 0, .p (H.next + 1) 0]) (by (simp -implicitDefEqProofs (disch := omega) [go_sem]; done)) (TK ?_); simp -implicitDefEqProofs (disch := omega) [go_sem, t2_5e, t3_5e]; refine Ay (by exact As he5e) rfl nbA hK
 refine Ah ?_; refine Az (fun (s : (List S89) × AI) tm' H' => ∃ n7 : Nat, Ext H H' ∧ H.next + 4 ≤ H'.next ∧ H.next ≤ n7 ∧ n7 < H'.next ∧ ¬ H.next = n7 ∧ ¬ H.next + 1 = n7 ∧ ¬ H.next + 2 = n7 ∧ ¬ H.next + 3 = n7 ∧ tm' 0 = .v (str a0) ∧ tm' 2 = .p H.next 0 ∧ tm' 3 = .p (H.next + 1) 0 ∧ tm' 4 = .p (H.next + 3) 0 ∧ tm' 5 = .fn (.func 133) [] [.p (H.next + 3) 0] ∧ H'.obj H.next = some (.cells ([.os n7 s.1.length])) ∧ H'.obj (H.next + 1) = some (.cells ([.v (.int .i64 0)])) ∧ H'.obj (H.next + 2) = some (.cells ([.v (str s.2.fs), .v (.int .i64 s.2.fat)])) ∧ H'.obj (H.next + 3) = some (.cells ([.p (H.next + 2) 0])) ∧ H'.obj n7 = some (.row 2 (s.1.map fun x => [.v (str x.fType), .v (str x.A7)]))) hl5q ?_ ?_
 ·refine UpI.gh (Gh.HT (kb := H.next) (sz := 2) (cs := [.v (.slice none 0 0)]) (cs' := [.os (H.next + 4) 0]) (by omega) (by (simp -implicitDefEqProofs (disch := omega) [go_sem] <;> omega)) (NzL.row NzL.nil)) ?_; refine .same ⟨H.next + 4, by exact As (Ext.refl hw), by (simp -implicitDefEqProofs (disch := omega) [go_sem] <;> omega), by omega, by (simp -implicitDefEqProofs (disch := omega) [go_sem] <;> omega), by omega, by omega, by omega, by omega, ?_, ?_, ?_, ?_, ?_, ?_, ?_, ?_, ?_, ?_⟩ <;> (simp -implicitDefEqProofs (disch := omega) [go_sem] <;> omega)
 rintro I5 hI5 ⟨v6, v8⟩ x5 tm5 H5 ⟨n7, he5, hl5, lB, lC, hq31, hq32, hq33, hq34, D1, O2, EJ, He, KV, NS, Qa, lD, Qb, fM⟩ h hret5
 replace h : Et a0 v6 v8 = some x5 := h; unfold Et at h; refine A3 fun cb hc13 => ?_; refine A3 fun cb hc14 => ?_; refine vcK ?_; simp -implicitDefEqProofs (disch := omega) [go_sem, D1]; subst hc14; refine A8 h (by (simp -implicitDefEqProofs (disch := omega) [go_sem] <;> omega)) rfl ?_ ?_
 ·intro c15 h; refine vcK ?_; simp -implicitDefEqProofs only [go_sem]; subst hc13; refine Ah ?_; refine A3 fun cb hc16 => ?_; refine L5 [] [0, 1, 2, 3, 4, 5] (by kernel_rfl) (by kernel_rfl) (fun _ _ _ _ _ _ ho h => W3 (by kernel_rfl) ho h) ?_; simp -implicitDefEqProofs (disch := omega) [go_sem, O2, KV, NS]; obtain ⟨x17, hx17, h⟩ := A4 h; refine Aa.eqA (args' := [.p (H.next + 3) 0]) rfl (Wo v8 (H.next + 3) (H.next + 2) (by assumption) (by assumption) (by omega) hx17 ?_ ?_)
  ·intro ex17 qx17; subst qx17; replace h := Hi h; have e5 := Option.some.inj h; subst e5; have e5 := hret5 _ rfl; subst e5; replace h : some ([], 160) = some r := hk5; have er := Option.some.inj h; subst er; simp -implicitDefEqProofs (disch := omega) [go_sem]; refine Q0 ?_; refine BB.eqA (args' := [.p H.next 0, .p (H.next + 1) 0]) (by (simp -implicitDefEqProofs (disch := omega) [go_sem]; done)) (NW H.next (H.next + 1) (.os n7 v6.length) (.v (.int .i64 0)) (by simp -implicitDefEqProofs (disch := omega) [go_sem, NS]) (by simp -implicitDefEqProofs (disch := omega) [go_sem, Qa]) (by omega) ?_); simp -implicitDefEqProofs (disch := omega) [go_sem, O2, EJ]; refine Aq (J := H) (r' := _) (Ext.Bp (by exact As he5)) rfl (.wk _ (.tu [.sl 2 (([] : List S89).map fun x => [.v (str x.fType), .v (str x.A7)]), .v (.int .i64 160)]) (by repeat (first | exact WkL.nil | refine WkL.cons ?_ ?_ | exact Wk.refl _ | exact Wk.nil _ | refine Wk.tuL ?_)) (by exact nbA)) hK
  intro y18 qx17; subst qx17; replace h := Jb h; obtain ⟨g19, h⟩ := Ad.1 h; simp (disch := omega) at g19; simp -implicitDefEqProofs (disch := omega) [go_sem, O2, NS, fM]; subst hc16; refine A3 fun cb hc20 => ?_; refine vcK ?_; simp -implicitDefEqProofs (disch := omega) [go_sem, O2]; refine Aa.eqA (args' := [.v (.bool (decide ((((v6 ++ ([y18.1])).length : Int)) ≤ 16)))]) (by (simp -implicitDefEqProofs (disch := omega) [go_sem] <;> omega)) ?_; by_cases m21 : ¬ ((((v6 ++ ([y18.1])).length : Int)) ≤ 16)
  ·rw [if_neg m21] at h; refine C8  (by simpa using m21) ?_; simp (disch := omega) at m21; have e5 := Option.some.inj h; subst e5; have e5 := hret5 _ rfl; subst e5; replace h : some ([], 160) = some r := hk5; have er := Option.some.inj h; subst er; simp -implicitDefEqProofs (disch := omega) [go_sem]; refine Q0 ?_; refine BB.eqA (args' := [.p H.next 0, .p (H.next + 1) 0]) (by (simp -implicitDefEqProofs (disch := omega) [go_sem]; done)) (NW H.next (H.next + 1) (.os n7 (v6 ++ ([y18.1])).length) (.v (.int .i64 0)) (by simp -implicitDefEqProofs (disch := omega) [go_sem]) (by simp -implicitDefEqProofs (disch := omega) [go_sem, Qa]) (by omega) ?_); simp -implicitDefEqProofs (disch := omega) [go_sem, O2, EJ]; refine Aq (J := H) (r' := _) (Ext.Bp (by exact As he5)) rfl (.wk _ (.tu [.sl 2 (([] : List S89).map fun x => [.v (str x.fType), .v (str x.A7)]), .v (.int .i64 160)]) (by repeat (first | exact WkL.nil | refine WkL.cons ?_ ?_ | exact Wk.refl _ | exact Wk.nil _ | refine Wk.tuL ?_)) (by exact nbA)) hK
  have m21 := Classical.not_not.1 m21; rw [if_pos m21] at h; refine Gr  (by simpa using m21) ?_; simp (disch := omega) at m21; simp -implicitDefEqProofs (disch := omega) [go_sem]; subst hc20; refine A3 fun cb hc22 => ?_; refine A3 fun cb hc23 => ?_; refine vcK ?_; simp -implicitDefEqProofs (disch := omega) [go_sem, He, Qb]; obtain ⟨x24, hx24, h⟩ := A4 h; refine Aa.eqA (args' := [.p (H.next + 2) 0]) rfl (Dw y18.2 (H.next + 2) (by simp -implicitDefEqProofs (disch := omega) [go_sem]) hx24 ?_); simp -implicitDefEqProofs (disch := omega) [go_sem]; subst hc23; refine A3 fun cb hc25 => ?_; refine vcK ?_; simp -implicitDefEqProofs (disch := omega) [go_sem]; subst hc25; refine A8 h (by (simp -implicitDefEqProofs (disch := omega) [go_sem] <;> omega)) rfl ?_ ?_
  ·intro c26 h; simp (disch := omega) at c26; refine vcK ?_; simp -implicitDefEqProofs only [go_sem]; have e5 := Option.some.inj h; subst e5; have hy5 := hret5 _ rfl; refine hc5 _ _ ?_; refine .same ⟨n7, (v6 ++ ([y18.1])), y18.2, hy5, by exact As he5, by (simp -implicitDefEqProofs (disch := omega) [go_sem] <;> omega), by with_reducible assumption, by (simp -implicitDefEqProofs (disch := omega) [go_sem] <;> omega), by with_reducible assumption, by with_reducible assumption, by with_reducible assumption, by with_reducible assumption, ?_, ?_, ?_, ?_, ?_, ?_, ?_⟩ <;> (simp -implicitDefEqProofs (disch := omega) [go_sem, O2, EJ, Qa, Qb] <;> omega)
  intro c26 h; simp (disch := omega) at c26; refine vcK ?_; simp -implicitDefEqProofs only [go_sem]; subst hc22; refine vcK ?_; simp -implicitDefEqProofs (disch := omega) [go_sem, He, Qb]; have e5 := Option.some.inj h; subst e5; refine Aj hI5 ((v6 ++ ([y18.1]), (⟨y18.2.fs, IntKind.i64.wrap (y18.2.fat + 1)⟩ : AI))) ?_; refine .same ⟨n7, by exact As he5, by (simp -implicitDefEqProofs (disch := omega) [go_sem] <;> omega), by with_reducible assumption, by (simp -implicitDefEqProofs (disch := omega) [go_sem] <;> omega), by with_reducible assumption, by with_reducible assumption, by with_reducible assumption, by with_reducible assumption, ?_, ?_, ?_, ?_, ?_, ?_, ?_, ?_, ?_, ?_⟩ <;> (simp -implicitDefEqProofs (disch := omega) [go_sem, D1, O2, EJ, He, KV, Qa, Qb] <;> omega)
 intro c15 h; simp (disch := omega) at c15; refine vcK ?_; simp -implicitDefEqProofs only [go_sem]; have e5 := Option.some.inj h; subst e5; have hy5 := hret5 _ rfl; refine hc5 _ _ ?_; refine .same ⟨n7, v6, v8, hy5, by exact As he5, by with_reducible assumption, by with_reducible assumption, by with_reducible assumption, by with_reducible assumption, by with_reducible assumption, by with_reducible assumption, by with_reducible assumption, ?_, ?_, ?_, ?_, ?_, ?_, ?_⟩ <;> first | with_reducible assumption | (simp -implicitDefEqProofs (disch := omega) [go_sem, O2, EJ] <;> omega)
end Go.Idl
namespace Go.Idl
set_option maxHeartbeats 8000000
set_option pp.deepTerms false
set_option maxRecDepth 60000
open Go Go.Proofs.Tryz
noncomputable def F63 (Ak : List (List UInt8 × S39)) (An : List (List UInt8 × (List UInt8))) (Aw : Option S33) (a1 : List UInt8) : Option (Bool × (Option S33)) :=
 (F98 a1 ([10]) 4).bind fun (x3 : (List (List UInt8))) => if (x3.length : Int) < 4 then (some (false, Aw)) else (gd (2 < x3.length) ((F99 (x3.getD 2 [])).bind fun (x10 : (List S89) × Int) => (F60 x10.1).bind fun (x12 : (List UInt8) × Int) => gd (3 < x3.length) ((F66 (x3.getD 3 [])).bind fun (x15 : (List (List (List UInt8))) × Int) => gd (x15.1.length = 8) (if x10.2 = 0 then (if x12.1 = (x3.getD 2 []) then (if x15.2 = 0 then (gd (0 < x3.length) (gd (1 < x3.length) ((F27 Ak An Aw (⟨x3.getD 0 [], x3.getD 1 [], x10.1, x15.1⟩ : S33)).bind fun (x20 : Int × (Option S33)) => some ((decide (x20.1 = 0), x20.2))))) else (some (false, Aw))) else (some (false, Aw))) else (some (false, Aw))))))
theorem ZC {H : A2} {K : Au → A2 → Prop} (Ak : List (List UInt8 × S39)) (An : List (List UInt8 × (List UInt8))) (Aw : Option S33) (a1 : List UInt8) (ka0 : Nat) (Ae : Nat) (Af : Nat) (Ar : H.obj ka0 = some (.cells ([.mp Ae, .mp Af, Be (fun (x : S33) => .v (str x.A9) :: .v (str x.Ac) :: .sl 2 (x.fDn.map fun x => [.v (str x.fType), .v (str x.A7)]) :: (x.A5.map fun x => .sl 1 (x.map fun x => [.v (str x)]))) Aw]))) (Am : H.obj Ae = some (.map (mE (fun (x : S39) => .ag (.v (str x.A9) :: .v (str x.Ac) :: (x.A5.map fun x => .sl 1 (x.map fun x => [.v (str x)])))) Ak))) (Ao : H.obj Af = some (.map (mE (fun (x : List UInt8) => .v (str x)) An))) (hV : VOK prog H) {r : Bool × (Option S33)} (h : F63 Ak An Aw a1 = some r) (hK : K (.ret (.v (.bool r.1))) (BE H [(ka0, .cells ([.mp Ae, .mp Af, Be (fun (x : S33) => .v (str x.A9) :: .v (str x.Ac) :: .sl 2 (x.fDn.map fun x => [.v (str x.fType), .v (str x.A7)]) :: (x.A5.map fun x => .sl 1 (x.map fun x => [.v (str x)]))) r.2]))])) : Aa prog 63 [.p ka0 0, .v (str a1)] H K := by
 refine Ag (N := 63) func63 (by kernel_rfl) rfl (by kernel_rfl) (by kernel_rfl) fun cb hcb hw hbd hnb => ?_; clear hbd hnb; subst hcb; unfold F63 at h; have DZ : ka0 < H.next := Nat.lt_of_not_le fun q => by rw [hw _ q] at Ar; cases Ar
 have BV : Ae < H.next := Nat.lt_of_not_le fun q => by rw [hw _ q] at Am; cases Am
 have BW : Af < H.next := Nat.lt_of_not_le fun q => by rw [hw _ q] at Ao; cases Ao
 have D_ : ¬ ka0 = Ae := fun q => by rw [q] at Ar; rw [Ar] at Am; cases Am
 have Lq : ¬ Ae = ka0 := fun q => D_ q.symm; have Ka : ¬ ka0 = Af := fun q => by rw [q] at Ar; rw [Ar] at Ao; cases Ao
 have Th : ¬ Af = ka0 := fun q => Ka q.symm; refine wG ?_; refine A3 fun cb hc2 => ?_; refine vG ?_; obtain ⟨x3, hx3, h⟩ := A4 h; refine Zm a1 ([10]) 4 (by exact hV.of rfl) hx3 ?_; refine sG ?_; subst hc2; refine A3 fun cb hc4 => ?_; refine wG ?_; refine A8 h eA rfl ?_ ?_
 ·intro c6 h; refine wG ?_; refine vO ?_; obtain rfl := sI h; refine sG ?_; refine Aq (r' := .v (.bool false)) (io1 ka0 (.cells ([.mp Ae, .mp Af, Be (fun (x : S33) => .v (str x.A9) :: .v (str x.Ac) :: .sl 2 (x.fDn.map fun x => [.v (str x.fType), .v (str x.A7)]) :: (x.A5.map fun x => .sl 1 (x.map fun x => [.v (str x)]))) Aw])) (by exact As (Ext.AW (Ext.refl hw) ka0)) (by omega) (by with_reducible assumption) (by exact Bz)) rfl (.same (by exact nbA)) hK
 intro c6 h; simp (disch := omega) at c6; refine vO ?_; subst hc4; refine A3 fun cb hc8 => ?_; obtain ⟨g9, h⟩ := Ad.1 h; refine vG ?_; obtain ⟨x10, hx10, h⟩ := A4 h; refine Aa.eqA eA (ZB (x3.getD 2 []) hx10 ?_); refine sG ?_; subst hc8; refine A3 fun cb hc11 => ?_; refine vG ?_; obtain ⟨x12, hx12, h⟩ := A4 h; refine Tt x10.1 hx12 ?_; refine sG ?_; subst hc11; refine A3 fun cb hc13 => ?_; obtain ⟨g14, h⟩ := Ad.1 h; refine vG ?_; obtain ⟨x15, hx15, h⟩ := A4 h; refine Aa.eqA eA (U6 (x3.getD 3 []) (by exact hV.of rfl) hx15 ?_); obtain ⟨g16, h⟩ := Ad.1 h; refine sF g16 ?_; subst hc13; refine A3 fun cb hc17 => ?_; refine AB [] [0, 1, 2, 3, 4, 5, 6, 7, 8, 9, 10, 11, 12, 13, 14, 15, 16, 17, 18, 19, 20, 21, 22, 23, 24, 25, 26, 27] (by kernel_rfl) (by kernel_rfl) (fun _ _ _ _ h => h) ?_; refine sG ?_; refine A6 h rfl ?_ ?_
 ·intro c23 h; refine sG ?_; refine A6 h eA ?_ ?_
  ·intro c22 h; simp (disch := omega) at c22; refine sG ?_; refine A6 h rfl ?_ ?_
   ·intro c21 h; obtain ⟨g18, h⟩ := Ad.1 h; obtain ⟨g19, h⟩ := Ad.1 h; simp -implicitDefEqProofs (disch := omega) [go_sem, bdP, g16]; obtain ⟨x20, hx20, h⟩ := A4 h; refine Aa.eqA (args' := [.p ka0 0, .ag (.v (str (x3.getD 0 [])) :: .v (str (x3.getD 1 [])) :: .sl 2 (x10.1.map fun x => [.v (str x.fType), .v (str x.A7)]) :: (x15.1.map fun x => .sl 1 (x.map fun x => [.v (str x)])))]) eA (Aa.wkL (args' := [.p ka0 0, .ag (.v (str ((⟨x3.getD 0 [], x3.getD 1 [], x10.1, x15.1⟩ : S33).A9)) :: .v (str ((⟨x3.getD 0 [], x3.getD 1 [], x10.1, x15.1⟩ : S33).Ac)) :: .sl 2 (((⟨x3.getD 0 [], x3.getD 1 [], x10.1, x15.1⟩ : S33).fDn).map fun x => [.v (str x.fType), .v (str x.A7)]) :: (((⟨x3.getD 0 [], x3.getD 1 [], x10.1, x15.1⟩ : S33).A5).map fun x => .sl 1 (x.map fun x => [.v (str x)])))]) (by repeat (first | exact WkL.nil | refine WkL.cons ?_ ?_ | exact Wk.refl _)) (YR Ak An Aw (⟨x3.getD 0 [], x3.getD 1 [], x10.1, x15.1⟩ : S33) ka0 Ae Af (eF Ar) (eF Am) (eF Ao) hx20 ?_)); refine sF g16 ?_; subst hc17; refine vO ?_; obtain rfl := sI h; refine sG ?_; refine Aq (r' := .v (.bool (decide (x20.1 = 0)))) (io1 ka0 (.cells ([.mp Ae, .mp Af, Be (fun (x : S33) => .v (str x.A9) :: .v (str x.Ac) :: .sl 2 (x.fDn.map fun x => [.v (str x.fType), .v (str x.A7)]) :: (x.A5.map fun x => .sl 1 (x.map fun x => [.v (str x)]))) x20.2])) (by exact As (Ext.AW (Ext.refl hw) ka0)) (by omega) (by simp -implicitDefEqProofs (disch := omega) [go_sem]) (by exact Bz)) rfl (.same (by exact nbA)) hK
   intro c21 h; refine sG ?_; subst hc17; refine vO ?_; obtain rfl := sI h; refine sG ?_; refine Aq (r' := .v (.bool false)) (io1 ka0 (.cells ([.mp Ae, .mp Af, Be (fun (x : S33) => .v (str x.A9) :: .v (str x.Ac) :: .sl 2 (x.fDn.map fun x => [.v (str x.fType), .v (str x.A7)]) :: (x.A5.map fun x => .sl 1 (x.map fun x => [.v (str x)]))) Aw])) (by exact As (Ext.AW (Ext.refl hw) ka0)) (by omega) (by simp -implicitDefEqProofs (disch := omega) [go_sem, Ar]) (by exact Bz)) rfl (.same (by exact nbA)) hK
  intro c22 h; simp (disch := omega) at c22; refine sG ?_; subst hc17; refine vO ?_; obtain rfl := sI h; refine sG ?_; refine Aq (r' := .v (.bool false)) (io1 ka0 (.cells ([.mp Ae, .mp Af, Be (fun (x : S33) => .v (str x.A9) :: .v (str x.Ac) :: .sl 2 (x.fDn.map fun x => [.v (str x.fType), .v (str x.A7)]) :: (x.A5.map fun x => .sl 1 (x.map fun x => [.v (str x)]))) Aw])) (by exact As (Ext.AW (Ext.refl hw) ka0)) (by omega) (by simp -implicitDefEqProofs (disch := omega) [go_sem, Ar]) (by exact Bz)) rfl (.same (by exact nbA)) hK
 intro c23 h; refine sG ?_; subst hc17; refine vO ?_; obtain rfl := sI h; refine sG ?_; refine Aq (r' := .v (.bool false)) (io1 ka0 (.cells ([.mp Ae, .mp Af, Be (fun (x : S33) => .v (str x.A9) :: .v (str x.Ac) :: .sl 2 (x.fDn.map fun x => [.v (str x.fType), .v (str x.A7)]) :: (x.A5.map fun x => .sl 1 (x.map fun x => [.v (str x)]))) Aw])) (by exact As (Ext.AW (Ext.refl hw) ka0)) (by omega) (by simp -implicitDefEqProofs (disch := omega) [go_sem, Ar]) (by exact Bz)) rfl (.same (by exact nbA)) hK
noncomputable def MO (v11 : Option S33) (v12 : List (List UInt8 × S39)) (v13 : List (List UInt8 × (List UInt8))) : Option ((Option ((List (List UInt8 × S39)) × (List (List UInt8 × (List UInt8))) × (Option S33))) × Int) :=
 some (some (v12, v13, v11), 0)
noncomputable def Dy (a0 : List S78) (v7 : Int) (v8 : Option S33) (v9 : List (List UInt8 × S39)) (v10 : List (List UInt8 × (List UInt8))) : Option ((Int × (Option S33) × (List (List UInt8 × S39)) × (List (List UInt8 × (List UInt8)))) ⊕ (((Option S33) × (List (List UInt8 × S39)) × (List (List UInt8 × (List UInt8)))) ⊕ ((Option ((List (List UInt8 × S39)) × (List (List UInt8 × (List UInt8))) × (Option S33))) × Int))) :=
 (F64 ((a0.getD v7.toNat S78.zero).Ba) ([112])).bind fun (x23 : (List UInt8) × Bool) => (F65 ((a0.getD v7.toNat S78.zero).A7) ([10])).bind fun (x25 : (List UInt8) × (List UInt8) × Bool) => (F66 x25.2.1).bind fun (x27 : (List (List (List UInt8))) × Int) => gd (x27.1.length = 8) (if ¬ (x23.2 = true) then (some (.inr (.inr (none, 301)))) else (if ¬ (x25.2.2 = true) then (some (.inr (.inr (none, 301)))) else (if ¬ x27.2 = 0 then (some (.inr (.inr (none, 301)))) else ((F29 v9 v10 v8 (⟨x23.1, x25.1, x27.1⟩ : S39)).bind fun (x33 : Int × (List (List UInt8 × S39)) × (List (List UInt8 × (List UInt8)))) => if ¬ x33.1 = 0 then (some (.inr (.inr (none, 301)))) else (some (.inl ((IntKind.i64.wrap (v7 + 1), v8, x33.2.1, x33.2.2))))))))
noncomputable def Gw (a0 : List S78) (v7 : Int) (v8 : Option S33) (v9 : List (List UInt8 × S39)) (v10 : List (List UInt8 × (List UInt8))) : Option ((Int × (Option S33) × (List (List UInt8 × S39)) × (List (List UInt8 × (List UInt8)))) ⊕ (((Option S33) × (List (List UInt8 × S39)) × (List (List UInt8 × (List UInt8)))) ⊕ ((Option ((List (List UInt8 × S39)) × (List (List UInt8 × (List UInt8))) × (Option S33))) × Int))) :=
 if v7 < (a0.length : Int) then (gd (0 ≤ v7 ∧ v7 < a0.length) (if ((a0.getD v7.toNat S78.zero).Ba) = ([105]) then (if v8.isNone = true then ((F63 v9 v10 v8 ((a0.getD v7.toNat S78.zero).A7)).bind fun (x43 : Bool × (Option S33)) => if ¬ (x43.1 = true) then (some (.inr (.inr (none, 301)))) else (some (.inl ((IntKind.i64.wrap (v7 + 1), x43.2, v9, v10))))) else (Dy a0 v7 v8 v9 v10)) else (Dy a0 v7 v8 v9 v10))) else (some (.inr (.inl (v8, v9, v10))))
noncomputable def F35 (a0 : List S78) : Option ((Option ((List (List UInt8 × S39)) × (List (List UInt8 × (List UInt8))) × (Option S33))) × Int) :=
 (F12 ).bind fun (x3 : (List (List UInt8 × S39)) × (List (List UInt8 × (List UInt8))) × (Option S33)) => (AD (fun (s : Int × (Option S33) × (List (List UInt8 × S39)) × (List (List UInt8 × (List UInt8)))) => Gw a0 s.1 s.2.1 s.2.2.1 s.2.2.2) (0, x3.2.2, x3.1, x3.2.1)).bind fun y => Sum.elim (fun (e : (Option S33) × (List (List UInt8 × S39)) × (List (List UInt8 × (List UInt8)))) => MO e.1 e.2.1 e.2.2) (fun (q : (Option ((List (List UInt8 × S39)) × (List (List UInt8 × (List UInt8))) × (Option S33))) × Int) => some q) y
theorem ZD {H : A2} {K : Au → A2 → Prop} (a0 : List S78) (hV : VOK prog H) {r : (Option ((List (List UInt8 × S39)) × (List (List UInt8 × (List UInt8))) × (Option S33))) × Int} (h : F35 a0 = some r) (hN : r.1 = none → K (.ret (.tu [.v (.pointer none), .v (.int .i64 r.2)])) H) (hS : ∀ v, r.1 = some v → K (.ret (.tu [.p H.next 0, .v (.int .i64 r.2)])) (newL H [.cells ([.mp (H.next + 1), .mp (H.next + 2), Be (fun (x : S33) => .v (str x.A9) :: .v (str x.Ac) :: .sl 2 (x.fDn.map fun x => [.v (str x.fType), .v (str x.A7)]) :: (x.A5.map fun x => .sl 1 (x.map fun x => [.v (str x)]))) v.2.2]), .map (mE (fun (x : S39) => .ag (.v (str x.A9) :: .v (str x.Ac) :: (x.A5.map fun x => .sl 1 (x.map fun x => [.v (str x)])))) v.1), .map (mE (fun (x : List UInt8) => .v (str x)) v.2.1)])) : Aa prog 35 [.sl 2 (a0.map fun x => [.v (str x.Ba), .v (str x.A7)])] H K := by
 refine Ag (N := 75) func35 (by kernel_rfl) rfl (by kernel_rfl) (by kernel_rfl) fun cb hcb hw hbd hnb => ?_; clear hbd hnb; subst hcb; unfold F35 at h; refine wG ?_; refine A3 fun cb hc2 => ?_; refine vG ?_; obtain ⟨x3, hx3, h⟩ := A4 h; refine T7  hx3 ?_; refine sG ?_; subst hc2; refine A3 fun cb hc4 => ?_; refine wG ?_; obtain ⟨y6, hl6q, hk6⟩ := A4 h; refine AF (fun tm' H' => ∃ v11 : Option S33, ∃ v12 : List (List UInt8 × S39), ∃ v13 : List (List UInt8 × (List UInt8)), .inl (v11, v12, v13) = y6 ∧ Ext H H' ∧ H.next + 3 ≤ H'.next ∧ tm' 4 = .p H.next 0 ∧ H'.obj H.next = some (.cells ([.mp (H.next + 1), .mp (H.next + 2), Be (fun (x : S33) => .v (str x.A9) :: .v (str x.Ac) :: .sl 2 (x.fDn.map fun x => [.v (str x.fType), .v (str x.A7)]) :: (x.A5.map fun x => .sl 1 (x.map fun x => [.v (str x)]))) v11])) ∧ H'.obj (H.next + 1) = some (.map (mE (fun (x : S39) => .ag (.v (str x.A9) :: .v (str x.Ac) :: (x.A5.map fun x => .sl 1 (x.map fun x => [.v (str x)])))) v12)) ∧ H'.obj (H.next + 2) = some (.map (mE (fun (x : List UInt8) => .v (str x)) v13))) ?_ fun cb hc6 => ?_
 ·rintro tm6e H6e ⟨v11, v12, v13, rfl, he6e, hl6e, t4_6e, ob0_6e, ob1_6e, ob2_6e⟩
  have h : MO v11 v12 v13 = some r := hk6; unfold MO at h; simp -implicitDefEqProofs only [go_sem]; subst hc4; refine wF t4_6e ?_; refine vO ?_; obtain rfl := sI h; refine sG ?_; refine OT (r := .tu [.p H.next 0, .v (.int .i64 0)]) (r' := .tu [.p H.next 0, .v (.int .i64 0)]) rfl (K5 (As he6e) (ks := [H.next, H.next + 1, H.next + 2]) (os := [.cells ([.mp (H.next + 1), .mp (H.next + 2), Be (fun (x : S33) => .v (str x.A9) :: .v (str x.Ac) :: .sl 2 (x.fDn.map fun x => [.v (str x.fType), .v (str x.A7)]) :: (x.A5.map fun x => .sl 1 (x.map fun x => [.v (str x)]))) v11]), .map (mE (fun (x : S39) => .ag (.v (str x.A9) :: .v (str x.Ac) :: (x.A5.map fun x => .sl 1 (x.map fun x => [.v (str x)])))) v12), .map (mE (fun (x : List UInt8) => .v (str x)) v13)]) (.cons (o := .cells ([.mp (H.next + 1), .mp (H.next + 2), Be (fun (x : S33) => .v (str x.A9) :: .v (str x.Ac) :: .sl 2 (x.fDn.map fun x => [.v (str x.fType), .v (str x.A7)]) :: (x.A5.map fun x => .sl 1 (x.map fun x => [.v (str x)]))) v11])) (by omega) (by omega) (eF ob0_6e) (.cells _ _ (.cons (.mpE (k := H.next + 1) (by simp [DJ]) (by simp [go_sem])) (.cons (.mpE (k := H.next + 2) (by simp [DJ]) (by simp [go_sem])) (.cons (.same _ (by exact nbA)) .nil)))) (.cons (o := .map (mE (fun (x : S39) => .ag (.v (str x.A9) :: .v (str x.Ac) :: (x.A5.map fun x => .sl 1 (x.map fun x => [.v (str x)])))) v12)) (by omega) (by omega) (eF ob1_6e) (.same _ (by exact CT)) (.cons (o := .map (mE (fun (x : List UInt8) => .v (str x)) v13)) (by omega) (by omega) (eF ob2_6e) (.same _ (by exact CT)) .nil))) (by simp [List.nodup_cons] <;> omega)) (.tuL (.cons (.pE (k := H.next) (by simp [DJ]) (by simp [go_sem])) (.cons (.same _ (by exact nbA)) .nil))) (hS _ rfl)
 refine Ah ?_; refine Az (fun (s : Int × (Option S33) × (List (List UInt8 × S39)) × (List (List UInt8 × (List UInt8)))) tm' H' => Ext H H' ∧ H.next + 3 ≤ H'.next ∧ tm' 4 = .p H.next 0 ∧ tm' 15 = .sl 2 (a0.map fun x => [.v (str x.Ba), .v (str x.A7)]) ∧ tm' 16 = .v (.int .i64 (a0.length : Int)) ∧ tm' 17 = .v (.int .i64 s.1) ∧ H'.obj H.next = some (.cells ([.mp (H.next + 1), .mp (H.next + 2), Be (fun (x : S33) => .v (str x.A9) :: .v (str x.Ac) :: .sl 2 (x.fDn.map fun x => [.v (str x.fType), .v (str x.A7)]) :: (x.A5.map fun x => .sl 1 (x.map fun x => [.v (str x)]))) s.2.1])) ∧ H'.obj (H.next + 1) = some (.map (mE (fun (x : S39) => .ag (.v (str x.A9) :: .v (str x.Ac) :: (x.A5.map fun x => .sl 1 (x.map fun x => [.v (str x)])))) s.2.2.1)) ∧ H'.obj (H.next + 2) = some (.map (mE (fun (x : List UInt8) => .v (str x)) s.2.2.2))) hl6q ?_ ?_
 ·refine .same ⟨by exact As (Ext.refl hw), by (simp -implicitDefEqProofs (disch := omega) [go_sem] <;> omega), ?_, ?_, ?_, ?_, ?_, ?_, ?_⟩ <;> (simp -implicitDefEqProofs (disch := omega) [go_sem] <;> omega)
 rintro I6 hI6 ⟨v7, v8, v9, v10⟩ x6 tm6 H6 ⟨he6, hl6, O0, Qc, Qd, O3, Dd, IP, Qe⟩ h hret6
 replace h : Gw a0 v7 v8 v9 v10 = some x6 := h; unfold Gw at h; refine wF (nd Qd O3) ?_; refine A3 fun cb hc16 => ?_; refine A8 h eA rfl ?_ ?_
 ·intro c17 h; refine vO ?_; subst hc16; refine A3 fun cb hc18 => ?_; refine Ah ?_; obtain ⟨g20, h⟩ := Ad.1 h; refine wF (nd Qc O3) ?_; refine Bg (fun tm' H' => Ext H H' ∧ H6.next + 1 ≤ H'.next ∧ tm' 4 = .p H.next 0 ∧ tm' 6 = .p H6.next 0 ∧ tm' 15 = .sl 2 (a0.map fun x => [.v (str x.Ba), .v (str x.A7)]) ∧ tm' 16 = .v (.int .i64 (a0.length : Int)) ∧ tm' 17 = .v (.int .i64 v7) ∧ H'.obj H.next = some (.cells ([.mp (H.next + 1), .mp (H.next + 2), Be (fun (x : S33) => .v (str x.A9) :: .v (str x.Ac) :: .sl 2 (x.fDn.map fun x => [.v (str x.fType), .v (str x.A7)]) :: (x.A5.map fun x => .sl 1 (x.map fun x => [.v (str x)]))) v8])) ∧ H'.obj (H.next + 1) = some (.map (mE (fun (x : S39) => .ag (.v (str x.A9) :: .v (str x.Ac) :: (x.A5.map fun x => .sl 1 (x.map fun x => [.v (str x)])))) v9)) ∧ H'.obj (H.next + 2) = some (.map (mE (fun (x : List UInt8) => .v (str x)) v10)) ∧ H'.obj H6.next = some (.cells ([.v (str ((a0.getD v7.toNat S78.zero).Ba)), .v (str ((a0.getD v7.toNat S78.zero).A7))])) ∧ Dy a0 v7 v8 v9 v10 = some x6) ?_ fun cb hc21 => ?_
  ·rintro tm21 H21 ⟨he21, hl21, PU, PV, ZE, ZF, ZG, Ms, ZH, ZI, Uc, h⟩
   unfold Dy at h; refine A3 fun cb hc22 => ?_; refine vF (nd PV Uc) ?_; obtain ⟨x23, hx23, h⟩ := A4 h; refine Aa.eqA eA (Tb ((a0.getD v7.toNat S78.zero).Ba) ([112]) hx23 ?_); refine sG ?_; subst hc22; refine A3 fun cb hc24 => ?_; refine vF (nd PV Uc) ?_; obtain ⟨x25, hx25, h⟩ := A4 h; refine Aa.eqA eA (TL ((a0.getD v7.toNat S78.zero).A7) ([10]) (by exact hV.of (he21).sn) hx25 ?_); refine sG ?_; subst hc24; refine A3 fun cb hc26 => ?_; refine vG ?_; obtain ⟨x27, hx27, h⟩ := A4 h; refine U6 x25.2.1 (by exact hV.of (he21).sn) hx27 ?_; obtain ⟨g28, h⟩ := Ad.1 h; refine sF g28 ?_; subst hc26; refine A3 fun cb hc29 => ?_; refine vG ?_; refine A6 h eA ?_ ?_
   ·intro c38 h; simp (disch := omega) at c38; refine sG ?_; subst hc29; refine Ai eA rfl ?_; refine wG ?_; refine vO ?_; obtain rfl := sI h; obtain rfl := hret6 _ rfl; replace h : some (none, 301) = some r := hk6; obtain rfl := sI h; refine sG ?_; refine Ay (As he21) rfl nbA (hN rfl)
   intro c38 h; simp (disch := omega) at c38; refine sG ?_; refine A6 h eA ?_ ?_
   ·intro c37 h; simp (disch := omega) at c37; refine sG ?_; subst hc29; refine Ai eA rfl ?_; refine wG ?_; refine vO ?_; obtain rfl := sI h; obtain rfl := hret6 _ rfl; replace h : some (none, 301) = some r := hk6; obtain rfl := sI h; refine sG ?_; refine Ay (As he21) rfl nbA (hN rfl)
   intro c37 h; simp (disch := omega) at c37; refine sG ?_; refine A6 h eA ?_ ?_
   ·intro c36 h; refine sG ?_; subst hc29; refine Ai eA rfl ?_; refine wG ?_; refine vO ?_; obtain rfl := sI h; obtain rfl := hret6 _ rfl; replace h : some (none, 301) = some r := hk6; obtain rfl := sI h; refine sG ?_; refine Ay (As he21) rfl nbA (hN rfl)
   intro c36 h; simp (disch := omega) at c36; simp -implicitDefEqProofs (disch := omega) [go_sem, bdP, PU, g28]; obtain ⟨x33, hx33, h⟩ := A4 h; refine Aa.wkL (args' := [.p H.next 0, .ag (.v (str ((⟨x23.1, x25.1, x27.1⟩ : S39).A9)) :: .v (str ((⟨x23.1, x25.1, x27.1⟩ : S39).Ac)) :: (((⟨x23.1, x25.1, x27.1⟩ : S39).A5).map fun x => .sl 1 (x.map fun x => [.v (str x)])))]) (by repeat (first | exact WkL.nil | refine WkL.cons ?_ ?_ | exact Wk.refl _)) (OW v9 v10 v8 (⟨x23.1, x25.1, x27.1⟩ : S39) H.next (H.next + 1) (H.next + 2) (eF Ms) (eF ZH) (eF ZI) (by omega) hx33 ?_); refine sG ?_; subst hc29; refine A8 h eA rfl ?_ ?_
   ·intro c34 h; refine wG ?_; refine vO ?_; obtain rfl := sI h; obtain rfl := hret6 _ rfl; replace h : some (none, 301) = some r := hk6; obtain rfl := sI h; refine sG ?_; refine Ay (As he21) rfl nbA (hN rfl)
   intro c34 h; simp (disch := omega) at c34; refine vO ?_; subst hc18; refine vF ZG ?_; obtain rfl := sI h; refine Aj hI6 ((IntKind.i64.wrap (v7 + 1), v8, x33.2.1, x33.2.2)) ?_; refine .same ⟨by exact As he21, by (simp -implicitDefEqProofs (disch := omega) [go_sem] <;> omega), ?_, ?_, ?_, ?_, ?_, ?_, ?_⟩ <;> (simp -implicitDefEqProofs (disch := omega) [go_sem, PU, ZE, ZF, Ms] <;> omega)
  refine A3 fun cb hc39 => ?_; refine vG ?_; refine A6 h eA ?_ ?_
  ·intro c46 h; simp (disch := omega) at c46; refine sF (nd O0 Dd) ?_; subst hc39; refine A8 h eA rfl ?_ ?_
   ·intro c40 h; simp (disch := omega) at c40; refine A3 fun cb hc41 => ?_; refine A3 fun cb hc42 => ?_; refine vF O0 ?_; obtain ⟨x43, hx43, h⟩ := A4 h; refine Aa.eqA eA (ZC v9 v10 v8 ((a0.getD v7.toNat S78.zero).A7) H.next (H.next + 1) (H.next + 2) (eF Dd) (eF IP) (eF Qe) (by exact hV.of (he6).sn) hx43 ?_); refine sG ?_; subst hc42; refine A8 h eA rfl ?_ ?_
    ·intro c44 h; simp (disch := omega) at c44; refine wG ?_; refine vO ?_; obtain rfl := sI h; obtain rfl := hret6 _ rfl; replace h : some (none, 301) = some r := hk6; obtain rfl := sI h; refine sG ?_; refine Ay (As he6) rfl nbA (hN rfl)
    intro c44 h; simp (disch := omega) at c44; refine vO ?_; subst hc41; refine vO ?_; subst hc18; refine vF O3 ?_; obtain rfl := sI h; refine Aj hI6 ((IntKind.i64.wrap (v7 + 1), x43.2, v9, v10)) ?_; refine .same ⟨by exact As he6, by (simp -implicitDefEqProofs (disch := omega) [go_sem] <;> omega), ?_, ?_, ?_, ?_, ?_, ?_, ?_⟩ <;> (simp -implicitDefEqProofs (disch := omega) [go_sem, O0, Qc, Qd, IP, Qe] <;> omega)
   intro c40 h; simp (disch := omega) at c40; refine vO ?_; refine hc21 _ _ ?_; refine .same ⟨by exact As he6, by (simp -implicitDefEqProofs (disch := omega) [go_sem] <;> omega), ?_, ?_, ?_, ?_, ?_, ?_, ?_, ?_, ?_, h⟩ <;> (simp -implicitDefEqProofs (disch := omega) [go_sem, O0, Qc, Qd, O3, Dd, IP, Qe] <;> omega)
  intro c46 h; simp (disch := omega) at c46; refine sG ?_; subst hc39; refine Al eA rfl ?_; refine vO ?_; refine hc21 _ _ ?_; refine .same ⟨by exact As he6, by (simp -implicitDefEqProofs (disch := omega) [go_sem] <;> omega), ?_, ?_, ?_, ?_, ?_, ?_, ?_, ?_, ?_, h⟩ <;> (simp -implicitDefEqProofs (disch := omega) [go_sem, O0, Qc, Qd, O3, Dd, IP, Qe] <;> omega)
 intro c17 h; simp (disch := omega) at c17; refine vO ?_; obtain rfl := sI h; have hy6 := hret6 _ rfl; refine hc6 _ _ ?_; refine .same ⟨v8, v9, v10, hy6, by exact As he6, by with_reducible assumption, ?_, ?_, ?_, ?_⟩ <;> first | with_reducible assumption | (simp -implicitDefEqProofs (disch := omega) [go_sem, O0] <;> omega)
noncomputable def MP  : Option ((List UInt8) × (List UInt8) × Bool) :=
 some ([], [], false)
noncomputable def Eu (a0 : List UInt8) (v5 : Int) : Option (Int ⊕ (Unit ⊕ ((List UInt8) × (List UInt8) × Bool))) :=
 if v5 < (a0.length : Int) then (gd (0 ≤ v5 ∧ v5 < a0.length) (if (((a0.getD v5.toNat 0).toNat : Int)) = 10 then (gd (0 ≤ v5) (gd (v5 ≤ a0.length) (gd (0 ≤ (IntKind.i64.wrap (v5 + 1))) (gd (IntKind.i64.wrap (v5 + 1) ≤ a0.length) (some (.inr (.inr (((a0.take v5.toNat), a0.drop (IntKind.i64.wrap (v5 + 1)).toNat, true))))))))) else (some (.inl (IntKind.i64.wrap (v5 + 1)))))) else (some (.inr (.inl ())))
noncomputable def Pn (a0 : List UInt8) : Option ((List UInt8) × (List UInt8) × Bool) :=
 (AD (fun (s : Int) => Eu a0 s) 0).bind fun y => Sum.elim (fun (e : Unit) => MP) (fun (q : (List UInt8) × (List UInt8) × Bool) => some q) y
theorem MQ {H : A2} {K : Au → A2 → Prop} (a0 : List UInt8) {r : (List UInt8) × (List UInt8) × Bool} (h : Pn a0 = some r) (hK : K (.ret (.tu [.v (str r.1), .v (str r.2.1), .v (.bool r.2.2)])) H) : Aa prog 106 [.v (str a0)] H K := by
 refine Ag (N := 23) func106 (by kernel_rfl) rfl (by kernel_rfl) (by kernel_rfl) fun cb hcb hw hbd hnb => ?_; clear hbd hnb; subst hcb; unfold Pn at h; refine wG ?_; refine A3 fun cb hc2 => ?_; refine wG ?_; obtain ⟨y4, hl4q, hk4⟩ := A4 h; refine AF (fun tm' H' => .inl () = y4 ∧ H = H') ?_ fun cb hc4 => ?_
 ·rintro tm4e H4e ⟨rfl, rfl⟩
  have h : MP = some r := hk4; unfold MP at h; simp -implicitDefEqProofs only [go_sem]; subst hc2; refine wG ?_; refine vO ?_; obtain rfl := sI h; refine sG ?_; exact Ap (.refl hw) hK
 refine Ah ?_; refine Az (fun (s : Int) tm' H' => H = H' ∧ tm' 0 = .v (str a0) ∧ tm' 5 = .v (.int .i64 s)) hl4q ?_ ?_
 ·exact sm
 rintro I4 hI4 v5 x4 tm4 H4 ⟨rfl, B4, El⟩ h hret4
 replace h : Eu a0 v5 = some x4 := h; unfold Eu at h; refine A3 fun cb hc7 => ?_; refine wF (nd B4 El) ?_; refine A8 h eA rfl ?_ ?_
 ·intro c9 h; refine vO ?_; subst hc7; refine A3 fun cb hc10 => ?_; refine Ah ?_; obtain ⟨g12, h⟩ := Ad.1 h; refine wF (nd B4 El) ?_; refine A8 h eA rfl ?_ ?_
  ·intro c13 h; simp (disch := omega) at c13; refine A3 fun cb hc14 => ?_; refine AB [] [0, 1, 2, 3, 4, 5, 6, 7, 8, 9] (by kernel_rfl) (by kernel_rfl) (fun _ _ _ _ h => h) ?_; obtain ⟨g15, h⟩ := Ad.1 h; obtain ⟨g16, h⟩ := Ad.1 h; obtain ⟨g17, h⟩ := Ad.1 h; obtain ⟨g18, h⟩ := Ad.1 h; refine sF (nd B4 El) ?_; subst hc14; refine vO ?_; obtain rfl := sI h; obtain rfl := hret4 _ rfl; replace h : some (((a0.take v5.toNat), a0.drop (IntKind.i64.wrap (v5 + 1)).toNat, true)) = some r := hk4; obtain rfl := sI h; refine sG ?_; exact Ap (.refl hw) hK
  intro c13 h; simp (disch := omega) at c13; refine vO ?_; subst hc10; refine vF El ?_; obtain rfl := sI h; refine Aj hI4 (IntKind.i64.wrap (v5 + 1)) ?_; exact smF B4
 intro c9 h; simp (disch := omega) at c9; refine vO ?_; obtain rfl := sI h; have hy4 := hret4 _ rfl; refine hc4 _ _ ?_; refine .same ⟨hy4, rfl⟩
noncomputable def Po (a0 : Int) : Option Bool :=
 if a0 = 44 then (some true) else (if a0 = 43 then (some true) else (if a0 = 34 then (some true) else (if a0 = 92 then (some true) else (if a0 = 60 then (some true) else (if a0 = 62 then (some true) else (if a0 = 59 then (some true) else (some (decide (a0 = 61)))))))))
theorem MR {H : A2} {K : Au → A2 → Prop} (a0 : Int) {r : Bool} (h : Po a0 = some r) (hK : K (.ret (.v (.bool r))) H) : Aa prog 144 [.v (.int .u8 a0)] H K := by
 refine Ag (N := 33) func144 (by kernel_rfl) rfl (by kernel_rfl) (by kernel_rfl) fun cb hcb hw hbd hnb => ?_; clear hbd hnb; subst hcb; unfold Po at h; refine wG ?_; refine A3 fun cb hc2 => ?_; refine vG ?_; refine A6 h rfl ?_ ?_
 ·intro c9 h; refine sG ?_; subst hc2; refine vO ?_; obtain rfl := sI h; refine sG ?_; exact Ap (.refl hw) hK
 intro c9 h; refine sG ?_; refine A6 h rfl ?_ ?_
 ·intro c8 h; refine sG ?_; subst hc2; refine vO ?_; obtain rfl := sI h; refine sG ?_; exact Ap (.refl hw) hK
 intro c8 h; refine sG ?_; refine A6 h rfl ?_ ?_
 ·intro c7 h; refine sG ?_; subst hc2; refine vO ?_; obtain rfl := sI h; refine sG ?_; exact Ap (.refl hw) hK
 intro c7 h; refine sG ?_; refine A6 h rfl ?_ ?_
 ·intro c6 h; refine sG ?_; subst hc2; refine vO ?_; obtain rfl := sI h; refine sG ?_; exact Ap (.refl hw) hK
 intro c6 h; refine sG ?_; refine A6 h rfl ?_ ?_
 ·intro c5 h; refine sG ?_; subst hc2; refine vO ?_; obtain rfl := sI h; refine sG ?_; exact Ap (.refl hw) hK
 intro c5 h; refine sG ?_; refine A6 h rfl ?_ ?_
 ·intro c4 h; refine sG ?_; subst hc2; refine vO ?_; obtain rfl := sI h; refine sG ?_; exact Ap (.refl hw) hK
 intro c4 h; refine sG ?_; refine A6 h rfl ?_ ?_
 ·intro c3 h; refine sG ?_; subst hc2; refine vO ?_; obtain rfl := sI h; refine sG ?_; exact Ap (.refl hw) hK
 intro c3 h; refine sG ?_; subst hc2; refine vO ?_; obtain rfl := sI h; refine sG ?_; exact Ap (.refl hw) hK
noncomputable def Je (a0 : Int) : Option Int :=
 if 65 ≤ a0 then (if a0 ≤ 70 then (some (IntKind.i64.wrap ((IntKind.i64.wrap a0) - 55))) else (some (-1))) else (some (-1))
noncomputable def Jf (a0 : Int) : Option Int :=
 if 97 ≤ a0 then (if a0 ≤ 102 then (some (IntKind.i64.wrap ((IntKind.i64.wrap a0) - 87))) else (Je a0)) else (Je a0)
noncomputable def O4 (a0 : Int) : Option Int :=
 if 48 ≤ a0 then (if a0 ≤ 57 then (some (IntKind.i64.wrap ((IntKind.i64.wrap a0) - 48))) else (Jf a0)) else (Jf a0)
theorem Jg {H : A2} {K : Au → A2 → Prop} (a0 : Int) {r : Int} (h : O4 a0 = some r) (hK : K (.ret (.v (.int .i64 r))) H) : Aa prog 191 [.v (.int .u8 a0)] H K := by
 refine Ag (N := 30) func191 (by kernel_rfl) rfl (by kernel_rfl) (by kernel_rfl) fun cb hcb hw hbd hnb => ?_; clear hbd hnb; subst hcb; unfold O4 at h; refine wG ?_; refine Bg (fun tm' H' => H = H' ∧ tm' 0 = .v (.int .u8 a0) ∧ Jf a0 = some r) ?_ fun cb hc2 => ?_
 ·rintro tm2 H2 ⟨rfl, P6, h⟩
  unfold Jf at h; refine Bg (fun tm' H' => H = H' ∧ tm' 0 = .v (.int .u8 a0) ∧ Je a0 = some r) ?_ fun cb hc3 => ?_
  ·rintro tm3 H3 ⟨rfl, GY, h⟩
   unfold Je at h; refine A3 fun cb hc4 => ?_; refine A3 fun cb hc5 => ?_; refine vF GY ?_; refine A6 h rfl ?_ ?_
   ·intro c10 h; refine sF GY ?_; subst hc5; refine A8 h eA rfl ?_ ?_
    ·intro c6 h; refine wF GY ?_; refine vO ?_; obtain rfl := sI h; refine sG ?_; exact Ap (.refl hw) hK
    intro c6 h; simp (disch := omega) at c6; refine vO ?_; subst hc4; refine wG ?_; refine vO ?_; obtain rfl := sI h; refine sG ?_; exact Ap (.refl hw) hK
   intro c10 h; simp (disch := omega) at c10; refine sG ?_; subst hc5; refine Al eA rfl ?_; refine vO ?_; subst hc4; refine wG ?_; refine vO ?_; obtain rfl := sI h; refine sG ?_; exact Ap (.refl hw) hK
  refine A3 fun cb hc11 => ?_; refine vF P6 ?_; refine A6 h rfl ?_ ?_
  ·intro c14 h; refine sF P6 ?_; subst hc11; refine A8 h eA rfl ?_ ?_
   ·intro c12 h; refine wF P6 ?_; refine vO ?_; obtain rfl := sI h; refine sG ?_; exact Ap (.refl hw) hK
   intro c12 h; simp (disch := omega) at c12; refine vO ?_; refine hc3 _ _ ?_; refine .same ⟨rfl, by (simp -implicitDefEqProofs (disch := omega) [go_sem, P6] <;> omega), h⟩
  intro c14 h; simp (disch := omega) at c14; refine sG ?_; subst hc11; refine Al eA rfl ?_; refine vO ?_; refine hc3 _ _ ?_; refine .same ⟨rfl, by (simp -implicitDefEqProofs (disch := omega) [go_sem, P6] <;> omega), h⟩
 refine A3 fun cb hc15 => ?_; refine vG ?_; refine A6 h rfl ?_ ?_
 ·intro c18 h; refine sG ?_; subst hc15; refine A8 h eA rfl ?_ ?_
  ·intro c16 h; refine wG ?_; refine vO ?_; obtain rfl := sI h; refine sG ?_; exact Ap (.refl hw) hK
  intro c16 h; simp (disch := omega) at c16; refine vO ?_; refine hc2 _ _ ?_; refine .same ⟨rfl, by (simp -implicitDefEqProofs (disch := omega) [go_sem] <;> omega), h⟩
 intro c18 h; simp (disch := omega) at c18; refine sG ?_; subst hc15; refine Al eA rfl ?_; refine vO ?_; refine hc2 _ _ ?_; refine .same ⟨rfl, by (simp -implicitDefEqProofs (disch := omega) [go_sem] <;> omega), h⟩
noncomputable def Rv (a0 : List UInt8) (a1 : Int) : Option (Int × Int × Bool) :=
 gd (0 ≤ a1 ∧ a1 < a0.length) (if ¬ (((a0.getD a1.toNat 0).toNat : Int)) = 92 then ((Po (((a0.getD a1.toNat 0).toNat : Int))).bind fun (x9 : Bool) => if x9 = true then (some (0, 0, false)) else (if (((a0.getD a1.toNat 0).toNat : Int)) < 32 then (some (0, 0, false)) else (if 126 < (((a0.getD a1.toNat 0).toNat : Int)) then (some (0, 0, false)) else (some ((((a0.getD a1.toNat 0).toNat : Int), 1, false)))))) else (if (a0.length : Int) ≤ (IntKind.i64.wrap (a1 + 1)) then (some (0, 0, false)) else (gd (0 ≤ (IntKind.i64.wrap (a1 + 1)) ∧ (IntKind.i64.wrap (a1 + 1)) < a0.length) ((Po (((a0.getD (IntKind.i64.wrap (a1 + 1)).toNat 0).toNat : Int))).bind fun (x25 : Bool) => if x25 = true then (some ((((a0.getD (IntKind.i64.wrap (a1 + 1)).toNat 0).toNat : Int), 2, true))) else (if (((a0.getD (IntKind.i64.wrap (a1 + 1)).toNat 0).toNat : Int)) = 32 then (some ((((a0.getD (IntKind.i64.wrap (a1 + 1)).toNat 0).toNat : Int), 2, true))) else (if (((a0.getD (IntKind.i64.wrap (a1 + 1)).toNat 0).toNat : Int)) = 35 then (some ((((a0.getD (IntKind.i64.wrap (a1 + 1)).toNat 0).toNat : Int), 2, true))) else (if (a0.length : Int) ≤ (IntKind.i64.wrap (a1 + 2)) then (some (0, 0, false)) else ((O4 (((a0.getD (IntKind.i64.wrap (a1 + 1)).toNat 0).toNat : Int))).bind fun (x33 : Int) => if x33 < 0 then (some (0, 0, false)) else (gd (0 ≤ (IntKind.i64.wrap (a1 + 2)) ∧ (IntKind.i64.wrap (a1 + 2)) < a0.length) ((O4 (((a0.getD (IntKind.i64.wrap (a1 + 2)).toNat 0).toNat : Int))).bind fun (x36 : Int) => if x36 < 0 then (some (0, 0, false)) else ((O4 (((a0.getD (IntKind.i64.wrap (a1 + 1)).toNat 0).toNat : Int))).bind fun (x40 : Int) => (O4 (((a0.getD (IntKind.i64.wrap (a1 + 2)).toNat 0).toNat : Int))).bind fun (x41 : Int) => some ((IntKind.u8.wrap (IntKind.i64.wrap ((IntKind.i64.wrap (16 * x40)) + x41)), 3, true)))))))))))))
theorem Wp {H : A2} {K : Au → A2 → Prop} (a0 : List UInt8) (a1 : Int) {r : Int × Int × Bool} (h : Rv a0 a1 = some r) (hK : K (.ret (.tu [.v (.int .u8 r.1), .v (.int .i64 r.2.1), .v (.bool r.2.2)])) H) : Aa prog 164 [.v (str a0), .v (.int .i64 a1)] H K := by
 refine Ag (N := 73) func164 (by kernel_rfl) rfl (by kernel_rfl) (by kernel_rfl) fun cb hcb hw hbd hnb => ?_; clear hbd hnb; subst hcb; unfold Rv at h; refine wG ?_; obtain ⟨g3, h⟩ := Ad.1 h; refine wG ?_; refine A3 fun cb hc4 => ?_; refine wG ?_; refine A8 h eA rfl ?_ ?_
 ·intro c6 h; simp (disch := omega) at c6; refine A3 fun cb hc7 => ?_; refine A3 fun cb hc8 => ?_; refine vG ?_; obtain ⟨x9, hx9, h⟩ := A4 h; refine Aa.eqA eA (MR (((a0.getD a1.toNat 0).toNat : Int)) hx9 ?_); refine sG ?_; refine A6 h eA ?_ ?_
  ·intro c16 h; refine sG ?_; subst hc8; refine Ai eA rfl ?_; refine wG ?_; refine vO ?_; obtain rfl := sI h; refine sG ?_; exact Ap (.refl hw) hK
  intro c16 h; simp (disch := omega) at c16; refine sG ?_; refine A6 h eA ?_ ?_
  ·intro c15 h; simp (disch := omega) at c15; refine sG ?_; subst hc8; refine Ai eA rfl ?_; refine wG ?_; refine vO ?_; obtain rfl := sI h; refine sG ?_; exact Ap (.refl hw) hK
  intro c15 h; simp (disch := omega) at c15; refine sG ?_; subst hc8; refine A8 h eA rfl ?_ ?_
  ·intro c12 h; simp (disch := omega) at c12; refine wG ?_; refine vO ?_; obtain rfl := sI h; refine sG ?_; exact Ap (.refl hw) hK
  intro c12 h; simp (disch := omega) at c12; refine vO ?_; subst hc7; refine wG ?_; refine vO ?_; obtain rfl := sI h; refine sG ?_; exact Ap (.refl hw) hK
 intro c6 h; simp (disch := omega) at c6; refine vO ?_; subst hc4; refine A3 fun cb hc17 => ?_; refine wG ?_; refine A8 h eA rfl ?_ ?_
 ·intro c19 h; refine wG ?_; refine vO ?_; obtain rfl := sI h; refine sG ?_; exact Ap (.refl hw) hK
 intro c19 h; simp (disch := omega) at c19; refine vO ?_; subst hc17; obtain ⟨g22, h⟩ := Ad.1 h; refine wG ?_; refine A3 fun cb hc23 => ?_; refine A3 fun cb hc24 => ?_; refine vG ?_; obtain ⟨x25, hx25, h⟩ := A4 h; refine Aa.eqA eA (MR (((a0.getD (IntKind.i64.wrap (a1 + 1)).toNat 0).toNat : Int)) hx25 ?_); refine sG ?_; refine A6 h eA ?_ ?_
 ·intro c45 h; refine sG ?_; subst hc24; refine Ai eA rfl ?_; refine wG ?_; refine vO ?_; obtain rfl := sI h; refine sG ?_; exact Ap (.refl hw) hK
 intro c45 h; simp (disch := omega) at c45; refine sG ?_; refine A6 h eA ?_ ?_
 ·intro c44 h; simp (disch := omega) at c44; refine sG ?_; subst hc24; refine Ai eA rfl ?_; refine wG ?_; refine vO ?_; obtain rfl := sI h; refine sG ?_; exact Ap (.refl hw) hK
 intro c44 h; simp (disch := omega) at c44; refine sG ?_; subst hc24; refine A8 h eA rfl ?_ ?_
 ·intro c28 h; simp (disch := omega) at c28; refine wG ?_; refine vO ?_; obtain rfl := sI h; refine sG ?_; exact Ap (.refl hw) hK
 intro c28 h; simp (disch := omega) at c28; refine vO ?_; subst hc23; refine A3 fun cb hc30 => ?_; refine A3 fun cb hc31 => ?_; refine vG ?_; refine A6 h rfl ?_ ?_
 ·intro c43 h; refine sG ?_; subst hc31; refine Ai eA rfl ?_; refine wG ?_; refine vO ?_; obtain rfl := sI h; refine sG ?_; exact Ap (.refl hw) hK
 intro c43 h; simp (disch := omega) at c43; refine sG ?_; obtain ⟨x33, hx33, h⟩ := A4 h; refine Aa.eqA eA (Jg (((a0.getD (IntKind.i64.wrap (a1 + 1)).toNat 0).toNat : Int)) hx33 ?_); refine sG ?_; refine A6 h rfl ?_ ?_
 ·intro c42 h; refine sG ?_; subst hc31; refine Ai eA rfl ?_; refine wG ?_; refine vO ?_; obtain rfl := sI h; refine sG ?_; exact Ap (.refl hw) hK
 intro c42 h; simp (disch := omega) at c42; obtain ⟨g35, h⟩ := Ad.1 h; refine sG ?_; obtain ⟨x36, hx36, h⟩ := A4 h; refine Aa.eqA eA (Jg (((a0.getD (IntKind.i64.wrap (a1 + 2)).toNat 0).toNat : Int)) hx36 ?_); refine sG ?_; subst hc31; refine A8 h eA rfl ?_ ?_
 ·intro c37 h; refine wG ?_; refine vO ?_; obtain rfl := sI h; refine sG ?_; exact Ap (.refl hw) hK
 intro c37 h; simp (disch := omega) at c37; refine vO ?_; subst hc30; refine A3 fun cb hc39 => ?_; refine AB [1, 7] [0, 1, 2, 3, 4, 5, 6, 7, 8, 9, 10, 11, 12] (by kernel_rfl) (by kernel_rfl) (fun _ _ _ _ h => h) ?_; refine sG ?_; obtain ⟨x40, hx40, h⟩ := A4 h; refine BS.mk _ (fun _ _ hK => Aa.eqA eA (Jg (((a0.getD (IntKind.i64.wrap (a1 + 1)).toNat 0).toNat : Int)) hx40 hK)) ?_; refine sG ?_; obtain ⟨x41, hx41, h⟩ := A4 h; refine BS.mk _ (fun _ _ hK => Aa.eqA eA (Jg (((a0.getD (IntKind.i64.wrap (a1 + 2)).toNat 0).toNat : Int)) hx41 hK)) ?_; refine sG ?_; subst hc39; refine vO ?_; obtain rfl := sI h; refine sG ?_; exact Ap (.refl hw) hK
end Go.Idl
namespace Go.Idl
set_option maxHeartbeats 8000000
set_option pp.deepTerms false
set_option maxRecDepth 60000
open Go Go.Proofs.Tryz
noncomputable def Fh (x16 : (List UInt8)) (v26 : Int) (v27 : List UInt8) (v29 : Bool) (v30 : S89) : Option (S89 × Int × Bool) :=
 if ¬ (v29 = true) then (if 1 ≤ (v27.length : Int) then (some (((⟨x16, v27⟩ : S89), v26, decide ((v27.length : Int) ≤ 200)))) else (some (((⟨x16, v27⟩ : S89), v26, false)))) else (some (((⟨x16, v27⟩ : S89), v26, false)))
noncomputable def BY (v21 : Int) (v25 : S89) (x40 : Int × Int × Bool) (v42 : List UInt8) : Option ((Int × (List UInt8) × Bool × S89) ⊕ ((Int × (List UInt8) × Bool × S89) ⊕ (S89 × Int × Bool))) :=
 if x40.1 = 32 then (gd (0 ≤ x40.1 ∧ x40.1 ≤ 255) (gd ((v42.length + ([UInt8.ofNat x40.1.toNat]).length) * 1 ≤ 140737488355328) (some (.inl ((IntKind.i64.wrap (v21 + x40.2.1), v42 ++ ([UInt8.ofNat x40.1.toNat]), !x40.2.2, v25)))))) else (gd (0 ≤ x40.1 ∧ x40.1 ≤ 255) (gd ((v42.length + ([UInt8.ofNat x40.1.toNat]).length) * 1 ≤ 140737488355328) (some (.inl ((IntKind.i64.wrap (v21 + x40.2.1), v42 ++ ([UInt8.ofNat x40.1.toNat]), false, v25))))))
noncomputable def E2 (a0 : List UInt8) (v21 : Int) (v22 : List UInt8) (v24 : Bool) (v25 : S89) : Option ((Int × (List UInt8) × Bool × S89) ⊕ ((Int × (List UInt8) × Bool × S89) ⊕ (S89 × Int × Bool))) :=
 if v21 < (a0.length : Int) then (gd (0 ≤ v21 ∧ v21 < a0.length) (if ¬ (((a0.getD v21.toNat 0).toNat : Int)) = 44 then ((Rv a0 v21).bind fun (x40 : Int × Int × Bool) => if x40.2.1 = 0 then (some (.inr (.inr (((⟨[], []⟩ : S89), 0, false))))) else (if (v22.length : Int) = 0 then (if ¬ (x40.2.2 = true) then (if x40.1 = 32 then (some (.inr (.inr (((⟨[], []⟩ : S89), 0, false))))) else (if x40.1 = 35 then (some (.inr (.inr (((⟨[], []⟩ : S89), 0, false))))) else (BY v21 v25 x40 v22))) else (BY v21 v25 x40 v22)) else (BY v21 v25 x40 v22))) else (some (.inr (.inl (v21, v22, v24, v25)))))) else (some (.inr (.inl (v21, v22, v24, v25))))
noncomputable def FE (a0 : List UInt8) (a1 : Int) (v5 : Int) : Option (S89 × Int × Bool) :=
 if (a0.length : Int) ≤ v5 then (some (((⟨[], []⟩ : S89), 0, false))) else (gd (0 ≤ a1) (gd (a1 ≤ v5) (gd (v5 ≤ a0.length) ((Ra ((a0.take v5.toNat).drop a1.toNat)).bind fun (x12 : Bool) => if ¬ (x12 = true) then (some (((⟨[], []⟩ : S89), 0, false))) else ((Rb ((a0.take v5.toNat).drop a1.toNat)).bind fun (x16 : (List UInt8)) => (AD (fun (s : Int × (List UInt8) × Bool × S89) => E2 a0 s.1 s.2.1 s.2.2.1 s.2.2.2) ((IntKind.i64.wrap (v5 + 1)), [], false, (⟨[], []⟩ : S89))).bind fun y => Sum.elim (fun (e : Int × (List UInt8) × Bool × S89) => Fh x16 e.1 e.2.1 e.2.2.1 e.2.2.2) (fun (q : S89 × Int × Bool) => some q) y)))))
noncomputable def Ev (a0 : List UInt8) (v4 : Int) : Option (Int ⊕ Int) :=
 if v4 < (a0.length : Int) then (gd (0 ≤ v4 ∧ v4 < a0.length) (if ¬ (((a0.getD v4.toNat 0).toNat : Int)) = 61 then (some (.inl (IntKind.i64.wrap (v4 + 1)))) else (some (.inr v4)))) else (some (.inr v4))
noncomputable def Rw (a0 : List UInt8) (a1 : Int) : Option (S89 × Int × Bool) :=
 (AD (fun (s : Int) => Ev a0 s) a1).bind fun (e : Int) => FE a0 a1 e
theorem Wq {H : A2} {K : Au → A2 → Prop} (a0 : List UInt8) (a1 : Int) {r : S89 × Int × Bool} (h : Rw a0 a1 = some r) (hK : K (.ret (.tu [.ag ([.v (str r.1.fType), .v (str r.1.A7)]), .v (.int .i64 r.2.1), .v (.bool r.2.2)])) H) : Aa prog 142 [.v (str a0), .v (.int .i64 a1)] H K := by
 refine Ag (N := 115) func142 (by kernel_rfl) rfl (by kernel_rfl) (by kernel_rfl) fun cb hcb hw hbd hnb => ?_; clear hbd hnb; subst hcb; unfold Rw at h; refine wG ?_; refine wG ?_; obtain ⟨y3, hl3q, hk3⟩ := A4 h; refine Bg (fun tm' H' => ∃ v5 : Int, v5 = y3 ∧ Ext H H' ∧ H.next + 1 ≤ H'.next ∧ tm' 0 = .v (str a0) ∧ tm' 1 = .v (.int .i64 v5) ∧ tm' 4 = .p H.next 0 ∧ tm' 7 = .v (.int .i64 a1) ∧ H'.obj H.next = some (.cells ([.v (str []), .v (str [])]))) ?_ fun cb hc3 => ?_
 ·rintro tm3e H3e ⟨v5, rfl, he3e, hl3e, t0_3e, t1_3e, t4_3e, t7_3e, ob0_3e⟩
  have h : FE a0 a1 v5 = some r := hk3; unfold FE at h; refine A3 fun cb hc6 => ?_; refine A3 fun cb hc7 => ?_; refine vF (nd t0_3e t1_3e) ?_; refine A6 h rfl ?_ ?_
  ·intro c68 h; refine sG ?_; subst hc7; refine Ai eA rfl ?_; refine A3 fun cb hc8 => ?_; refine v0 ?_; simp -implicitDefEqProofs (disch := omega) [go_sem, bdP, t4_3e, ob0_3e]; subst hc8; refine vO ?_; obtain rfl := sI h; refine sF t4_3e ?_; refine Ay (As he3e) rfl nbA hK
  intro c68 h; simp (disch := omega) at c68; obtain ⟨g9, h⟩ := Ad.1 h; obtain ⟨g10, h⟩ := Ad.1 h; obtain ⟨g11, h⟩ := Ad.1 h; refine sF (nd t0_3e (nd t1_3e t7_3e)) ?_; obtain ⟨x12, hx12, h⟩ := A4 h; refine PZ ((a0.take v5.toNat).drop a1.toNat) hx12 ?_; refine sG ?_; subst hc7; refine A8 h eA rfl ?_ ?_
  ·intro c13 h; simp (disch := omega) at c13; refine A3 fun cb hc14 => ?_; refine v0 ?_; simp -implicitDefEqProofs (disch := omega) [go_sem, bdP, t4_3e, ob0_3e]; subst hc14; refine vO ?_; obtain rfl := sI h; refine sF t4_3e ?_; refine Ay (As he3e) rfl nbA hK
  intro c13 h; simp (disch := omega) at c13; refine vO ?_; subst hc6; refine A3 fun cb hc15 => ?_; refine vF (nd t0_3e (nd t1_3e t7_3e)) ?_; obtain ⟨x16, hx16, h⟩ := A4 h; refine P_ ((a0.take v5.toNat).drop a1.toNat) hx16 ?_; simp -implicitDefEqProofs (disch := omega) [go_sem, bdP]; subst hc15; refine wF t1_3e ?_; refine wG ?_; refine wG ?_; obtain ⟨y20, hl20q, hk20⟩ := A4 h; refine Bg (fun tm' H' => ∃ n28 : Nat, ∃ v26 : Int, ∃ v27 : List UInt8, ∃ v29 : Bool, ∃ v30 : S89, .inl (v26, v27, v29, v30) = y20 ∧ Ext H H' ∧ H3e.next + 1 ≤ H'.next ∧ H.next ≤ n28 ∧ n28 < H'.next ∧ ¬ H.next = n28 ∧ ¬ H3e.next = n28 ∧ tm' 1 = .v (.int .i64 v26) ∧ tm' 4 = .p H.next 0 ∧ tm' 8 = .p H3e.next 0 ∧ tm' 9 = .os n28 v27.length ∧ tm' 10 = .v (.bool v29) ∧ H'.obj H.next = some (.cells ([.v (str v30.fType), .v (str v30.A7)])) ∧ H'.obj H3e.next = some (.cells ([.v (str x16), .v (str [])])) ∧ H'.obj n28 = some (.row 1 (v27.map fun x => [.v (.int .u8 x.toNat)]))) ?_ fun cb hc20 => ?_
  ·rintro tm20e H20e ⟨n28, v26, v27, v29, v30, rfl, he20e, hl20e, hr0_20e, hs0_20e, hq64, hq65, t1_20e, t4_20e, t8_20e, t9_20e, t10_20e, ob0_20e, ob1_20e, or0_20e⟩
   have h : Fh x16 v26 v27 v29 v30 = some r := hk20; unfold Fh at h; refine A3 fun cb hc31 => ?_; refine IWp.gh (Gh.freeze (d := 9) (k := n28) (sz := 1) (es := v27.map fun x => [.v (.int .u8 x.toNat)]) (eF or0_20e) (eF t9_20e)) ?_; refine vF (nd t8_20e ob1_20e) ?_; subst hc31; refine A3 fun cb hc32 => ?_; refine vF (nd t1_20e (nd t8_20e t10_20e)) ?_; refine A6 h eA ?_ ?_
   ·intro c34 h; simp (disch := omega) at c34; refine sG ?_; refine A6 h rfl ?_ ?_
    ·intro c33 h; refine sF (nd t4_20e ob0_20e) ?_; subst hc32; refine vO ?_; obtain rfl := sI h; refine sF t4_20e ?_; refine Ay (As he20e) rfl nbA hK
    intro c33 h; simp (disch := omega) at c33; refine sF (nd t4_20e ob0_20e) ?_; subst hc32; refine vO ?_; obtain rfl := sI h; refine sF t4_20e ?_; refine Ay (As he20e) rfl nbA hK
   intro c34 h; simp (disch := omega) at c34; refine sF (nd t4_20e ob0_20e) ?_; subst hc32; refine vO ?_; obtain rfl := sI h; refine sF t4_20e ?_; refine Ay (As he20e) rfl nbA hK
  refine Ah ?_; refine Az (fun (s : Int × (List UInt8) × Bool × S89) tm' H' => ∃ n23 : Nat, Ext H H' ∧ H3e.next + 1 ≤ H'.next ∧ H.next ≤ n23 ∧ n23 < H'.next ∧ ¬ H.next = n23 ∧ ¬ H3e.next = n23 ∧ tm' 0 = .v (str a0) ∧ tm' 1 = .v (.int .i64 s.1) ∧ tm' 4 = .p H.next 0 ∧ tm' 8 = .p H3e.next 0 ∧ tm' 9 = .os n23 s.2.1.length ∧ tm' 10 = .v (.bool s.2.2.1) ∧ H'.obj H.next = some (.cells ([.v (str s.2.2.2.fType), .v (str s.2.2.2.A7)])) ∧ H'.obj H3e.next = some (.cells ([.v (str x16), .v (str [])])) ∧ H'.obj n23 = some (.row 1 (s.2.1.map fun x => [.v (.int .u8 x.toNat)]))) hl20q ?_ ?_
  ·refine UpI.gh (Gh.Md (d := 9) (sz := 1) (by omega) eA) ?_; refine .same ⟨H3e.next + 1, by exact As he3e, by (simp -implicitDefEqProofs (disch := omega) [go_sem] <;> omega), by omega, by (simp -implicitDefEqProofs (disch := omega) [go_sem] <;> omega), by omega, by omega, ?_, ?_, ?_, ?_, ?_, ?_, ?_, ?_, ?_⟩ <;> (simp -implicitDefEqProofs (disch := omega) [go_sem, t0_3e, t4_3e, ob0_3e] <;> omega)
  rintro I20 hI20 ⟨v21, v22, v24, v25⟩ x20 tm20 H20 ⟨n23, he20, hl20, kI, kJ, hq66, hq67, LH, IQ, Fi, O5, LI, Ud, Pp, kK, kL⟩ h hret20
  replace h : E2 a0 v21 v22 v24 v25 = some x20 := h; unfold E2 at h; refine A3 fun cb hc35 => ?_; refine A3 fun cb hc36 => ?_; refine vF (nd LH IQ) ?_; refine A6 h rfl ?_ ?_
  ·intro c63 h; obtain ⟨g37, h⟩ := Ad.1 h; refine sF (nd LH IQ) ?_; subst hc36; refine A8 h eA rfl ?_ ?_
   ·intro c38 h; simp (disch := omega) at c38; refine vO ?_; subst hc35; refine Ah ?_; refine A3 fun cb hc39 => ?_; refine vF (nd LH IQ) ?_; obtain ⟨x40, hx40, h⟩ := A4 h; refine Wp a0 v21 hx40 ?_; refine sG ?_; subst hc39; refine Bg (fun tm' H' => ∃ n43 : Nat, ∃ v42 : List UInt8, Ext H H' ∧ H20.next ≤ H'.next ∧ H.next ≤ n43 ∧ n43 < H'.next ∧ ¬ H.next = n43 ∧ ¬ H3e.next = n43 ∧ tm' 0 = .v (str a0) ∧ tm' 1 = .v (.int .i64 v21) ∧ tm' 4 = .p H.next 0 ∧ tm' 8 = .p H3e.next 0 ∧ tm' 9 = .os n43 v42.length ∧ tm' 11 = .v (.int .u8 x40.1) ∧ tm' 12 = .v (.int .i64 x40.2.1) ∧ tm' 13 = .v (.bool x40.2.2) ∧ H'.obj H.next = some (.cells ([.v (str v25.fType), .v (str v25.A7)])) ∧ H'.obj H3e.next = some (.cells ([.v (str x16), .v (str [])])) ∧ H'.obj n43 = some (.row 1 (v42.map fun x => [.v (.int .u8 x.toNat)])) ∧ BY v21 v25 x40 v42 = some x20) ?_ fun cb hc41 => ?_
    ·rintro tm41 H41 ⟨n43, v42, he41, hl41, kM, kN, hq61, hq62, Xw, Xx, Xy, Xz, XA, Pq, Ue, ZJ, Uf, Ug, Uh, h⟩
     unfold BY at h; refine A3 fun cb hc44 => ?_; refine vF Pq ?_; refine A6 h rfl ?_ ?_
     ·intro c51 h; refine sF ZJ ?_; subst hc44; obtain ⟨g46, h⟩ := Ad.1 h; obtain ⟨g47, h⟩ := gS h; refine wF (nd XA (nd Pq Uh)) ?_; refine vF (nd Xx Ue) ?_; obtain rfl := sI h; refine Aj hI20 ((IntKind.i64.wrap (v21 + x40.2.1), v42 ++ ([UInt8.ofNat x40.1.toNat]), !x40.2.2, v25)) ?_; refine .same ⟨n43, by exact As he41, by (simp -implicitDefEqProofs (disch := omega) [go_sem] <;> omega), by with_reducible assumption, by (simp -implicitDefEqProofs (disch := omega) [go_sem] <;> omega), by with_reducible assumption, by with_reducible assumption, ?_, ?_, ?_, ?_, ?_, ?_, ?_, ?_, ?_⟩ <;> (simp -implicitDefEqProofs (disch := omega) [go_sem, Xw, Xy, Xz, Uf, Ug] <;> omega)
     intro c51 h; refine sG ?_; subst hc44; obtain ⟨g49, h⟩ := Ad.1 h; obtain ⟨g50, h⟩ := gS h; refine wF (nd XA (nd Pq Uh)) ?_; refine vF (nd Xx Ue) ?_; obtain rfl := sI h; refine Aj hI20 ((IntKind.i64.wrap (v21 + x40.2.1), v42 ++ ([UInt8.ofNat x40.1.toNat]), false, v25)) ?_; refine .same ⟨n43, by exact As he41, by (simp -implicitDefEqProofs (disch := omega) [go_sem] <;> omega), by with_reducible assumption, by (simp -implicitDefEqProofs (disch := omega) [go_sem] <;> omega), by with_reducible assumption, by with_reducible assumption, ?_, ?_, ?_, ?_, ?_, ?_, ?_, ?_, ?_⟩ <;> (simp -implicitDefEqProofs (disch := omega) [go_sem, Xw, Xy, Xz, Uf, Ug] <;> omega)
    refine A3 fun cb hc52 => ?_; refine vG ?_; refine A6 h rfl ?_ ?_
    ·intro c60 h; refine sG ?_; subst hc52; refine Ai eA rfl ?_; refine A3 fun cb hc53 => ?_; refine v0 ?_; simp -implicitDefEqProofs (disch := omega) [go_sem, bdP, Fi, Pp]; subst hc53; refine vO ?_; obtain rfl := sI h; obtain rfl := hret20 _ rfl; replace h : some (((⟨[], []⟩ : S89), 0, false)) = some r := hk20; obtain rfl := sI h; refine sF Fi ?_; refine Ay (As he20) rfl nbA hK
    intro c60 h; refine sF LI ?_; refine A6 h eA ?_ ?_
    ·intro c59 h; simp (disch := omega) at c59; refine sG ?_; refine A6 h eA ?_ ?_
     ·intro c58 h; simp (disch := omega) at c58; refine sG ?_; refine A6 h rfl ?_ ?_
      ·intro c57 h; refine sG ?_; subst hc52; refine Ai eA rfl ?_; refine A3 fun cb hc54 => ?_; refine v0 ?_; simp -implicitDefEqProofs (disch := omega) [go_sem, bdP, Fi, Pp]; subst hc54; refine vO ?_; obtain rfl := sI h; obtain rfl := hret20 _ rfl; replace h : some (((⟨[], []⟩ : S89), 0, false)) = some r := hk20; obtain rfl := sI h; refine sF Fi ?_; refine Ay (As he20) rfl nbA hK
      intro c57 h; refine sG ?_; subst hc52; refine A8 h eA rfl ?_ ?_
      ·intro c55 h; refine A3 fun cb hc56 => ?_; refine v0 ?_; simp -implicitDefEqProofs (disch := omega) [go_sem, bdP, Fi, Pp]; subst hc56; refine vO ?_; obtain rfl := sI h; obtain rfl := hret20 _ rfl; replace h : some (((⟨[], []⟩ : S89), 0, false)) = some r := hk20; obtain rfl := sI h; refine sF Fi ?_; refine Ay (As he20) rfl nbA hK
      intro c55 h; refine vO ?_; refine hc41 _ _ ?_; refine .same ⟨n23, v22, by exact As he20, by omega, by with_reducible assumption, by with_reducible assumption, by with_reducible assumption, by with_reducible assumption, ?_, ?_, ?_, ?_, ?_, ?_, ?_, ?_, ?_, ?_, ?_, h⟩ <;> first | with_reducible assumption | (simp -implicitDefEqProofs (disch := omega) [go_sem, LH, IQ, Fi, O5, LI] <;> omega)
     intro c58 h; simp (disch := omega) at c58; refine sG ?_; subst hc52; refine Al eA rfl ?_; refine vO ?_; refine hc41 _ _ ?_; refine .same ⟨n23, v22, by exact As he20, by omega, by with_reducible assumption, by with_reducible assumption, by with_reducible assumption, by with_reducible assumption, ?_, ?_, ?_, ?_, ?_, ?_, ?_, ?_, ?_, ?_, ?_, h⟩ <;> first | with_reducible assumption | (simp -implicitDefEqProofs (disch := omega) [go_sem, LH, IQ, Fi, O5, LI] <;> omega)
    intro c59 h; simp (disch := omega) at c59; refine sG ?_; subst hc52; refine Al eA rfl ?_; refine vO ?_; refine hc41 _ _ ?_; refine .same ⟨n23, v22, by exact As he20, by omega, by with_reducible assumption, by with_reducible assumption, by with_reducible assumption, by with_reducible assumption, ?_, ?_, ?_, ?_, ?_, ?_, ?_, ?_, ?_, ?_, ?_, h⟩ <;> first | with_reducible assumption | (simp -implicitDefEqProofs (disch := omega) [go_sem, LH, IQ, Fi, O5, LI] <;> omega)
   intro c38 h; simp (disch := omega) at c38; refine vO ?_; obtain rfl := sI h; have hy20 := hret20 _ rfl; refine hc20 _ _ ?_; refine .same ⟨n23, v21, v22, v24, v25, hy20, by exact As he20, by with_reducible assumption, by with_reducible assumption, by with_reducible assumption, by with_reducible assumption, by with_reducible assumption, ?_, ?_, ?_, ?_, ?_, ?_, ?_, ?_⟩ <;> first | with_reducible assumption | (simp -implicitDefEqProofs (disch := omega) [go_sem, IQ, Fi, O5, LI, Ud] <;> omega)
  intro c63 h; simp (disch := omega) at c63; refine sG ?_; subst hc36; refine Al eA rfl ?_; refine vO ?_; obtain rfl := sI h; have hy20 := hret20 _ rfl; refine hc20 _ _ ?_; refine .same ⟨n23, v21, v22, v24, v25, hy20, by exact As he20, by with_reducible assumption, by with_reducible assumption, by with_reducible assumption, by with_reducible assumption, by with_reducible assumption, ?_, ?_, ?_, ?_, ?_, ?_, ?_, ?_⟩ <;> first | with_reducible assumption | (simp -implicitDefEqProofs (disch := omega) [go_sem, IQ, Fi, O5, LI, Ud] <;> omega)
 refine Ah ?_; refine Az (fun (s : Int) tm' H' => Ext H H' ∧ H.next + 1 ≤ H'.next ∧ tm' 0 = .v (str a0) ∧ tm' 1 = .v (.int .i64 s) ∧ tm' 4 = .p H.next 0 ∧ tm' 7 = .v (.int .i64 a1) ∧ H'.obj H.next = some (.cells ([.v (str []), .v (str [])]))) hl3q ?_ ?_
 ·refine .same ⟨by exact As (Ext.refl hw), by (simp -implicitDefEqProofs (disch := omega) [go_sem] <;> omega), ?_, ?_, ?_, ?_, ?_⟩ <;> (simp -implicitDefEqProofs (disch := omega) [go_sem] <;> omega)
 rintro I3 hI3 v4 x3 tm3 H3 ⟨he3, hl3, GY, Ui, ZK, ZL, eX⟩ h hret3
 replace h : Ev a0 v4 = some x3 := h; unfold Ev at h; refine A3 fun cb hc69 => ?_; refine A3 fun cb hc70 => ?_; refine vF (nd GY Ui) ?_; refine A6 h rfl ?_ ?_
 ·intro c73 h; obtain ⟨g71, h⟩ := Ad.1 h; refine sF (nd GY Ui) ?_; subst hc70; refine A8 h eA rfl ?_ ?_
  ·intro c72 h; simp (disch := omega) at c72; refine vO ?_; subst hc69; refine Ah ?_; refine vF Ui ?_; obtain rfl := sI h; refine Aj hI3 (IntKind.i64.wrap (v4 + 1)) ?_; refine .same ⟨by exact As he3, by with_reducible assumption, ?_, ?_, ?_, ?_, ?_⟩ <;> first | with_reducible assumption | (simp -implicitDefEqProofs (disch := omega) [go_sem, GY, ZK, ZL] <;> omega)
  intro c72 h; simp (disch := omega) at c72; refine vO ?_; obtain rfl := sI h; have hy3 := hret3 _ rfl; refine hc3 _ _ ?_; refine .same ⟨v4, hy3, by exact As he3, by with_reducible assumption, ?_, ?_, ?_, ?_, ?_⟩ <;> first | with_reducible assumption | (simp -implicitDefEqProofs (disch := omega) [go_sem, GY, Ui, ZK, ZL] <;> omega)
 intro c73 h; simp (disch := omega) at c73; refine sG ?_; subst hc70; refine Al eA rfl ?_; refine vO ?_; obtain rfl := sI h; have hy3 := hret3 _ rfl; refine hc3 _ _ ?_; refine .same ⟨v4, hy3, by exact As he3, by with_reducible assumption, ?_, ?_, ?_, ?_, ?_⟩ <;> first | with_reducible assumption | (simp -implicitDefEqProofs (disch := omega) [go_sem, GY, Ui, ZK, ZL] <;> omega)
noncomputable def D2 (a0 : List UInt8) (v9 : List S89) (v11 : Int) : Option (((List S89) × Int) ⊕ ((List S89) × Bool)) :=
 (Rw a0 v11).bind fun (x13 : S89 × Int × Bool) => if ¬ (x13.2.2 = true) then (some (.inr ([], false))) else (if 16 ≤ (v9.length : Int) then (some (.inr ([], false))) else (gd ((v9.length + ([x13.1]).length) * 32 ≤ 140737488355328) (if (a0.length : Int) ≤ x13.2.1 then (some (.inr ((v9 ++ ([x13.1]), true)))) else (some (.inl ((v9 ++ ([x13.1]), IntKind.i64.wrap (x13.2.1 + 1))))))))
noncomputable def Uj (a0 : List UInt8) : Option ((List S89) × Bool) :=
 if a0 = [] then (some ([], true)) else ((AD (fun (s : (List S89) × Int) => D2 a0 s.1 s.2) ([], 0)).bind fun (q : (List S89) × Bool) => some q)
theorem Wr {H : A2} {K : Au → A2 → Prop} (a0 : List UInt8) {r : (List S89) × Bool} (h : Uj a0 = some r) (hK : K (.ret (.tu [.sl 2 (r.1.map fun x => [.v (str x.fType), .v (str x.A7)]), .v (.bool r.2)])) H) : Aa prog 107 [.v (str a0)] H K := by
 refine Ag (N := 37) func107 (by kernel_rfl) rfl (by kernel_rfl) (by kernel_rfl) fun cb hcb hw hbd hnb => ?_; clear hbd hnb; subst hcb; unfold Uj at h; refine wG ?_; refine wG ?_; refine A3 fun cb hc3 => ?_; refine wG ?_; refine A8 h eA rfl ?_ ?_
 ·intro c5 h; refine wG ?_; refine IWp.gh (Gh.FX 2 2 eA) ?_; refine vO ?_; obtain rfl := sI h; refine sG ?_; exact Ap (.refl hw) hK
 intro c5 h; refine vO ?_; subst hc3; refine wG ?_; obtain ⟨y8, hl8q, hk8⟩ := A4 h; refine Ah ?_; refine Az (fun (s : (List S89) × Int) tm' H' => ∃ n10 : Nat, Ext H H' ∧ H.next ≤ H'.next ∧ H.next ≤ n10 ∧ n10 < H'.next ∧ tm' 0 = .v (str a0) ∧ tm' 4 = .os n10 s.1.length ∧ tm' 5 = .v (.int .i64 s.2) ∧ H'.obj n10 = some (.row 2 (s.1.map fun x => [.v (str x.fType), .v (str x.A7)]))) hl8q ?_ ?_
 ·refine UpI.gh (Gh.Md (d := 4) (sz := 2) (by omega) eA) ?_; refine .same ⟨H.next, by exact As (Ext.refl hw), by (simp -implicitDefEqProofs (disch := omega) [go_sem] <;> omega), by omega, by (simp -implicitDefEqProofs (disch := omega) [go_sem] <;> omega), ?_, ?_, ?_, ?_⟩ <;> (simp -implicitDefEqProofs (disch := omega) [go_sem] <;> omega)
 rintro I8 hI8 ⟨v9, v11⟩ x8 tm8 H8 ⟨n10, he8, hl8, eV, eW, CO, HZ, Tz, PT⟩ h hret8
 replace h : D2 a0 v9 v11 = some x8 := h; unfold D2 at h; refine Ah ?_; refine A3 fun cb hc12 => ?_; refine vF (nd CO Tz) ?_; obtain ⟨x13, hx13, h⟩ := A4 h; refine Wq a0 v11 hx13 ?_; refine sG ?_; subst hc12; refine A3 fun cb hc14 => ?_; refine A3 fun cb hc15 => ?_; refine vG ?_; refine A6 h eA ?_ ?_
 ·intro c25 h; simp (disch := omega) at c25; refine sG ?_; subst hc15; refine Ai eA rfl ?_; refine wG ?_; refine IWp.gh (Gh.FX 2 2 eA) ?_; refine vO ?_; obtain rfl := sI h; obtain rfl := hret8 _ rfl; replace h : some ([], false) = some r := hk8; obtain rfl := sI h; refine sG ?_; refine Ay (As he8) eA nbA hK
 intro c25 h; simp (disch := omega) at c25; refine sF HZ ?_; subst hc15; refine A8 h eA rfl ?_ ?_
 ·intro c17 h; refine wG ?_; refine IWp.gh (Gh.FX 2 2 eA) ?_; refine vO ?_; obtain rfl := sI h; obtain rfl := hret8 _ rfl; replace h : some ([], false) = some r := hk8; obtain rfl := sI h; refine sG ?_; refine Ay (As he8) eA nbA hK
 intro c17 h; simp (disch := omega) at c17; refine vO ?_; subst hc14; obtain ⟨g20, h⟩ := gS h; refine wF (nd HZ PT) ?_; refine A3 fun cb hc21 => ?_; refine wF CO ?_; refine A8 h eA rfl ?_ ?_
 ·intro c23 h; refine wG ?_; refine IWp.gh (Gh.freeze (d := 2) (k := n10) (sz := 2) (es := (v9 ++ ([x13.1])).map fun x => [.v (str x.fType), .v (str x.A7)]) eA eA) ?_; refine vO ?_; obtain rfl := sI h; obtain rfl := hret8 _ rfl; replace h : some ((v9 ++ ([x13.1]), true)) = some r := hk8; obtain rfl := sI h; refine sG ?_; refine Ay (As he8) eA nbA hK
 intro c23 h; simp (disch := omega) at c23; refine vO ?_; subst hc21; refine vG ?_; obtain rfl := sI h; refine Aj hI8 ((v9 ++ ([x13.1]), IntKind.i64.wrap (x13.2.1 + 1))) ?_; refine .same ⟨n10, by exact As he8, by (simp -implicitDefEqProofs (disch := omega) [go_sem] <;> omega), by with_reducible assumption, by (simp -implicitDefEqProofs (disch := omega) [go_sem] <;> omega), ?_, ?_, ?_, ?_⟩ <;> (simp -implicitDefEqProofs (disch := omega) [go_sem, CO] <;> omega)
noncomputable def Rx (a0 : Int) : Option (List UInt8) :=
 gd (0 ≤ (IntKind.u8.wrap (a0.tdiv 16))) (gd (IntKind.u8.wrap (a0.tdiv 16) ≤ IntKind.u8.wrap ((IntKind.u8.wrap (a0.tdiv 16)) + 1)) (gd (IntKind.u8.wrap ((IntKind.u8.wrap (a0.tdiv 16)) + 1) ≤ (([48, 49, 50, 51, 52, 53, 54, 55, 56, 57, 97, 98, 99, 100, 101, 102]) : List UInt8).length) (gd (0 ≤ (a0.tmod 16)) (gd (a0.tmod 16 ≤ IntKind.u8.wrap ((a0.tmod 16) + 1)) (gd (IntKind.u8.wrap ((a0.tmod 16) + 1) ≤ (([48, 49, 50, 51, 52, 53, 54, 55, 56, 57, 97, 98, 99, 100, 101, 102]) : List UInt8).length) (gd ((((([48, 49, 50, 51, 52, 53, 54, 55, 56, 57, 97, 98, 99, 100, 101, 102]).take (IntKind.u8.wrap ((IntKind.u8.wrap (a0.tdiv 16)) + 1)).toNat).drop (IntKind.u8.wrap (a0.tdiv 16)).toNat).length : Int) + ((([48, 49, 50, 51, 52, 53, 54, 55, 56, 57, 97, 98, 99, 100, 101, 102]).take (IntKind.u8.wrap ((a0.tmod 16) + 1)).toNat).drop (a0.tmod 16).toNat).length ≤ 9223372036854775807) (some (((([48, 49, 50, 51, 52, 53, 54, 55, 56, 57, 97, 98, 99, 100, 101, 102]).take (IntKind.u8.wrap ((IntKind.u8.wrap (a0.tdiv 16)) + 1)).toNat).drop (IntKind.u8.wrap (a0.tdiv 16)).toNat) ++ ((([48, 49, 50, 51, 52, 53, 54, 55, 56, 57, 97, 98, 99, 100, 101, 102]).take (IntKind.u8.wrap ((a0.tmod 16) + 1)).toNat).drop (a0.tmod 16).toNat)))))))))
theorem Qf {H : A2} {K : Au → A2 → Prop} (a0 : Int) {r : (List UInt8)} (h : Rx a0 = some r) (hK : K (.ret (.v (str r))) H) : Aa prog 143 [.v (.int .u8 a0)] H K := by
 refine Ag (N := 16) func143 (by kernel_rfl) rfl (by kernel_rfl) (by kernel_rfl) fun cb hcb hw hbd hnb => ?_; clear hbd hnb; subst hcb; unfold Rx at h; refine wG ?_; refine A3 fun cb hc2 => ?_; refine AB [] [0, 1, 2, 3, 4, 5, 6, 7, 8, 9, 10, 11, 12, 13] (by kernel_rfl) (by kernel_rfl) (fun _ _ _ _ h => h) ?_; obtain ⟨g3, h⟩ := Ad.1 h; obtain ⟨g4, h⟩ := Ad.1 h; obtain ⟨g5, h⟩ := gS h; obtain ⟨g6, h⟩ := Ad.1 h; obtain ⟨g7, h⟩ := Ad.1 h; have g7o := g7; obtain ⟨g8, h⟩ := gS h; obtain ⟨g9, h⟩ := gS h; simp -implicitDefEqProofs (disch := omega) [go_sem] at g3; simp -implicitDefEqProofs (disch := omega) [go_sem] at g7; simp -implicitDefEqProofs (disch := omega) [go_sem] at g8; simp -implicitDefEqProofs (disch := omega) [go_sem] at g9; refine sG ?_; subst hc2; refine vO ?_; obtain rfl := sI h; refine sG ?_; exact Ap (.refl hw) hK
end Go.Idl
