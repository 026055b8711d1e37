/- Functions told as functions of Lean; strings.Builder; contact.Text, walked. Conditions: none. -/
import Derived.Test.YtdmbcbdcabgifaaDoorFnB
import Derived.Shelf.Strings.Builder1
import Derived.Test.YtdmbcbdcabgifaaDoorTy16
import Derived.Test.YtdmbcbdcabgifaaDoorFnA
import Derived.WalkSpells
import Derived.WalkLawsBesides
import Derived.Shelf.Strconv.Itoa3
set_option linter.unusedSimpArgs false
set_option linter.unusedVariables false

namespace Go.Idl
open Go Go.RowKit

/-! ### Loops as functions -/
/-- From a state on, the step comes to an end with a result. -/
inductive Runs {σ ρ : Type} (step : σ → Option (σ ⊕ ρ)) : σ → ρ → Prop
  | done {s : σ} {r : ρ} (h : step s = some (.inr r)) : Runs step s r
  | more {s s' : σ} {r : ρ} (h : step s = some (.inl s')) (k : Runs step s' r) : Runs step s r

theorem Runs.det {σ ρ : Type} {step : σ → Option (σ ⊕ ρ)} {s : σ} {r r' : ρ} (h : Runs step s r) (h' : Runs step s r') : r = r' := by
  induction h with
  | done h => cases h' with
    | done k => rw [h] at k; simpa using k
    | more k _ => rw [h] at k; simp at k
  | more h _ ih => cases h' with
    | done k => rw [h] at k; simp at k
    | more k k' => rw [h] at k; simp at k; subst k; exact ih k'

open Classical in
/-- What a loop comes to. -/
noncomputable def loopO {σ ρ : Type} (step : σ → Option (σ ⊕ ρ)) (s : σ) : Option ρ :=
  if h : ∃ r, Runs step s r then some h.choose else none

theorem loopO_some {σ ρ : Type} {step : σ → Option (σ ⊕ ρ)} {s : σ} {r : ρ} : loopO step s = some r ↔ Runs step s r := by
  unfold loopO
  constructor
  · intro h
    split at h
    · rename_i h'
      simp at h
      rw [← h]; exact h'.choose_spec
    · cases h
  · intro h
    have h' : ∃ r, Runs step s r := ⟨r, h⟩
    rw [dif_pos h']
    exact congrArg some (h'.choose_spec.det h)

theorem loopO_done {σ ρ : Type} {step : σ → Option (σ ⊕ ρ)} {s : σ} {r : ρ} (h : step s = some (.inr r)) : loopO step s = some r := loopO_some.2 (.done h)
theorem loopO_more {σ ρ : Type} {step : σ → Option (σ ⊕ ρ)} {s s' : σ} (h : step s = some (.inl s')) : loopO step s = loopO step s' := by
  cases h' : loopO step s' with
  | some r => exact loopO_some.2 (.more h (loopO_some.1 h'))
  | none =>
    cases h2 : loopO step s with
    | none => rfl
    | some r =>
      have := loopO_some.1 h2
      cases this with
      | done k => rw [h] at k; simp at k
      | more k k' => rw [h] at k; simp at k; subst k; rw [loopO_some.2 k'] at h'; cases h'

/-- A loop with an invariant and a measure that falls. -/
theorem loopO_inv {σ ρ : Type} {step : σ → Option (σ ⊕ ρ)} {Post : ρ → Prop} (I : σ → Prop) (μ : σ → Nat)
    (h : ∀ s, I s → (∃ s', step s = some (.inl s') ∧ I s' ∧ μ s' < μ s) ∨ ∃ r, step s = some (.inr r) ∧ Post r) {s : σ} (hs : I s) : ∃ r, loopO step s = some r ∧ Post r := by
  generalize hn : μ s = n
  induction n using Nat.strongRecOn generalizing s with
  | _ n ih =>
    rcases h s hs with ⟨s', h1, h2, h3⟩ | ⟨r, h1, h2⟩
    · obtain ⟨r, k1, k2⟩ := ih (μ s') (hn ▸ h3) h2 rfl
      exact ⟨r, (loopO_more h1).trans k1, k2⟩
    · exact ⟨r, loopO_done h1, h2⟩

/-- What must be so, or there is no result. -/
def gd {α : Type} (p : Prop) [Decidable p] (x : Option α) : Option α := if p then x else none
theorem gd_some {α : Type} {p : Prop} [Decidable p] {x : Option α} {r : α} : gd p x = some r ↔ p ∧ x = some r := by
  unfold gd; split <;> simp [*]
theorem gd_pos {α : Type} {p : Prop} [Decidable p] {x : Option α} (h : p) : gd p x = x := if_pos h
theorem bind_some' {α β : Type} {x : Option α} {f : α → Option β} {r : β} (h : x.bind f = some r) : ∃ a, x = some a ∧ f a = some r := Option.bind_eq_some_iff.1 h

/-! ### The walk -/
variable {P : Program} {N : Nat} {tm : Tm} {H : IHeap} {Q : Exit → Tm → IHeap → Prop}

theorem IWp_seqF {a b : Code} (h : ∀ cb, cb = b → IWp P N a (thenQ (fun tm H => IWp P N cb Q tm H) Q) tm H) : IWp P N (.seq a b) Q tm H := IWp_seq (h b rfl)
/-- A sequence, cut: what holds between the two, told once. -/
theorem IWp_seqC {a b : Code} (J : Tm → IHeap → Prop) (hJ : ∀ tm H, J tm H → IWp P N b Q tm H) (h : ∀ cb, (∀ tm H, UpI J tm H → IWp P N cb Q tm H) → IWp P N a (thenQ (fun tm H => IWp P N cb Q tm H) Q) tm H) : IWp P N (.seq a b) Q tm H :=
  IWp_seq (h b fun _ _ ⟨_, _, hg, hj⟩ => IWp.gh hg (hJ _ _ hj))

/-- Where a round leaves: the next state. -/
def loopN {σ ρ : Type} (x : σ ⊕ ρ) (I : σ → Tm → IHeap → Prop) (tm : Tm) (H : IHeap) : Prop := ∃ s', x = .inl s' ∧ UpI (I s') tm H
theorem loopN_mk {σ ρ : Type} {I I' : σ → Tm → IHeap → Prop} (hI : I' = I) (s' : σ) (h : UpI (I s') tm H) : loopN (ρ := ρ) (.inl s') I' tm H := by subst hI; exact ⟨s', rfl, h⟩

/-- A loop whose step is known as a function. -/
theorem IWp_loopF {σ ρ : Type} {c : Code} {step : σ → Option (σ ⊕ ρ)} {r : ρ} (I : σ → Tm → IHeap → Prop) {s : σ} (hr : loopO step s = some r) (h0 : UpI (I s) tm H)
    (round' : ∀ I', I' = I → ∀ s x tm H, I s tm H → step s = some x → (∀ r', x = .inr r' → r' = r) → IWp P N c (thenQ (loopN x I') Q) tm H) : IWp P N (.loop c) Q tm H := by
  have round := round' I rfl
  clear round'
  replace hr := loopO_some.1 hr
  obtain ⟨tm1, H1, hg, hI⟩ := h0
  refine IWp.gh hg ?_
  refine ⟨fun rr B w0 g0 a0 s0 r0 hN0 hB0 hm0 => ?_⟩
  intro b k cs hro hb hrr
  have key : ∀ tm H, I s tm H → ∀ (w : World) (g : Gs) (a : Act), Mono w0 g0 w g → Sim w g H → RA w g a tm → a.tmps.size = N → Marks rr B w g a.defers →
      ∃ e a' w', Post rr B N Q w0 g0 e a' w' ∧ ArrivesIn (Machine.fenced P (FR rr)) P (lone (b.atR a (.code c :: .inLoop c :: k)) cs w) b k cs e a' w' := by
    clear hI hg
    induction hr with
    | @done s r hd =>
      intro tm H hI w g a m s' ra hN hm
      obtain ⟨e, a₁, w₁, ⟨tm1, g1, H1, m1, s1, r1, n1, k1, ne, q⟩, harr⟩ := (round s _ tm H hI hd fun r' e => by simpa using e.symm).run rr B w g a s' ra hN (Nat.le_trans hB0 m.size) hm b (.inLoop c :: k) cs hro hb hrr
      have mm := m.tr m1 s0 s'
      cases e with
      | normal => obtain ⟨s', hs, _⟩ := q; cases hs
      | exit id => exact ⟨_, a₁, w₁, ⟨tm1, g1, H1, mm, s1, r1, n1, k1, ne, q⟩, .pass (x := .inLoop c) rfl (fun _ _ => .inl (by simp)) harr⟩
      | goto l => exact ⟨_, a₁, w₁, ⟨tm1, g1, H1, mm, s1, r1, n1, k1, ne, q⟩, .pass (x := .inLoop c) rfl (fun _ _ => .inl (by simp)) harr⟩
      | ret => exact ⟨_, a₁, w₁, ⟨tm1, g1, H1, mm, s1, r1, n1, k1, ne, q⟩, .pass (x := .inLoop c) rfl (fun _ _ => .inl (by simp)) harr⟩
      | panic ch => exact ⟨_, a₁, w₁, ⟨tm1, g1, H1, mm, s1, r1, n1, k1, ne, q⟩, .pass (x := .inLoop c) rfl (fun _ _ => .inl (by simp)) harr⟩
      | outgrown => exact absurd rfl ne
    | @more s s2 r hd _ ih =>
      intro tm H hI w g a m s' ra hN hm
      obtain ⟨e, a₁, w₁, ⟨tm1, g1, H1, m1, s1, r1, n1, k1, ne, q⟩, harr⟩ := (round s _ tm H hI hd fun r' e => by cases e).run rr B w g a s' ra hN (Nat.le_trans hB0 m.size) hm b (.inLoop c :: k) cs hro hb hrr
      have mm := m.tr m1 s0 s'
      cases e with
      | normal =>
        obtain ⟨s3, hs, tm2, H2, hg, hI1⟩ := q
        cases hs
        obtain ⟨g2, m2, sm2, r2⟩ := hg w₁ g1 s1
        obtain ⟨e₂, a₂, w₂, hq₂, harr₂⟩ := ih round tm2 H2 hI1 w₁ g2 a₁ (mm.tr m2 s0 s1) sm2 (r2 _ r1) n1 (k1.mono m2)
        exact ⟨e₂, a₂, w₂, hq₂, .of_steps (StepsIn.trans harr (.one (fenced_calm hb hrr rfl) stepR_inLoop)) harr₂⟩
      | exit id => exact ⟨_, a₁, w₁, ⟨tm1, g1, H1, mm, s1, r1, n1, k1, ne, q⟩, .pass (x := .inLoop c) rfl (fun _ _ => .inl (by simp)) harr⟩
      | goto l => exact ⟨_, a₁, w₁, ⟨tm1, g1, H1, mm, s1, r1, n1, k1, ne, q⟩, .pass (x := .inLoop c) rfl (fun _ _ => .inl (by simp)) harr⟩
      | ret => exact ⟨_, a₁, w₁, ⟨tm1, g1, H1, mm, s1, r1, n1, k1, ne, q⟩, .pass (x := .inLoop c) rfl (fun _ _ => .inl (by simp)) harr⟩
      | panic ch => exact ⟨_, a₁, w₁, ⟨tm1, g1, H1, mm, s1, r1, n1, k1, ne, q⟩, .pass (x := .inLoop c) rfl (fun _ _ => .inl (by simp)) harr⟩
      | outgrown => exact absurd rfl ne
  obtain ⟨e, a', w', hq, harr⟩ := key tm1 H1 hI w0 g0 a0 (.refl _ _) s0 r0 hN0 hm0
  exact ⟨e, a', w', hq, .of_steps (.one (fenced_calm hb hrr rfl) stepR_loop) harr⟩

/-- Into a body. -/
theorem ICalls_iwp {f : FuncId} {fn : Func} {c : Code} {args : List IV} {K : IEnd → IHeap → Prop} (hf : P.funcs[f]? = some fn) (hbd : hasBody P f = true) (hb : fn.body = some c) (hN : fn.ntmps = N)
    (hn : (decide (args.length ≤ N) && fn.results.toList.all (rvN N)) = true)
    (h : ∀ cb, cb = c → H.Wf → (∀ a, a ∈ args → Bd a) → (∀ a, a ∈ args → NB H.next a) → IWp P N cb (retQ P fn.results.toList H K) (tm0 args) H) : ICalls P f args H K := by
  subst hN
  refine ⟨hbd, fun w g vs s rl => ?_⟩
  simp only [Bool.and_eq_true, decide_eq_true_eq] at hn
  refine (ICalls_of_IWp hbd hf hb hn.1 hn.2 fun hw => h c rfl hw (fun a ha => ?_) (fun a ha => ?_)).run w g vs s rl
  · obtain ⟨j, hj⟩ := List.getElem?_of_mem ha
    have hlt : j < vs.size := by rw [rl.1]; exact (List.getElem?_eq_some_iff.1 hj).1
    exact (rl.2 j _ a (Array.getElem?_eq_getElem hlt) hj).bd
  · obtain ⟨j, hj⟩ := List.getElem?_of_mem ha
    have hlt : j < vs.size := by rw [rl.1]; exact (List.getElem?_eq_some_iff.1 hj).1
    have := (rl.2 j _ a (Array.getElem?_eq_getElem hlt) hj).nb
    rwa [s.nx] at this

/-- Arguments may be told another way. -/
theorem ICalls.wk {f : FuncId} {args args' : List IV} {K : IEnd → IHeap → Prop} (hl : args'.length = args.length) (hw : ∀ (j : Nat) (i i' : IV), args[j]? = some i → args'[j]? = some i' → Wk i i') (h : ICalls P f args' H K) : ICalls P f args H K := by
  refine ⟨h.body, fun w g vs s rl => h.run w g vs s ⟨by rw [rl.1, hl], fun j x c hx hc => ?_⟩⟩
  have hlt : j < args.length := by rw [← hl]; exact (List.getElem?_eq_some_iff.1 hc).1
  exact hw j _ c (List.getElem?_eq_getElem hlt) hc w g x (rl.2 j x _ hx (List.getElem?_eq_getElem hlt))
theorem ICalls.eqA {f : FuncId} {args args' : List IV} {K : IEnd → IHeap → Prop} (e : args = args') (h : ICalls P f args' H K) : ICalls P f args H K := e ▸ h

/-- Ghost values that may be told another way, one by one. -/
inductive WkL : List IV → List IV → Prop
  | nil : WkL [] []
  | cons {a b : IV} {l m : List IV} (h : Wk a b) (t : WkL l m) : WkL (a :: l) (b :: m)
theorem WkL.len {l m : List IV} (h : WkL l m) : m.length = l.length := by
  induction h with
  | nil => rfl
  | cons _ _ ih => simp [ih]
theorem WkL.get {l m : List IV} (h : WkL l m) : ∀ (j : Nat) (a b : IV), l[j]? = some a → m[j]? = some b → Wk a b := by
  induction h with
  | nil => intro j a b h; simp at h
  | cons h _ ih =>
    intro j a b h1 h2
    cases j with
    | zero => simp at h1 h2; subst h1; subst h2; exact h
    | succ j => exact ih j a b (by simpa using h1) (by simpa using h2)
theorem Wk.agL {l m : List IV} (h : WkL l m) : Wk (.ag l) (.ag m) := fun w g x hx => by
  cases hx with
  | ag xs _ hl ho hr =>
    refine .ag xs m (by rw [hl, h.len]) ho fun j x c h1 h2 => ?_
    have hlt : j < l.length := by rw [← h.len]; exact (List.getElem?_eq_some_iff.1 h2).1
    exact h.get j _ c (List.getElem?_eq_getElem hlt) h2 w g x (hr j x _ h1 (List.getElem?_eq_getElem hlt))
theorem WkL.refl : ∀ (l : List IV), WkL l l
  | [] => .nil
  | _ :: l => .cons (.refl _) (WkL.refl l)
theorem ICalls.wkL {f : FuncId} {args args' : List IV} {K : IEnd → IHeap → Prop} (hw : WkL args args') (h : ICalls P f args' H K) : ICalls P f args H K := ICalls.wk hw.len hw.get h

/-! ### Tests -/
theorem cond_f {α : Type} {c : Prop} [Decidable c] {b : Bool} {X Y : Option α} {x : α} {A B : Tm → IHeap → Prop} (h : (if c then X else Y) = some x) (e : b = decide c) (h1 : c → X = some x → A tm H) (h2 : ¬ c → Y = some x → B tm H) : condK (.v (.bool b)) A B tm H := by
  subst e
  refine condB (fun hc => ?_) (fun hc => ?_)
  · have hc : c := by simpa using hc
    rw [if_pos hc] at h
    exact h1 hc h
  · have hc : ¬ c := by simpa using hc
    rw [if_neg hc] at h
    exact h2 hc h
theorem splitG_f {α : Type} {c : Prop} [Decidable c] {b : Bool} {X Y : Option α} {x : α} {K : Bool → Prop} {sk : Tm → Prop} (h : (if c then X else Y) = some x) (e : b = decide c) (h1 : c → X = some x → K true) (h2 : ¬ c → Y = some x → K false) : splitG (.v (.bool b)) K sk tm := by
  subst e
  refine splitG' (fun hc => ?_) (fun hc => ?_)
  · have hc : c := by simpa using hc
    rw [if_pos hc] at h
    simpa [hc] using h1 hc h
  · have hc : ¬ c := by simpa using hc
    rw [if_neg hc] at h
    simpa [hc] using h2 hc h
theorem splitB_f {α : Type} {c : Prop} [Decidable c] {b : Bool} {X Y : Option α} {x : α} {K : Bool → Prop} (h : (if c then X else Y) = some x) (e : b = decide c) (h1 : c → X = some x → K true) (h2 : ¬ c → Y = some x → K false) : splitB (.v (.bool b)) K := by
  subst e
  refine splitB' (fun hc => ?_) (fun hc => ?_)
  · have hc : c := by simpa using hc
    rw [if_pos hc] at h
    simpa [hc] using h1 hc h
  · have hc : ¬ c := by simpa using hc
    rw [if_neg hc] at h
    simpa [hc] using h2 hc h

/-- A nil slice as a row of one's own that may grow. -/
theorem Gh.nilrow {tm : Tm} {H : IHeap} {d sz : Nat} (h0 : 0 < sz) (hd : tm d = .v (.slice none 0 0)) : Gh tm H (upd tm d (.os H.next 0)) (H.new (.row sz [])) := by
  intro w g s
  have hu := s.upd (w' := w) (H' := H.new (.row sz [])) H.next (.slice none 0 0) (.row sz []) rfl (Nat.le_succ _) (Nat.lt_succ_self _) (Nat.le_refl _) rfl rfl rfl
    (fun b hb => .inr rfl) (fun b hb => by simp [blk] at hb) (.inl rfl) (fun g' m _ => ⟨none, 0, rfl, by simp, by simp [maxN], by simp, h0, .inl ⟨rfl, rfl⟩⟩)
  refine ⟨_, hu.2, hu.1, fun a r i hi => ?_⟩
  show R w _ _ (if i = d then _ else _)
  by_cases e : i = d
  · rw [if_pos e]
    subst e
    have h1 := r i hi
    rw [hd] at h1
    rw [h1.v_eq]
    exact os_of_put (Nat.lt_succ_self _) ⟨none, 0, rfl⟩
  · rw [if_neg e]
    exact (r i hi).mono hu.2

/-! ### Statements -/
theorem IWp_cond_i {α : Type} {c : Prop} [Decidable c] {o : Operand} {X Y : Option α} {r : α} {x y : Code} (h : (if c then X else Y) = some r) (ho : ev tm o = .v (.bool (decide c))) (hN : opd N o = true)
    (h1 : c → X = some r → IWp P N x Q tm H) (h2 : ¬ c → Y = some r → IWp P N y Q tm H) : IWp P N (.cond o x y) Q tm H := by
  refine IWp_cond ho hN (fun e => ?_) (fun e => ?_)
  · have hc : c := by simpa using e
    rw [if_pos hc] at h
    exact h1 hc h
  · have hc : ¬ c := by simpa using e
    rw [if_neg hc] at h
    exact h2 hc h
theorem IWp_cond_t {o : Operand} {x y : Code} (ho : ev tm o = .v (.bool true)) (hN : opd N o = true) (h1 : IWp P N x Q tm H) : IWp P N (.cond o x y) Q tm H := IWp_cond ho hN (fun _ => h1) (fun e => by cases e)
theorem IWp_cond_f {o : Operand} {x y : Code} (ho : ev tm o = .v (.bool false)) (hN : opd N o = true) (h1 : IWp P N y Q tm H) : IWp P N (.cond o x y) Q tm H := IWp_cond ho hN (fun e => by cases e) (fun _ => h1)
/-- What is known at an end may be told another way. -/
theorem IWp.up {a : Code} (h : IWp P N a (fun e tm H => ∃ tm1 H1, Gh tm H tm1 H1 ∧ Q e tm1 H1) tm H) : IWp P N a Q tm H := by
  refine ⟨fun rr B w g ac s r hN hB hm => wpIn_mono (h.run rr B w g ac s r hN hB hm) ?_⟩
  rintro e a' w' ⟨tm', g', H', h1, h2, h3, h4, h5, h6, tm1, H1, hg, hq⟩
  obtain ⟨g2, m2, s2, r2⟩ := hg w' g' h2
  exact ⟨tm1, g2, H1, h1.tr m2 s h2, s2, r2 _ h3, h4, h5.mono m2, h6, hq⟩
/-- A statement behind which nothing stands, cut at its end. -/
theorem IWp_tailC {a : Code} (J : Tm → IHeap → Prop) (hJ : ∀ tm H, J tm H → Q .normal tm H) (h : ∀ K', (∀ tm H, UpI J tm H → K' tm H) → IWp P N a (thenQ K' Q) tm H) : IWp P N a Q tm H := by
  refine IWp.up ((h (UpI J) fun _ _ h => h).mono fun e tm H hq => ?_)
  cases e with
  | normal => obtain ⟨tm1, H1, h1, h2⟩ := hq; exact ⟨tm1, H1, h1, hJ _ _ h2⟩
  | _ => exact ⟨tm, H, .refl _ _, hq⟩

/-! ### Ends -/
section
variable {H0 : IHeap} {K : IEnd → IHeap → Prop}
theorem retG_pureE {r r' : IV} (he : Ext H0 H) (e : r' = r) (hn : NB H0.next r) (h : K (.ret r) H0) : retG r' H0 K H := by subst e; exact retG_pure he hn h
theorem retG_fzE {r r' r2 : IV} {J : IHeap} (he : EndH H0 H J) (e : r2 = r') (hf : Fz H J r r2) (h : K (.ret r') J) : retG r H0 K H := by subst e; exact retG_fz he hf h
end
theorem Gh.slotN {tm : Tm} {H : IHeap} (d sz : Nat) (hd : tm d = .v (.slice none 0 0)) : Gh tm H (upd tm d (.sl sz [])) H := Gh.slot (by rw [hd]; exact Wk.nil sz)

@[go_sem] theorem put_map {α β : Type} {g : α → β} {l : List α} {n : Nat} {x : α} (h : n < l.length) : List.take n (l.map g) ++ g x :: List.drop (n + 1) (l.map g) = (l.set n x).map g := by
  rw [List.set_eq_take_append_cons_drop, if_pos h]
  simp
@[go_sem] theorem take_set_all {α β : Type} {l : List α} {f : α → β} {n i : Nat} {x : β} (h : l.length ≤ n) : ((l.map f).set i x).take n = (l.map f).set i x := List.take_of_length_le (by simpa using h)
@[go_sem] theorem take_map_all {α β : Type} {l : List α} {f : α → β} {n : Nat} (h : l.length ≤ n) : (l.map f).take n = l.map f := List.take_of_length_le (by simpa using h)

/-! ### The named memory, at other names -/
@[go_sem high] theorem new_obj_ne {H : IHeap} {o : HO} {i : Nat} (h : ¬ i = H.next) : (H.new o).obj i = H.obj i := by simp [IHeap.new, h]
@[go_sem high] theorem set_obj_ne {H : IHeap} {k i : Nat} {o : HO} (h : ¬ i = k) : (H.set k o).obj i = H.obj i := by simp [IHeap.set, h]
@[go_sem high] theorem del_obj_ne {H : IHeap} {k i : Nat} (h : ¬ i = k) : (H.del k).obj i = H.obj i := by simp [IHeap.del, h]
end Go.Idl

namespace Go.Idl
open Go Go.RowKit Go.Proofs Go.Shelf

variable {P : Program} {N : Nat} {tm : Tm} {H : IHeap}

/-- A strings.Builder of type T, named by k, that holds some bytes (e: the type of bytes); its buffer is named from n0 on. -/
def Bld (T e : TypeId) (H : IHeap) (n0 k : Nat) (l : List UInt8) : Prop :=
  n0 ≤ k ∧ ∃ a buf, H.obj k = some (.ty T (.cells [a, buf])) ∧ (a = .v (.pointer none) ∨ a = .p k 0) ∧
    ((l = [] ∧ buf = .v (.slice none 0 0)) ∨ ∃ kb, n0 ≤ kb ∧ kb ≠ k ∧ buf = .os kb l.length ∧ H.obj kb = some (.ty e (.row 1 (byt l))))

def isTR : HO → Bool
  | .ty _ (.row _ _) => true
  | _ => false

/-- What a write into a builder leaves as it was. -/
structure BStep (H J : IHeap) (n0 k : Nat) : Prop where
  le : H.next ≤ J.next
  keep : ∀ i o, H.obj i = some o → i ≠ k → (i < n0 ∨ isTR o = false) → J.obj i = some o
  sn : J.sn = H.sn

theorem args1 {w : World} {g : Gs} {vs : Array Value} {i : IV} (rl : RL w g vs [i]) : ∃ x, vs = #[x] ∧ R w g x i := by
  obtain ⟨h1, h2⟩ := rl
  have hs : vs.size = 1 := h1
  refine ⟨vs[0], ?_, h2 0 _ _ (Array.getElem?_eq_getElem (by omega)) rfl⟩
  apply Array.ext
  · simpa using hs
  · intro j h3 h4
    have e : j = 0 := by omega
    subst e
    rfl

/-- The builder's own check. -/
theorem ICalls_copyCheck {f : FuncId} {T : TypeId} (hbd : hasBody P f = true)
    (hfresh : ∀ (b : Nat) (w : World), w.cell? ⟨b, 0, none⟩ = some (.pointer none) → w.shape? b = some (T, 2) → w.frozen? ⟨b, 0, none⟩ = false → Calls P f #[.pointer (some ⟨b, 0, none⟩)] w fun e w' => e = .returned (.tuple #[]) ∧ w' = w.setCell ⟨b, 0, none⟩ (.pointer (some ⟨b, 0, none⟩)))
    (hused : ∀ (b : Nat) (w : World), w.cell? ⟨b, 0, none⟩ = some (.pointer (some ⟨b, 0, none⟩)) → Calls P f #[.pointer (some ⟨b, 0, none⟩)] w fun e w' => e = .returned (.tuple #[]) ∧ w' = w)
    {K : IEnd → IHeap → Prop} (k : Nat) (a buf : IV) (ho : H.obj k = some (.ty T (.cells [a, buf])))
    (ha : a = .v (.pointer none) ∨ a = .p k 0) (hK : K (.ret (.tu [])) (H.set k (.ty T (.cells [.p k 0, buf])))) : ICalls P f [.p k 0] H K := by
  refine ⟨hbd, fun w g vs s rl => ?_⟩
  obtain ⟨x, rfl, hx⟩ := args1 rl
  obtain ⟨b, xs, hmu, rfl, hb, hsz, hc⟩ := s.ty_at ho hx
  have hsz2 : xs.size = 2 := hsz
  have hlt := heap_lt hb
  obtain ⟨x0, hx0, hx0', hr0⟩ := hc.2 0 a rfl
  obtain ⟨x1, hx1, hx1', hr1⟩ := hc.2 1 buf rfl
  have hcell : w.cell? ⟨b, 0, none⟩ = some x0 := by simp [World.cell?, hb, hx0]
  have hsh : g.sh k = some .fx := by rw [s.sh, IHeap.sh, ho]; rfl
  have hk1 : k < g.nx := by rw [s.nx]; exact s.lt k (by rw [ho]; rfl)
  have hp0 : ∀ w', R w' g (.pointer (some ⟨b, 0, none⟩)) (.p k 0) := fun w' => .p k 0 _ hk1 ⟨_, rfl⟩ fun _ _ _ => ⟨b, hmu, rfl⟩
  rcases ha with rfl | rfl
  · rw [hr0.v_eq] at hcell
    have := hfresh b w hcell (by simp [World.shape?, hb, hsz2]) (by simp [World.frozen?, hb])
    refine this.mono ?_
    rintro e w' ⟨rfl, rfl⟩
    rw [setCell_put hb]
    have hp := s.put (w' := w.putObj b (.cells (xs.setIfInBounds 0 (.pointer (some ⟨b, 0, none⟩))) T (0, 0))) k b (.ty T (.cells [.v (.pointer none), buf])) (.ty T (.cells [.p k 0, buf])) ho rfl (by rw [hmu]; rfl) (by simp) rfl rfl rfl
      (fun i hi => World.putObj_heap_other hi)
      (fun m => ⟨⟨b, _, T, (0, 0), hmu, by rw [putObj_get _ _ _ hlt, if_pos rfl], freeZ_zero _, by simp [hsz2], fun j c hj => by
          match j, hj with
          | 0, hj => simp at hj; subst hj; exact ⟨.pointer (some ⟨b, 0, none⟩), by simp [hsz2], rfl, hp0 _⟩
          | 1, hj => simp at hj; subst hj; exact ⟨x1, by rw [Array.getElem?_setIfInBounds_ne (by omega)]; exact hx1, hx1', hr1.mono m⟩
          | j + 2, hj => simp at hj⟩, fun b' hb' => by
        rw [hmu] at hb'
        simp only [blk, Option.some.injEq] at hb'
        subst hb'
        exact ⟨_, by rw [putObj_get _ _ _ hlt, if_pos rfl], fun cs' e => by cases e; simp [hsz2]⟩⟩)
    exact ⟨.ret (.tu []), g, _, hp.2, hp.1, .ret _ _ (.tu _ _ rfl (by simp)), hK⟩
  · have hxx : x0 = .pointer (some ⟨b, 0, none⟩) := by
      obtain ⟨_, _, hq⟩ := hr0.p_inv
      obtain ⟨b', q1, q2⟩ := hq .fx hsh rfl
      rw [hmu] at q1
      cases q1
      exact q2
    rw [hxx] at hcell
    have := hused b w hcell
    refine this.mono ?_
    rintro e w' ⟨rfl, rfl⟩
    have hset : H.set k (.ty T (.cells [.p k 0, buf])) = H := by
      unfold IHeap.set
      congr 1
      funext i
      split
      · rename_i e; subst e; exact ho.symm
      · rfl
    rw [hset] at hK
    exact ⟨.ret (.tu []), g, H, .refl _ _, s, .ret _ _ (.tu _ _ rfl (by simp)), hK⟩

set_option maxHeartbeats 2000000 in
set_option maxRecDepth 100000 in
/-- The text of a builder that holds a byte, with the world behind it. -/
theorem bString_run {ρ : Go.Shelf.Ren} (L : Lays.n169 P ρ) (X : Builder.Extra P ρ) (b g cap : Nat) (p : Value) (cur : Array Value) (l : List UInt8) (w : World) (hbk : w.heap[b]? = some (.cells #[p, .slice (some ⟨g, 0, none⟩) l.length cap] (ρ.t 72) (0, 0))) (hg : w.heap[g]? = some (.cells cur (ρ.t 5) (0, 0)))
    (h0 : l ≠ []) (hnc : l.length ≤ cap) (hcs : l.length ≤ cur.size) (hcm : l.length ≤ 9223372036854775807) (hc : ∀ (j : Nat) (x : UInt8), l[j]? = some x → cur[j]? = some (Value.int .u8 x.toNat)) :
    Calls P (ρ.f 169) #[.pointer (some ⟨b, 0, none⟩)] w fun e w' => e = .returned (.string ⟨l.toArray⟩) ∧ w' = w.drew.freeze ⟨g, 0, none⟩ l.length := by
  have hl0 : l.length ≠ 0 := by simpa using h0
  have c1 : w.drew.cell? ⟨b, 1, none⟩ = some (.slice (some ⟨g, 0, none⟩) l.length cap) := by
    have : w.drew.heap[b]? = some (.cells #[p, .slice (some ⟨g, 0, none⟩) l.length cap] (ρ.t 72) (0, 0)) := hbk
    rw [Lib.cell_of_heap this]; rfl
  have hSD : (Builtin.unsafeSliceData_ #[(ρ.t 37)] (ρ.t 127) #[.slice (some ⟨g, 0, none⟩) l.length cap]).run P w.drew = .ok (.pointer (some ⟨g, 0, none⟩)) w.drew :=
    Lib.run_unsafeSliceData_row _ _ _ _ _ _ (by omega)
  have hUS : (Builtin.unsafeString_ #[(ρ.t 127), (ρ.t 3)] (ρ.t 9) #[.pointer (some ⟨g, 0, none⟩), .int .i64 l.length]).run P w.drew = .ok (.string ⟨l.toArray⟩) (w.drew.freeze ⟨g, 0, none⟩ l.length) := by
    refine Lib.run_unsafeString_row w.drew (ρ.t 127) (ρ.t 3) (ρ.t 9) (ρ.t 5) L.t127 X.cellsByte g cur.size (by have hg' : w.drew.heap[g]? = some (.cells cur (ρ.t 5) (0, 0)) := hg; simp [World.shape?, hg']) l h0 (by omega) (by omega) ?_
    intro j x hx
    have hg' : w.drew.heap[g]? = some (.cells cur (ρ.t 5) (0, 0)) := hg
    have := hc j x hx
    rw [addr_add, Nat.zero_add, Lib.cell_of_heap hg']
    exact this
  have mixed := L.mixed
  have t72 := L.t72; have a72 := L.a72; have z72 := L.z72; have v72 := L.v72; have u72 := run_underlying L.t72
  have t70 := L.t70; have a70 := L.a70; have z70 := L.z70; have v70 := L.v70; have u70 := run_underlying L.t70
  have t37 := L.t37; have a37 := L.a37; have z37 := L.z37; have v37 := L.v37; have u37 := run_underlying L.t37
  have t127 := L.t127; have a127 := L.a127; have z127 := L.z127; have v127 := L.v127; have u127 := run_underlying L.t127
  have t3 := L.t3; have a3 := L.a3; have z3 := L.z3; have v3 := L.v3; have u3 := run_underlying L.t3
  have t9 := L.t9; have a9 := L.a9; have z9 := L.z9; have v9 := L.v9; have u9 := run_underlying L.t9
  have t5 := X.t5; have a5 := X.a5; have z5 := X.z5; have v5 := X.v5; have u5 := run_underlying X.t5
  go_enter L.f169, Body.n169_ntmps ρ
  go_wp2
  go_region_o
  all_goals (go_wp2; go_ret; exact ⟨rfl, rfl⟩)

/-- A name goes, and its block may turn. -/
theorem Sim.dropTurn {w w' : World} {g : Gs} (s : Sim w g H) {k b : Nat} {o : HO} (hk : H.obj k = some o) (hb : blk (g.mu k) = some b) (size : w'.heap.size = w.heap.size) (os : w'.os = w.os) (tape : w'.tape = w.tape) (output : w'.output = w.output)
    (same : ∀ i, i ≠ b → w'.heap[i]? = w.heap[i]?) : Sim w' (g.to (H.del k)) (H.del k) ∧ Mono w g w' (g.to (H.del k)) := by
  have hlive : (g.sh k).isSome = true := by rw [s.sh, IHeap.sh, hk]; rfl
  have hsub : SubH (H.del k) H := fun i o h => by
    simp only [IHeap.del] at h
    split at h
    · cases h
    · exact h
  have hs := hsub.sh s
  have m : Mono w g w' (g.to (H.del k)) := by
    refine ⟨by omega, os, tape, output, fun i hi hn => ?_, fun i hi ho => to_ow hs ho, rfl, by show g.nx ≤ H.next; rw [s.nx]; exact Nat.le_refl _, ?_, ?_⟩
    · refine same i fun e => ?_
      subst e
      exact (s.bk k i hlive hb).1 (hn ⟨k, hlive, hb⟩)
    · intro i hi hf
      exact ⟨hs i _ hf, rfl⟩
    · intro i m' hi hf
      exact ⟨m', hs i _ hf, Nat.le_refl _, fun _ => rfl⟩
  refine ⟨⟨rfl, fun _ => rfl, fun i hi => ?_, fun i b' h1 h2 => ?_, fun i i' b' h1 h2 h3 h4 => ?_, fun i o' ho => ?_, fun b' hb' => by rw [size]; exact s.old b' hb', fun p hp i hi => (s.snap p hp i hi).mono m⟩, m⟩
  · obtain ⟨o', ho⟩ := Option.isSome_iff_exists.1 hi
    exact s.lt i (by rw [hsub i o' ho]; rfl)
  · obtain ⟨q, hq⟩ := Option.isSome_iff_exists.1 h1
    have := s.bk i b' (by rw [hs i q hq]; rfl) h2
    exact ⟨this.1, by rw [size]; exact this.2⟩
  · obtain ⟨q, hq⟩ := Option.isSome_iff_exists.1 h1
    obtain ⟨q', hq'⟩ := Option.isSome_iff_exists.1 h2
    exact s.inj i i' b' (by rw [hs i q hq]; rfl) (by rw [hs i' q' hq']; rfl) h3 h4
  · refine (s.obj i o' (hsub i o' ho)).mono m fun b' hb' => same b' fun e => ?_
    subst e
    have hi : (g.sh i).isSome = true := by rw [s.sh, IHeap.sh, hsub i o' ho]; rfl
    have := s.inj k i b' hlive hi hb hb'
    subst this
    simp [IHeap.del] at ho

/-- The text of a builder; it is done with. -/
theorem ICalls_BString {ρ : Go.Shelf.Ren} {f : FuncId} (L : Lays.n169 P ρ) (X : Builder.Extra P ρ) (hf : ρ.f 169 = f) (hbd : hasBody P f = true) {K : IEnd → IHeap → Prop} (n0 k : Nat) (l : List UInt8) (hB : Bld (ρ.t 72) (ρ.t 5) H n0 k l)
    (hK : ∀ J, BStep H J n0 k → K (.ret (.v (str l))) J) : ICalls P f [.p k 0] H K := by
  refine ⟨hbd, fun w g vs s rl => ?_⟩
  obtain ⟨x, rfl, hx⟩ := args1 rl
  obtain ⟨hn0, a, buf, ho, ha, hbuf⟩ := hB
  obtain ⟨b, xs, hmu, rfl, hb, hsz, hc⟩ := s.ty_at ho hx
  have hsz2 : xs.size = 2 := hsz
  obtain ⟨x0, hx0, hx0', hr0⟩ := hc.2 0 a rfl
  obtain ⟨x1, hx1, hx1', hr1⟩ := hc.2 1 buf rfl
  have hxs : xs = #[x0, x1] := by
    apply Array.ext
    · simpa using hsz2
    · intro i h1 h2
      match i, h2 with
      | 0, _ => have := Array.getElem?_eq_some_iff.1 hx0; simpa using this.2
      | 1, _ => have := Array.getElem?_eq_some_iff.1 hx1; simpa using this.2
      | i + 2, h2 => exact absurd h2 (by simp)
  subst hxs
  have same : BStep H H n0 k := ⟨Nat.le_refl _, fun _ _ h _ _ => h, rfl⟩
  have empty : l = [] → ∀ w', Below w.heap.size w w' → ∃ ie g' H', Mono w g w' g' ∧ Sim w' g' H' ∧ RE w' g' (.returned (.string ⟨#[]⟩)) ie ∧ K ie H' := by
    intro hl w' hbl
    subst hl
    have hg := s.grow hbl.size hbl.os hbl.tape hbl.output hbl.block
    exact ⟨.ret (.v (str [])), g, H, hg.2, hg.1, .ret _ _ (.v _), hK H same⟩
  rcases hbuf with ⟨hl, rfl⟩ | ⟨kb, hkb, hne, rfl, hob⟩
  · have h1 := hr1.v_eq
    subst h1
    have := Any.Builder_String_nil L X w.heap.size b x0 w hb
    rw [hf] at this
    refine this.mono ?_
    rintro e w' ⟨rfl, hbl⟩
    exact empty hl w' hbl
  · obtain ⟨⟨aa, cap, hm, h2, h3, _, _, h5⟩, hpin⟩ := s.obj kb _ hob
    have hlen : (byt l).length = l.length := byt_length l
    rw [hlen] at hm h2 h3
    have hsh : g.sh kb = some (.row l.length) := by rw [s.sh, IHeap.sh, hob]; simp [HO.sh, hlen]
    have hx1e : x1 = .slice aa l.length cap := by
      cases hr1 with
      | os _ _ _ _ h _ => rw [← hm]; exact (h _ hsh).2 rfl
    subst hx1e
    rcases h5 with ⟨rfl, rfl⟩ | ⟨gb, xs, el, fz, rfl, h6, h7, h8, h9⟩
    · have hl : l = [] := List.eq_nil_of_length_eq_zero (by omega)
      subst hl
      have := Any.Builder_String_nil L X w.heap.size b x0 w hb
      rw [hf] at this
      refine this.mono ?_
      rintro e w' ⟨rfl, hbl⟩
      exact empty rfl w' hbl
    · obtain ⟨xs', q1, _⟩ := hpin gb (by rw [hm]; rfl)
      rw [h6] at q1
      cases q1
      by_cases hl : l = []
      · subst hl
        by_cases hc0 : cap = 0
        · subst hc0
          have := Any.Builder_String_noroom L X w.heap.size b gb x0 xs w (Nat.le_refl _) hb h6
          rw [hf] at this
          refine this.mono ?_
          rintro e w' ⟨rfl, hbl⟩
          exact empty rfl w' hbl
        · have := Any.Builder_String_room L X w.heap.size b gb cap x0 w hc0 hb
          rw [hf] at this
          refine this.mono ?_
          rintro e w' ⟨rfl, hbl⟩
          exact empty rfl w' hbl
      · have hfl : (byt l).flatten.length = l.length := by rw [byt_flatten]; simp
        have hcs : l.length ≤ xs.size := by have := h9.1; omega
        have := bString_run L X b gb cap x0 xs l w hb h6 hl h2 hcs h3 (fun j x hj => by
          obtain ⟨y, q1, _, q3⟩ := h9.2 j (.v (.int .u8 x.toNat)) (by rw [byt_flatten]; simp [hj])
          rw [q1, q3.v_eq])
        rw [hf] at this
        refine this.mono ?_
        rintro e w' ⟨rfl, rfl⟩
        have hd := s.dropTurn (w' := w.drew.freeze ⟨gb, 0, none⟩ l.length) hob (b := gb) (by rw [hm]; rfl) (by unfold World.freeze; split <;> simp <;> rfl) (by unfold World.freeze; split <;> rfl) (by unfold World.freeze; split <;> rfl) (by unfold World.freeze; split <;> rfl) (fun i hi => by
          unfold World.freeze
          split
          · rfl
          · simp only
            rw [Array.getElem?_modify, if_neg (fun e => hi e.symm)]
            rfl)
        refine ⟨.ret (.v (str l)), _, _, hd.2, hd.1, .ret _ _ (.v _), hK _ ⟨Nat.le_refl _, fun i o hi hik ht => ?_, rfl⟩⟩
        simp only [IHeap.del]
        rw [if_neg]
        · exact hi
        · rintro rfl
          rw [hob] at hi
          cases hi
          rcases ht with ht | ht
          · omega
          · cases ht
end Go.Idl

namespace Go.Proofs
open Go.Shelf Go.Sort Go.RowKit
theorem Tryd.bldExtra : Builder.Extra Tryd.prog Tryd.lays169_ren where
  sizeBuilder := by kernel_rfl
  liesBuilder := by kernel_rfl
  t5 := Tryd.underlying5
  a5 := Tryd.isAgg5
  z5 := Tryd.sizeOf5
  v5 := Tryd.zeroValue5
  infoByte := by kernel_rfl
  cellsByte := by kernel_rfl
  sizeByte := by kernel_rfl
  neB5 := by decide

set_option maxHeartbeats 1000000 in
set_option maxRecDepth 100000 in
theorem Tryd.copyUsed (b : Nat) (w : World) (h0 : w.cell? ⟨b, 0, none⟩ = some (.pointer (some ⟨b, 0, none⟩))) :
    Calls Tryd.prog 42 #[.pointer (some ⟨b, 0, none⟩)] w fun e w' => e = .returned (.tuple #[]) ∧ w' = w := by
  obtain ⟨j, hj, _⟩ := Option.map_eq_some_iff.1 Tryd.bldExtra.sizeBuilder
  go_enter Tryd.func42, Tryd.ntmps42
  go_wp2
  rw [Lib.run_neq_ptr_same w _ Tryd.underlying50 hj]
  go_wp2
  go_end0
  exact ⟨rfl, rfl⟩

set_option maxHeartbeats 1000000 in
set_option maxRecDepth 100000 in
theorem Tryd.copyFresh (b : Nat) (w : World) (h0 : w.cell? ⟨b, 0, none⟩ = some (.pointer none)) (hsh : w.shape? b = some (53, 2)) (hfz : w.frozen? ⟨b, 0, none⟩ = false) :
    Calls Tryd.prog 42 #[.pointer (some ⟨b, 0, none⟩)] w fun e w' => e = .returned (.tuple #[]) ∧ w' = w.setCell ⟨b, 0, none⟩ (.pointer (some ⟨b, 0, none⟩)) := by
  obtain ⟨j, hj, hjs⟩ := Option.map_eq_some_iff.1 Tryd.bldExtra.sizeBuilder
  go_enter Tryd.func42, Tryd.ntmps42
  go_wp2
  rw [Lib.run_to_unsafe w ⟨b, 0, none⟩ Tryd.underlying50 Tryd.underlying76 hj (by rw [hjs]; decide) hsh (Nat.zero_lt_succ 1)]
  simp only [Result.andThen]
  rw [Oper.upon_value]
  go_wp2
  rw [run_callFunc_extern Tryd.func50 (by kernel_rfl) (by kernel_rfl) (by kernel_rfl) (e := Extern.AbiNoEscape.same) (by kernel_rfl)]
  rw [Lib.run_noEscape]
  simp only [Result.andThen]
  rw [Oper.upon_value]
  go_wp2
  rw [Lib.run_from_unsafe w ⟨b, 0, none⟩ Tryd.underlying76 Tryd.underlying50 hj hsh Tryd.bldExtra.liesBuilder]
  simp only [Result.andThen]
  rw [Oper.upon_value]
  go_wp2
  go_end0
  exact ⟨rfl, rfl⟩
end Go.Proofs
namespace Go.Idl
open Go Go.Proofs.Tryd Go.RowKit Go.Proofs Go.Shelf

theorem copy42 {H : IHeap} {K : IEnd → IHeap → Prop} (k : Nat) (a buf : IV) (ho : H.obj k = some (.ty 53 (.cells [a, buf])))
    (ha : a = .v (.pointer none) ∨ a = .p k 0) (hK : K (.ret (.tu [])) (H.set k (.ty 53 (.cells [.p k 0, buf])))) : ICalls prog 42 [.p k 0] H K :=
  ICalls_copyCheck (by kernel_rfl) Tryd.copyFresh Tryd.copyUsed k a buf ho ha hK

theorem string31 {H : IHeap} {K : IEnd → IHeap → Prop} (n0 k : Nat) (l : List UInt8) (hB : Bld 53 5 H n0 k l)
    (hK : ∀ J, BStep H J n0 k → K (.ret (.v (str l))) J) : ICalls prog 31 [.p k 0] H K :=
  ICalls_BString Tryd.lays169 Tryd.bldExtra rfl (by kernel_rfl) n0 k l hB hK

set_option pp.deepTerms false in
set_option maxRecDepth 4000 in
theorem wstr28 {H : IHeap} {K : IEnd → IHeap → Prop} (n0 k : Nat) (l s : List UInt8) (hB : Bld 53 5 H n0 k l) (hn : n0 ≤ H.next) (hl : l.length + s.length ≤ 140737488355328)
    (hK : ∀ J, BStep H J n0 k → Bld 53 5 J n0 k (l ++ s) → K (.ret (.tu [.v (.int .i64 s.length), .v .nilIface])) J) : ICalls prog 28 [.p k 0, .v (str s)] H K := by
  obtain ⟨hk0, a, buf, ho, ha, hbuf⟩ := hB
  refine ICalls_vc (N := 19) func28 (by kernel_rfl) rfl (by kernel_rfl) (by kernel_rfl) fun hw hbd hnb => ?_
  have hkn : k < H.next := by
    rcases Nat.lt_or_ge k H.next with h | h
    · exact h
    · rw [hw k h] at ho; cases ho
  simp (maxSteps := 1000000) (disch := omega) [go_sem]
  refine copy42 k a buf ho ha ?_
  rcases hbuf with ⟨rfl, rfl⟩ | ⟨kb, hkb, hne, rfl, hob⟩
  · have e1 : ¬ k = H.next := by omega
    simp (maxSteps := 1000000) (disch := omega) [go_sem, e1]
    have e2 : ¬ H.next = k := by omega
    refine ⟨by simpa [Side, byt_length] using hl, retG_all (hK _ ⟨by simp [go_sem], fun i o hi hik ht => ?_, rfl⟩ ⟨hk0, .p k 0, .os H.next (byt s).length, by simp [go_sem], .inr rfl, .inr ⟨H.next, hn, e2, by simp [byt_length], by simp [go_sem, e2]⟩⟩)⟩
    have hin : i < H.next := by
      rcases Nat.lt_or_ge i H.next with h | h
      · exact h
      · rw [hw i h] at hi; cases hi
    have e3 : ¬ i = H.next := by omega
    simp [go_sem, hik, e3, hi]
  · have hkb' : kb < H.next := by
      rcases Nat.lt_or_ge kb H.next with h | h
      · exact h
      · rw [hw kb h] at hob; cases hob
    simp (maxSteps := 1000000) (disch := omega) [go_sem, hob, hne]
    refine ⟨⟨by simp [Side, byt_length], by simpa [Side, byt_length] using hl⟩, retG_all (hK _ ⟨by simp [go_sem], fun i o hi hik ht => ?_, rfl⟩ ⟨hk0, .p k 0, .os kb ((byt l).length + (byt s).length), by simp [go_sem], .inr rfl, .inr ⟨kb, hkb, hne, by simp [byt_length], by simp [go_sem, hne, byt]⟩⟩)⟩
    have e3 : ¬ i = kb := by
      rintro rfl
      rw [hob] at hi
      cases hi
      rcases ht with ht | ht
      · omega
      · cases ht
    simp [go_sem, hik, e3, hi]

theorem Ext.bstep {H H' J : IHeap} {n0 k : Nat} (he : Ext H H') (hn : n0 = H.next) (hk : n0 ≤ k) (hb : BStep H' J n0 k) : Ext H J := by
  refine ⟨he.wf, Nat.le_trans he.le hb.le, fun i o hi => ?_⟩
  have hin : i < H.next := by
    rcases Nat.lt_or_ge i H.next with h | h
    · exact h
    · rw [he.wf i h] at hi; cases hi
  exact hb.keep i o (he.sub i o hi) (by omega) (.inl (by omega))

/-- A builder of one's own, just made. -/
theorem Bld.fresh {H' : IHeap} {n0 k : Nat} (h : H'.obj k = some (.ty 53 (.cells [.v (.pointer none), .v (.slice none 0 0)]))) (hk : n0 ≤ k) : Bld 53 5 H' n0 k [] := ⟨hk, _, _, h, .inl rfl, .inl ⟨rfl, rfl⟩⟩
end Go.Idl

namespace Go.Idl
open Go Go.Proofs.Tryd Go.RowKit Go.Proofs Go.Shelf

theorem itoa30 {H : IHeap} {K : IEnd → IHeap → Prop} (n : Nat) (hn : n < 100) (hK : K (.ret (.v (str (Lib.decDigits n)))) H) : ICalls prog 30 [.v (.int .i64 n)] H K := by
  refine ⟨by kernel_rfl, fun w g vs s rl => ?_⟩
  obtain ⟨x, rfl, hx⟩ := args1 rl
  rw [hx.v_eq]
  refine (Any.strconv_Itoa_small Tryd.lays171 n hn w).mono ?_
  rintro e w' ⟨rfl, rfl⟩
  exact ⟨_, g, H, .refl _ _, s, .ret _ _ (.v _), hK⟩

def namesS : List (List UInt8) := [[102, 117, 108, 108], [103, 105, 118, 101, 110], [102, 97, 109, 105, 108, 121], [111, 114, 103], [116, 105, 116, 108, 101], [110, 111, 116, 101], [109, 97, 105, 108], [112, 104, 111, 110, 101]]

set_option maxRecDepth 8000 in
theorem names29 {H : IHeap} {K : IEnd → IHeap → Prop} (hK : K (.ret (.ag (namesS.map fun x => .v (str x)))) H) : ICalls prog 29 [] H K := by
  refine ICalls_vc (N := 2) func29 (by kernel_rfl) rfl (by kernel_rfl) (by kernel_rfl) fun hw hbd hnb => ?_
  simp (maxSteps := 1000000) (disch := omega) [go_sem, bdP]
  refine retG_pure ((Ext.refl hw).new _ |>.set (Nat.le_refl _) _) ?_ hK
  simp [NB_ag, NB_v]

set_option pp.deepTerms false in
theorem line27 {H : IHeap} {K : IEnd → IHeap → Prop} (n0 k : Nat) (l a b : List UInt8) (hB : Bld 53 5 H n0 k l) (hn : n0 ≤ H.next) (hl : l.length + a.length + b.length ≤ 140737488355000)
    (hK : ∀ J, BStep H J n0 k → Bld 53 5 J n0 k (l ++ (a ++ 32 :: b ++ [10])) → K (.ret (.tu [])) J) : ICalls prog 27 [.v (str a), .v (str b), .p k 0] H K := by
  refine ICalls_vc (N := 11) func27 (by kernel_rfl) rfl (by kernel_rfl) (by kernel_rfl) fun hw hbd hnb => ?_
  simp (maxSteps := 1000000) (disch := omega) [go_sem]
  refine wstr28 n0 k l _ hB hn (by simp; omega) fun J hJ hB' => ?_
  simp (maxSteps := 1000000) (disch := omega) [go_sem]
  exact retG_all (hK J hJ (by simpa using hB'))

/-- A field's text. -/
def fieldT (f : Nat) (l : List (List UInt8)) : List UInt8 :=
  (if l = [] then [] else namesS.getD f [] ++ 32 :: Lib.decDigits l.length ++ [10]) ++ l.flatMap fun v => Lib.decDigits v.length ++ 32 :: v ++ [10]
/-- A contact's text. -/
def textS (c : List (List (List UInt8))) : List UInt8 := c.zipIdx.flatMap fun p => fieldT p.2 p.1

def valT (v : List UInt8) : List UInt8 := Lib.decDigits v.length ++ 32 :: v ++ [10]
def headT (f : Nat) (l : List (List UInt8)) : List UInt8 := if l = [] then [] else namesS.getD f [] ++ 32 :: Lib.decDigits l.length ++ [10]
theorem fieldT_eq (f : Nat) (l : List (List UInt8)) : fieldT f l = headT f l ++ l.flatMap valT := rfl
/-- The text of the fields ahead of one. -/
def preT (c : List (List (List UInt8))) (i : Nat) : List UInt8 := (c.zipIdx.take i).flatMap fun p => fieldT p.2 p.1
theorem preT_succ (c : List (List (List UInt8))) (i : Nat) (h : i < c.length) : preT c (i + 1) = preT c i ++ fieldT i c[i] := by
  unfold preT
  rw [List.take_succ_eq_append_getElem (by simpa using h), List.flatMap_append]
  simp

theorem dec_len (n : Nat) (h : n < 100) : (Lib.decDigits n).length ≤ 2 := by
  unfold Lib.decDigits
  split
  · simp
  · unfold Lib.decDigits
    rw [dif_pos (by omega)]
    simp

theorem valsT_len (l : List (List UInt8)) (h : ∀ s, s ∈ l → s.length < 100) : (l.flatMap valT).length ≤ l.length * 104 := by
  induction l with
  | nil => simp
  | cons s l ih =>
    have h1 := h s (by simp)
    have h2 := ih fun s hs => h s (by simp [hs])
    have h3 := dec_len s.length h1
    simp only [List.flatMap_cons, List.length_append, List.length_cons, List.length_nil, valT]
    omega
theorem names_len (f : Nat) : (namesS.getD f []).length ≤ 10 := by
  match f with
  | 0 | 1 | 2 | 3 | 4 | 5 | 6 | 7 => simp [namesS]
  | f + 8 => simp [namesS]
theorem headT_len (f : Nat) (l : List (List UInt8)) (h : l.length < 100) : (headT f l).length ≤ 20 := by
  unfold headT
  split
  · simp
  · have h1 := names_len f
    have h2 := dec_len l.length h
    simp only [List.length_append, List.length_cons, List.length_nil]
    omega
set_option maxRecDepth 8000 in
theorem preT_len (c : List (List (List UInt8))) (h : ∀ l, l ∈ c → l.length < 100 ∧ ∀ s, s ∈ l → s.length < 100) (i : Nat) : (preT c i).length ≤ i * 20000 := by
  induction i with
  | zero => simp [preT]
  | succ i ih =>
    rcases Nat.lt_or_ge i c.length with hi | hi
    · rw [preT_succ c i hi, fieldT_eq]
      have h1 := h c[i] (List.getElem_mem _)
      have h2 := headT_len i c[i] h1.1
      have h3 := valsT_len c[i] h1.2
      simp only [List.length_append]
      omega
    · have : preT c (i + 1) = preT c i := by
        unfold preT
        rw [List.take_of_length_le (by simp; omega), List.take_of_length_le (by simp; omega)]
      rw [this]
      exact Nat.le_trans ih (Nat.mul_le_mul_right _ (Nat.le_succ _))

set_option pp.deepTerms false in
set_option maxRecDepth 8000 in
theorem text18 {H : IHeap} {K : IEnd → IHeap → Prop} (c : List (List (List UInt8))) (hc : c.length = 8) (hs : ∀ l, l ∈ c → l.length < 100 ∧ ∀ s, s ∈ l → s.length < 100)
    (hK : K (.ret (.tu [.v (str (if checkS c = true then textS c else [])), .v (.int .i64 (if checkS c = true then 0 else 2))])) H) : ICalls prog 18 [cS c] H K := by
  have ht : List.take 8 (c.map sS) = c.map sS := by rw [List.take_of_length_le]; simp [hc]
  refine ICalls_vc (N := 43) func18 (by kernel_rfl) rfl (by kernel_rfl) (by kernel_rfl) fun hw hbd hnb => ?_
  simp (maxSteps := 1000000) (disch := omega) [go_sem, hc, ht]
  refine check19 c hc (fun l hl => ⟨by have := (hs l hl).1; omega, fun s h => by have := (hs l hl).2 s h; omega⟩) ?_
  simp (maxSteps := 1000000) (disch := omega) [go_sem, hc, ht]
  refine condB ?_ ?_ <;> intro g1 <;> (try simp at g1)
  · simp (maxSteps := 1000000) (disch := omega) [go_sem, hc, ht]
    rw [g1] at hK
    exact retG_pure ((Ext.refl hw).new _) (by simp [NB_tu, NB_v]) hK
  · simp (maxSteps := 1000000) (disch := omega) [go_sem, hc, ht]
    refine fields25 c hc ?_
    simp (maxSteps := 1000000) (disch := omega) [go_sem, hc, ht]
    refine IWp_rangeFunc (gf := 49) (cap := [.cp [.sl 1 ((c.map sS).map fun x => [x])]]) (by kernel_rfl) (by simp [go_sem]) (all49 (c.map sS))
      (fun i Hu => Bld 53 5 Hu H.next (H.next + 1) (preT c i) ∧ Hu.obj (H.next + 2) = some (.cells [.fn (.func 27) [] [.p (H.next + 1) 0]]) ∧ Ext H Hu ∧ H.next + 3 ≤ Hu.next) ?_ (by simp) ?_ ?_ ?_
    · refine ⟨Bld.fresh (by simp [go_sem]) (by omega), by simp [go_sem], (((Ext.refl hw).new _ |>.new _).new _).set (by simp [go_sem]) _, by simp [go_sem]⟩
    · intro args h
      obtain ⟨i, hi⟩ := List.getElem?_of_mem h
      simp only [ixs, List.getElem?_map, Option.map_eq_some_iff] at hi
      obtain ⟨p, _, rfl⟩ := hi
      rfl
    · rintro i args Hu hx ⟨hB, h2, h3, h4⟩
      have hi : i < c.length := by
        have := (List.getElem?_eq_some_iff.1 hx).1
        simpa [ixs_length] using this
      rw [ixs_get (by simpa using hi)] at hx
      cases hx
      have hsi := hs c[i] (List.getElem_mem _)
      have hpl := preT_len c (fun l hl => ⟨(hs l hl).1, (hs l hl).2⟩) i
      have hi8 : i < 8 := by omega
      rw [List.getElem_map]
      have hBs : Bld 53 5 Hu.skip H.next (H.next + 1) (preT c i) := hB
      have hes := h3.skip
      have h2s : Hu.skip.obj (H.next + 2) = some (.cells [.fn (.func 27) [] [.p (H.next + 1) 0]]) := h2
      have h4s : H.next + 3 ≤ Hu.skip.next := by simp [go_sem]; omega
      have hskip : (fun i Hu => Bld 53 5 Hu H.next (H.next + 1) (preT c i) ∧ Hu.obj (H.next + 2) = some (.cells [.fn (.func 27) [] [.p (H.next + 1) 0]]) ∧ Ext H Hu ∧ H.next + 3 ≤ Hu.next) = fun (i : Nat) (Hu : IHeap) => Bld 53 5 Hu H.next (H.next + 1) (preT c i) ∧ Hu.obj (H.next + 2) = some (.cells [.fn (.func 27) [] [.p (H.next + 1) 0]]) ∧ Ext H Hu ∧ H.next + 3 ≤ Hu.next := rfl
      generalize Hu.skip = H1 at hBs hes h2s h4s ⊢
      refine vc_sound _ (by kernel_rfl) _ _ _ ?_
      simp (maxSteps := 1000000) (disch := omega) [go_sem, setPs, hc]
      refine IWp_block ?_
      refine IWp_seqC (fun tm' H' => tm' 7 = sS c[i] ∧ tm' 5 = .p (H.next + 2) 0 ∧ Bld 53 5 H' H.next (H.next + 1) (preT c i ++ headT i c[i]) ∧ H'.obj (H.next + 2) = some (.cells [.fn (.func 27) [] [.p (H.next + 1) 0]]) ∧ Ext H H' ∧ H.next + 3 ≤ H'.next) ?_ fun cb hcb => ?_
      · rintro tm2 H2 ⟨t7, t5, hB2, ho2, he2, hl2⟩
        refine vc_sound _ (by kernel_rfl) _ _ _ ?_
        simp (maxSteps := 1000000) (disch := omega) [go_sem, t7, t5]
        refine vcLoop_mk (fun tm' H' => ∃ j : Nat, tm' 5 = .p (H.next + 2) 0 ∧ tm' 29 = sS c[i] ∧ tm' 30 = .v (.int .i64 c[i].length) ∧ tm' 31 = .v (.int .i64 j) ∧ j ≤ c[i].length ∧ Bld 53 5 H' H.next (H.next + 1) (preT c i ++ headT i c[i] ++ (c[i].take j).flatMap valT) ∧ H'.obj (H.next + 2) = some (.cells [.fn (.func 27) [] [.p (H.next + 1) 0]]) ∧ Ext H H' ∧ H.next + 3 ≤ H'.next) (fun tm' _ => c[i].length - (intOf (tm' 31)).toNat) (.same ?_) ?_
        · exact ⟨0, by simp [go_sem, t5], by simp [go_sem], by simp [go_sem], by simp [go_sem], by omega, by simpa using hB2, ho2, he2, hl2⟩
        rintro I' μ' hI hμ tm' H' ⟨j, q5, q29, q30, q31, hj, hB3, ho3, he3, hl3⟩
        refine vc_sound _ (by kernel_rfl) _ _ _ ?_
        simp (maxSteps := 1000000) (disch := omega) [go_sem, q5, q29, q30, q31]
        refine condB ?_ ?_ <;> intro hcj <;> (try simp at hcj)
        · have hv := hsi.2 c[i][j] (List.getElem_mem _)
          simp (maxSteps := 1000000) (disch := omega) [go_sem, q5, q29, q30, q31]
          refine IWp_draw [0, 1, 2, 4, 3, 5] (by kernel_rfl) (by kernel_rfl) (fun _ _ _ _ h => h) ?_
          simp (maxSteps := 1000000) (disch := omega) [go_sem, q5, q29, q30, q31, ho3]
          refine itoa30 c[i][j].length hv ?_
          simp (maxSteps := 1000000) (disch := omega) [go_sem, q5, q29, q30, q31, ho3]
          have hd := dec_len c[i][j].length hv
          have hlen := valsT_len (c[i].take j) (fun s hs' => hsi.2 s (List.mem_of_mem_take hs'))
          have hlen2 : (c[i].take j).length < 100 := by have := hsi.1; simp; omega
          have hhl := headT_len i c[i] hsi.1
          refine line27 H.next (H.next + 1) _ _ _ hB3 (by omega) (by simp only [List.length_append]; omega) fun J hJ hB4 => ?_
          simp (maxSteps := 1000000) (disch := omega) [go_sem, q5, q29, q30, q31, ho3]
          have hx2 := hJ.keep (H.next + 2) _ ho3 (by omega) (.inr rfl)
          refine .of hI hμ ⟨j + 1, by simp [go_sem, q5], by simp [go_sem, q29], by simp [go_sem, q30], by simp [go_sem], by omega, ?_, hx2, he3.bstep rfl (by omega) hJ, Nat.le_trans hl3 hJ.le⟩ (by simp [go_sem, q31]; omega)
          rw [List.take_succ_eq_append_getElem hcj, List.flatMap_append]
          simpa [valT] using hB4
        · simp (maxSteps := 1000000) (disch := omega) [go_sem, q5, q29, q30, q31]
          have e : j = c[i].length := by omega
          subst e
          rw [List.take_length] at hB3
          refine ⟨?_, ho3, he3, hl3⟩
          rw [preT_succ c i hi, fieldT_eq, ← List.append_assoc]
          exact hB3
      · refine vc_sound _ (by kernel_rfl) _ _ _ ?_
        simp (maxSteps := 1000000) (disch := omega) [go_sem, setPs, hc]
        refine condB ?_ ?_ <;> intro g2 <;> (try simp at g2)
        · simp (maxSteps := 1000000) (disch := omega) [go_sem, hc]
          refine IWp_draw [0, 2, 4, 5, 1, 3, 6, 7] (by kernel_rfl) (by kernel_rfl) (fun _ _ _ _ h => h) ?_
          simp (maxSteps := 1000000) (disch := omega) [go_sem, hc, h2s]
          refine names29 ?_
          have hni : i < namesS.length := by simp [namesS]; omega
          have hne : ¬ c[i] = [] := by rintro e; rw [e] at g2; simp at g2
          simp (maxSteps := 1000000) (disch := omega) [go_sem, hc, h2s, hni]
          refine itoa30 c[i].length hsi.1 ?_
          simp (maxSteps := 1000000) (disch := omega) [go_sem, hc, h2s, hni]
          have hd := dec_len c[i].length hsi.1
          have hnl := names_len i
          have hgi : namesS.getD i [] = namesS[i] := by simp [hni]
          rw [hgi] at hnl
          refine line27 H.next (H.next + 1) _ _ _ hBs (by omega) (by omega) fun J hJ hB4 => ?_
          simp (maxSteps := 1000000) (disch := omega) [go_sem, hc, h2s, hni]
          have hx2 := hJ.keep (H.next + 2) _ h2s (by omega) (.inr rfl)
          refine hcb _ _ (.same ⟨by simp [go_sem], by simp [go_sem], ?_, hx2, hes.bstep rfl (by omega) hJ, Nat.le_trans h4s hJ.le⟩)
          rw [headT, if_neg hne, hgi]
          simpa using hB4
        · simp (maxSteps := 1000000) (disch := omega) [go_sem, hc]
          have e0 : c[i] = [] := by
            cases h : c[i] with
            | nil => rfl
            | cons a b => rw [h] at g2; simp at g2
          refine hcb _ _ (.same ⟨by simp [go_sem], by simp [go_sem], ?_, h2s, hes, h4s⟩)
          rw [headT, if_pos e0, List.append_nil]
          exact hBs
    · rintro Hu ⟨hB, h2, h3, h4⟩
      simp (maxSteps := 1000000) (disch := omega) [go_sem, hc]
      rw [ixs_length, List.length_map] at hB
      have hBs : Bld 53 5 Hu.skip H.next (H.next + 1) (preT c c.length) := hB
      refine string31 H.next (H.next + 1) _ hBs fun J hJ => ?_
      simp (maxSteps := 1000000) (disch := omega) [go_sem, hc]
      have e : preT c c.length = textS c := by
        unfold preT textS
        rw [List.take_of_length_le (by simp)]
      rw [g1, if_pos rfl, if_pos rfl, ← e, hc] at hK
      exact retG_pure (h3.skip.bstep rfl (by omega) hJ) (by simp [NB_tu, NB_v]) hK
end Go.Idl

namespace Go.Idl
open Go Go.Proofs.Tryd Go.RowKit Go.Proofs Go.Shelf

def annC : List (List (List UInt8)) := [[[65, 110, 110]], [], [], [], [], [], [], []]
def annD : List (List (List UInt8)) := [[[65, 110, 110]], [], [], [], [], [], [[97], [98]], []]

theorem sort_ann : sortS [[98], [97], [98]] = [[97], [98], [98]] := by
  have h1 : ¬ ([98] : List UInt8) ≤ [97] := by decide
  have h2 : ([97] : List UInt8) ≤ [98] := by decide
  have h3 : ([98] : List UInt8) ≤ [98] := by decide
  simp [sortS, List.mergeSort, List.MergeSort.Internal.splitInTwo, List.merge, h1, h2, h3]
theorem with_ann : withS annC 6 [[98], [97], [98]] = (annD, 0) := by
  have e : compactS (sortS [[98], [97], [98]]) = [[97], [98]] := by rw [sort_ann]; decide
  have e1 : orderS 6 [[98], [97], [98]] = [[97], [98]] := by simp [orderS, e]
  simp only [withS, e1]
  decide
theorem text_ann : (if checkS annD = true then textS annD else []) = [102, 117, 108, 108, 32, 49, 10, 51, 32, 65, 110, 110, 10, 109, 97, 105, 108, 32, 50, 10, 49, 32, 97, 10, 49, 32, 98, 10] := by
  have h : checkS annD = true := by decide
  rw [if_pos h]
  have d1 : Lib.decDigits 1 = [49] := by unfold Lib.decDigits; rfl
  have d2 : Lib.decDigits 2 = [50] := by unfold Lib.decDigits; rfl
  have d3 : Lib.decDigits 3 = [51] := by unfold Lib.decDigits; rfl
  have e : textS annD = ((namesS.getD 0 [] ++ 32 :: Lib.decDigits 1 ++ [10]) ++ (Lib.decDigits 3 ++ 32 :: [65, 110, 110] ++ [10])) ++ ((namesS.getD 6 [] ++ 32 :: Lib.decDigits 2 ++ [10]) ++ ((Lib.decDigits 1 ++ 32 :: [97] ++ [10]) ++ (Lib.decDigits 1 ++ 32 :: [98] ++ [10]))) := by
    simp [textS, fieldT, annD]
  rw [e, d1, d2, d3]
  rfl
end Go.Idl
