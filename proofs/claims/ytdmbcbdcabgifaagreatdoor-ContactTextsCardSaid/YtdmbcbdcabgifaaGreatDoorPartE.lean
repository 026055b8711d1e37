/- The text of any contact, and the contact of that. Part 5. Conditions: none. -/
import Derived.Test.YtdmbcbdcabgifaaGreatDoorPartD
import Derived.Shelf.LaysC
import Derived.Shelf.Strconv.Itoa3
import Derived.Shelf.Strconv.ErrVarAll
import Derived.Shelf.Strings.Cut
import Derived.Lib.AtoiTie
import Derived.Lib.MinMax
import Derived.ProofKit
import Derived.OpenShut
import Derived.SizedLaws
import Derived.Handed
import Derived.Test.YtdmbcbdcabgifaaGreatDoorRows
import Derived.Test.YtdmbcbdcabgifaaGreatDoorTie
import Derived.Test.YtdmbcbdcabgifaaGreatDoorCards
import Derived.LaidMore
import Derived.Carry
import Derived.Stop.Joined
import Derived.SevenTiedAt
import Derived.Stop.LaidErr
import Derived.Lib.LaidTab
set_option linter.unusedSimpArgs false
set_option linter.unusedVariables false

namespace Go.Idl

open Go Go.RowKit Go.Proofs Go.Shelf

variable {P : Program} {H : IHeap} {K : IEnd → IHeap → Prop}

def varsT (vs : List (Nat × Array Value)) : Array Value × (Nat → IV) := ((vs.map fun _ => undef).toArray, fun i => match vs[i]? with | some p => .blk p.1 p.2 | none => .any)

theorem R.blk_inv {w : World} {g : Gs} {x : Value} {b : Nat} {xs : Array Value} (h : R w g x (.blk b xs)) : ∃ el f, w.heap[b]? = some (.cells xs el f) := by
  cases h with
  | blk _ _ el f _ _ h2 => exact ⟨el, f, h2⟩

theorem vars_get {w : World} {g : Gs} (s : Sim w g H) {vs : List (Nat × Array Value)} (h : varsT vs ∈ H.sn) {i b : Nat} {xs : Array Value} (hi : vs[i]? = some (b, xs)) : ∃ el f, w.heap[b]? = some (.cells xs el f) := by
  have hl : i < vs.length := (List.getElem?_eq_some_iff.1 hi).1
  have h1 := s.snap _ h i (by simpa [varsT] using hl)
  simp only [varsT, hi] at h1
  exact h1.blk_inv

theorem var_of {w : World} {name : String} {b : Nat} {xs : Array Value} {el : TypeId} {f : Nat × Nat} (hg : P.globalNamed name = some b) (h : w.heap[b]? = some (.cells xs el f)) : w.var? P name = some xs := by
  unfold World.var?
  rw [hg]
  simp [h]

def VOK (P : Program) (H : IHeap) : Prop := ∃ (b1 b2 b3 b4 : Nat) (t2 t3 : TypeId) (p2 p3 : Value) (x4 : Array Value) (m4 : Int), P.globalNamed "internal/strconv.uint64pow10" = some b1 ∧ P.globalNamed "strconv.ErrSyntax" = some b2 ∧ P.globalNamed "strconv.ErrRange" = some b3 ∧ P.globalNamed "internal/bytealg.MaxLen" = some b4 ∧ x4[0]? = some (.int .i64 m4) ∧
  varsT [(b1, (Lib.pow10Tab.map fun z => Value.int .u64 z).toArray), (b2, #[.iface t2 p2]), (b3, #[.iface t3 p3]), (b4, x4)] ∈ H.sn

theorem VOK.of {J : IHeap} (h : VOK P H) (e : J.sn = H.sn) : VOK P J := by
  obtain ⟨b1, b2, b3, b4, t2, t3, p2, p3, x4, m4, h1, h2, h3, h5, h6, h4⟩ := h
  exact ⟨b1, b2, b3, b4, t2, t3, p2, p3, x4, m4, h1, h2, h3, h5, h6, by rw [e]; exact h4⟩

theorem VOK.ext {J : IHeap} (h : VOK P H) (e : Ext H J) : VOK P J := h.of e.sn

theorem ICalls_itoa {ρ : Go.Shelf.Ren} {f : FuncId} (Ly : LaysM.n171 P ρ) (hf : ρ.f 171 = f) (hb : hasBody P f = true) (hV : VOK P H) (n : Int) (h0 : -9223372036854775808 ≤ n) (h1 : n ≤ 9223372036854775807) (hK : K (.ret (.v (str (Lib.itoa n)))) H) : ICalls P f [.v (.int .i64 n)] H K := by
  refine ⟨hb, fun w g vs s rl => ?_⟩
  obtain ⟨x, rfl, hx⟩ := args1 rl
  rw [hx.v_eq, ← hf]
  obtain ⟨b1, b2, b3, b4, t2, t3, p2, p3, x4, m4, q1, q2, q3, q5, q6, q4⟩ := hV
  obtain ⟨el, fz, hc⟩ := vars_get s q4 (i := 0) rfl
  refine (Any.strconv_Itoa Ly n h0 h1 w (var_of q1 hc)).mono ?_
  rintro e w' ⟨rfl, k, os, rfl⟩
  have hB : Below w.heap.size w (Go.Sort.grow (w.drewN k) os) := by
    refine ⟨rfl, rfl, rfl, ?_, fun i hi => ?_⟩
    · show w.heap.size ≤ (w.heap ++ os).size
      simp
    · show (w.heap ++ os)[i]? = w.heap[i]?
      rw [Array.getElem?_append_left hi]
  exact ⟨_, g, H, .of_below hB, s.of_below hB, .ret _ _ (.v _), hK⟩

def atoiS (s : List UInt8) : Int × Bool := match Lib.atoiAll s with | .ok v => (v, false) | .range => (Lib.atoiSat s, true) | _ => (0, true)

theorem ICalls_atoi {ρ : Go.Shelf.Ren} {f : FuncId} {te : TypeId} (Ly : LaysC.n172 P ρ) (hf : ρ.f 172 = f) (ht : ρ.t 168 = te) (hb : hasBody P f = true) (hV : VOK P H) (s : List UInt8) (hs : s.length ≤ 281474976710656) (hK : K (.ret (.tu [.v (.int .i64 (atoiS s).1), errI te (atoiS s).2])) H) : ICalls P f [.v (str s)] H K := by
  refine ⟨hb, fun w g vs sm rl => ?_⟩
  obtain ⟨x, rfl, hx⟩ := args1 rl
  rw [hx.v_eq, ← hf]
  obtain ⟨b1, b2, b3, b4, t2, t3, p2, p3, x4, m4, q1, q2, q3, q5, q6, q4⟩ := hV
  obtain ⟨el2, fz2, hc2⟩ := vars_get sm q4 (i := 1) rfl
  obtain ⟨el3, fz3, hc3⟩ := vars_get sm q4 (i := 2) rfl
  have v2 := var_of q2 hc2
  have v3 := var_of q3 hc3
  have two : ∀ (n : Int) (y : Value) (b : Bool), R w g y (errI te b) → ∀ (w' : World), Below w.heap.size w w' → R w' g (.tuple #[.int .i64 n, y]) (.tu [.v (.int .i64 n), errI te b]) := fun n y b hy w' hB => by
    refine .tu _ _ rfl fun j x c h1 h2 => ?_
    match j, h1, h2 with
    | 0, h1, h2 => simp at h1 h2; subst h1; subst h2; exact .v _
    | 1, h1, h2 => simp at h1 h2; subst h1; subst h2; exact hy.mono (.of_below hB)
    | j + 2, h1, h2 => simp at h1
  cases h : Lib.atoiAll s with
  | ok v =>
    have e : atoiS s = (v, false) := by simp only [atoiS, h]
    rw [e] at hK
    refine (Any.strconv_Atoi_ok Ly ⟨s.toArray⟩ (by show s.toArray.size ≤ _; simp; omega) v (by simpa using h) w).mono ?_
    rintro e w' ⟨rfl, hw⟩
    have hB : Below w.heap.size w w' := by
      rcases hw with rfl | ⟨t, rfl⟩
      · exact Below.refl _ _
      · exact Lib.bytesWorld_below _ _ _
    exact ⟨_, g, H, .of_below hB, sm.of_below hB, .ret _ _ (two v .nilIface false (.v _) _ hB), hK⟩
  | range =>
    have e : atoiS s = (Lib.atoiSat s, true) := by simp only [atoiS, h]
    rw [e] at hK
    refine (Any.strconv_Atoi_range_var Ly ⟨s.toArray⟩ (by show s.toArray.size ≤ _; simpa using hs) (by simpa using h) t3 p3 w v3).mono ?_
    rintro e w' ⟨N, rfl, _, _, hB⟩
    rw [ht]
    have e2 : (⟨s.toArray⟩ : ByteArray).data.toList = s := by simp
    rw [e2]
    exact ⟨_, g, H, .of_below hB, sm.of_below hB, .ret _ _ (two _ _ true (.ifc _ _ _ (.any _)) _ hB), hK⟩
  | _ =>
    have e : atoiS s = (0, true) := by simp only [atoiS, h]
    rw [e] at hK
    refine (Any.strconv_Atoi_syntax_var Ly ⟨s.toArray⟩ (by show s.toArray.size ≤ _; simpa using hs) (by simpa using h) t2 p2 w v2).mono ?_
    rintro e w' ⟨N, rfl, _, _, hB⟩
    rw [ht]
    exact ⟨_, g, H, .of_below hB, sm.of_below hB, .ret _ _ (two 0 _ true (.ifc _ _ _ (.any _)) _ hB), hK⟩

theorem args2' {w : World} {g : Gs} {vs : Array Value} {i j : IV} (rl : RL w g vs [i, j]) : ∃ x y, vs = #[x, y] ∧ R w g x i ∧ R w g y j := by
  obtain ⟨h1, h2⟩ := rl
  have hs : vs.size = 2 := h1
  refine ⟨vs[0], vs[1], ?_, h2 0 _ i (Array.getElem?_eq_getElem (by omega)) rfl, h2 1 _ j (Array.getElem?_eq_getElem (by omega)) rfl⟩
  apply Array.ext
  · simpa using hs
  · intro q hq hq'
    have : q = 0 ∨ q = 1 := by omega
    rcases this with rfl | rfl <;> rfl

theorem ICalls_cut {ρ : Go.Shelf.Ren} {f : FuncId} (Ly : Lays.n145 P ρ) (hf : ρ.f 145 = f) (hg : P.globalNamed "internal/bytealg.MaxLen" = some (ρ.g 1)) (hb : hasBody P f = true) (hV : VOK P H) (s t : List UInt8) (hs : s.length < 4294967281) (hK : K (.ret (.tu [.v (str (Lib.cut s t).1), .v (str (Lib.cut s t).2.1), .v (.bool (Lib.cut s t).2.2)])) H) : ICalls P f [.v (str s), .v (str t)] H K := by
  refine ⟨hb, fun w g vs sm rl => ?_⟩
  obtain ⟨x, y, rfl, hx, hy⟩ := args2' rl
  rw [hx.v_eq, hy.v_eq, ← hf]
  obtain ⟨b1, b2, b3, b4, t2, t3, p2, p3, x4, m4, q1, q2, q3, q5, q6, q4⟩ := hV
  obtain ⟨el4, fz4, hc4⟩ := vars_get sm q4 (i := 3) rfl
  have e4 : b4 = ρ.g 1 := by rw [hg] at q5; exact (Option.some.inj q5).symm
  subst e4
  have hm : w.cell? ⟨ρ.g 1, 0, none⟩ = some (.int .i64 m4) := by simp only [World.cell?, hc4]; exact q6
  refine (Any.strings_Cut Ly ⟨s.toArray⟩ ⟨t.toArray⟩ m4 w (by show s.toArray.size < _; simpa using hs) hm).mono ?_
  rintro e w' ⟨rfl, n, rfl⟩
  have hB : Below w.heap.size w (w.drewN n) := ⟨rfl, rfl, rfl, Nat.le_refl _, fun _ _ => rfl⟩
  refine ⟨_, g, H, .of_below hB, sm.of_below hB, .ret _ _ (.tu _ _ rfl fun j x c h1 h2 => ?_), hK⟩
  match j, h1, h2 with
  | 0, h1, h2 => simp at h1 h2; subst h1; subst h2; exact .v _
  | 1, h1, h2 => simp at h1 h2; subst h1; subst h2; exact .v _
  | 2, h1, h2 => simp at h1 h2; subst h1; subst h2; exact .v _
  | j + 3, h1, h2 => simp at h1

end Go.Idl

namespace Go.Idl

open Go Go.RowKit

variable {P : Program} {N : Nat} {tm : Tm} {H B H' : IHeap} {Q : Exit → Tm → IHeap → Prop}

def setL (H : IHeap) : List (Nat × HO) → IHeap
  | [] => H
  | p :: L => setL (H.set p.1 p.2) L

theorem setL_next (L : List (Nat × HO)) : ∀ H : IHeap, (setL H L).next = H.next := by
  induction L with
  | nil => intro H; rfl
  | cons p L ih => intro H; exact ih _

theorem setL_sn (L : List (Nat × HO)) : ∀ H : IHeap, (setL H L).sn = H.sn := by
  induction L with
  | nil => intro H; rfl
  | cons p L ih => intro H; exact ih _

theorem setL_obj (L : List (Nat × HO)) : ∀ (H : IHeap) (i : Nat), (∃ o, (i, o) ∈ L ∧ (setL H L).obj i = some o) ∨ ((∀ p, p ∈ L → p.1 ≠ i) ∧ (setL H L).obj i = H.obj i) := by
  induction L with
  | nil => intro H i; exact .inr ⟨by simp, rfl⟩
  | cons p L ih =>
    intro H i
    rcases ih (H.set p.1 p.2) i with ⟨o, h1, h2⟩ | ⟨h1, h2⟩
    · exact .inl ⟨o, List.mem_cons_of_mem _ h1, h2⟩
    · by_cases e : i = p.1
      · refine .inl ⟨p.2, by subst e; exact List.mem_cons_self, h2.trans ?_⟩
        simp [IHeap.set, e]
      · refine .inr ⟨fun q hq => ?_, h2.trans ?_⟩
        · rcases List.mem_cons.1 hq with rfl | hq
          · exact fun e' => e e'.symm
          · exact h1 q hq
        · simp [IHeap.set, e]

@[go_sem] theorem setL_nil : setL H [] = H := rfl

@[go_sem] theorem setL_cons {k : Nat} {o : HO} {L : List (Nat × HO)} : setL H ((k, o) :: L) = setL (H.set k o) L := rfl

theorem Ext.delB (h : Ext B H') (k : Nat) : Ext (B.del k) H' := ⟨wf_del h.wf k, h.le, fun i o hi => by
  simp only [IHeap.del] at hi
  split at hi
  · cases hi
  · exact h.sub i o hi, h.sn⟩

def delL (H : IHeap) : List (Nat × HO) → IHeap
  | [] => H
  | p :: L => delL (H.del p.1) L

theorem delL_nil : delL H [] = H := rfl

theorem delL_cons {k : Nat} {o : HO} {L : List (Nat × HO)} : delL H ((k, o) :: L) = delL (H.del k) L := rfl

theorem delL_next (L : List (Nat × HO)) : ∀ H : IHeap, (delL H L).next = H.next := by
  induction L with
  | nil => intro H; rfl
  | cons p L ih => intro H; exact ih _

theorem delL_obj (L : List (Nat × HO)) : ∀ (H : IHeap) (i : Nat), (∀ p, p ∈ L → p.1 ≠ i) → (delL H L).obj i = H.obj i := by
  induction L with
  | nil => intro H i _; rfl
  | cons p L ih =>
    intro H i h
    rw [show (delL H (p :: L)).obj i = (delL (H.del p.1) L).obj i from rfl, ih _ _ fun q hq => h q (List.mem_cons_of_mem _ hq)]
    have : ¬ i = p.1 := fun e => h p (by simp) e.symm
    simp [IHeap.del, this]

theorem EndH.ioL (L : List (Nat × HO)) (he : Ext (delL H L) H') (hv : ∀ p, p ∈ L → p.1 < H.next ∧ H'.obj p.1 = some p.2 ∧ NBo H.next p.2) : EndH H H' (setL H L) := by
  have hn := setL_next L H
  have hle : H.next ≤ H'.next := by have := he.le; rwa [delL_next] at this
  have old : ∀ i o, (∀ p, p ∈ L → p.1 ≠ i) → H.obj i = some o → (delL H L).obj i = some o := fun i o h1 h2 => by rw [delL_obj L H i h1]; exact h2
  refine ⟨by rw [hn]; exact Nat.le_refl _, by rw [hn]; exact hle, fun i o hi => ?_, fun i o hi => ?_, .inr fun i o hi => ?_, setL_sn L H⟩
  · rcases setL_obj L H i with ⟨o1, h1, h2⟩ | ⟨h1, h2⟩
    · rw [h2] at hi; cases hi; exact (hv _ h1).2.1
    · rw [h2] at hi; exact he.sub i o (old i o h1 hi)
  · rw [hn]
    rcases setL_obj L H i with ⟨o1, h1, h2⟩ | ⟨h1, h2⟩
    · exact (hv _ h1).1
    · rw [h2] at hi
      rcases Nat.lt_or_ge i H.next with q | q
      · exact q
      · have h3 := he.wf i (by rw [delL_next]; exact q)
        rw [old i o h1 hi] at h3; cases h3
  · rw [hn]
    rcases setL_obj L H i with ⟨o1, h1, h2⟩ | ⟨h1, h2⟩
    · rw [h2] at hi; cases hi; exact .inr (hv _ h1).2.2
    · rw [h2] at hi; exact .inl hi

theorem NBo_mE {α : Type} {f : α → IV} {m : List (List UInt8 × α)} {n : Nat} : NBo n (.map (mE f m)) ↔ ∀ p, p ∈ m → NB n (f p.2) := by
  simp only [NBo, mE, List.mem_map]
  constructor
  · intro h p hp; exact h _ ⟨p, hp, rfl⟩
  · rintro h e ⟨p, hp, rfl⟩; exact h p hp

theorem NBo_mI {α : Type} {j : IntKind} {f : α → IV} {m : List (Int × α)} {n : Nat} : NBo n (.map (mI j f m)) ↔ ∀ p, p ∈ m → NB n (f p.2) := by
  simp only [NBo, mI, List.mem_map]
  constructor
  · intro h p hp; exact h _ ⟨p, hp, rfl⟩
  · rintro h e ⟨p, hp, rfl⟩; exact h p hp

inductive NzL (n : Nat) : List IV → List IV → Prop
  | nil : NzL n [] []
  | same (a : IV) {l m : List IV} (t : NzL n l m) : NzL n (a :: l) (a :: m)
  | row {l m : List IV} (t : NzL n l m) : NzL n (.v (.slice none 0 0) :: l) (.os n 0 :: m)

theorem NzL.len {n : Nat} {l m : List IV} (h : NzL n l m) : m.length = l.length := by
  induction h with
  | nil => rfl
  | same _ _ ih => simp [ih]
  | row _ ih => simp [ih]

theorem NzL.get {n : Nat} {l m : List IV} (h : NzL n l m) : ∀ (j : Nat) (a b : IV), l[j]? = some a → m[j]? = some b → a = b ∨ (a = .v (.slice none 0 0) ∧ b = .os n 0) := by
  induction h with
  | nil => intro j a b h; simp at h
  | same a _ ih =>
    intro j a b h1 h2
    cases j with
    | zero => simp at h1 h2; subst h1; subst h2; exact .inl rfl
    | succ j => exact ih j a b (by simpa using h1) (by simpa using h2)
  | row _ ih =>
    intro j a b h1 h2
    cases j with
    | zero => simp at h1 h2; subst h1; subst h2; exact .inr ⟨rfl, rfl⟩
    | succ j => exact ih j a b (by simpa using h1) (by simpa using h2)

/-! ### Names, one by one -/

def NBL (n : Nat) (l : List IV) : Prop := ∀ c, c ∈ l → NB n c

theorem NBL.nil {n : Nat} : NBL n [] := fun c h => by cases h

theorem NBL.cons {n : Nat} {a : IV} {l : List IV} (h : NB n a) (t : NBL n l) : NBL n (a :: l) := fun c hc => by
  rcases List.mem_cons.1 hc with rfl | hc
  · exact h
  · exact t c hc

theorem NBL.map {n : Nat} {α : Type} {f : α → IV} {l : List α} (h : ∀ x, NB n (f x)) : NBL n (l.map f) := fun c hc => by
  obtain ⟨x, _, rfl⟩ := List.mem_map.1 hc
  exact h x

theorem NBL.app {n : Nat} {l m : List IV} (h : NBL n l) (k : NBL n m) : NBL n (l ++ m) := fun c hc => (List.mem_append.1 hc).elim (h c) (k c)

theorem NB_slm {n sz : Nat} {α : Type} {f : α → List IV} {l : List α} (h : ∀ x, NBL n (f x)) : NB n (.sl sz (l.map f)) := .sl _ _ fun e he c hc => by
  obtain ⟨x, _, rfl⟩ := List.mem_map.1 he
  exact h x c hc

theorem NB_agL {n : Nat} {l : List IV} (h : NBL n l) : NB n (.ag l) := .ag _ h

theorem NB_tuL {n : Nat} {l : List IV} (h : NBL n l) : NB n (.tu l) := .tu _ h

theorem NB_mpL {n k : Nat} (h : k < n) : NB n (.mp k) := .mp _ h

theorem NB_pL {n k off : Nat} (h : k < n) : NB n (.p k off) := .p _ _ h

theorem NBo_mEL {α : Type} {f : α → IV} {m : List (List UInt8 × α)} {n : Nat} (h : ∀ x, NB n (f x)) : NBo n (.map (mE f m)) := NBo_mE.2 fun p _ => h p.2

theorem NBo_mIL {α : Type} {j : IntKind} {f : α → IV} {m : List (Int × α)} {n : Nat} (h : ∀ x, NB n (f x)) : NBo n (.map (mI j f m)) := NBo_mI.2 fun p _ => h p.2

theorem NBo_cL {cs : List IV} {n : Nat} (h : NBL n cs) : NBo n (.cells cs) := h

/-! ### Jumps forward -/

def noJ (Q : Exit → Tm → IHeap → Prop) : Exit → Tm → IHeap → Prop
  | .goto _, _, _ => False
  | .normal, tm, H => Q .normal tm H
  | .exit id, tm, H => Q (.exit id) tm H
  | .ret, tm, H => Q .ret tm H
  | .panic ch, tm, H => Q (.panic ch) tm H
  | .outgrown, tm, H => Q .outgrown tm H

@[go_sem] theorem noJ_normal : noJ Q .normal tm H = Q .normal tm H := rfl

@[go_sem] theorem noJ_ret : noJ Q .ret tm H = Q .ret tm H := rfl

@[go_sem] theorem noJ_exit {l : Nat} : noJ Q (.exit l) tm H = Q (.exit l) tm H := rfl

@[go_sem] theorem noJ_panic {c : List PanicEntry} : noJ Q (.panic c) tm H = Q (.panic c) tm H := rfl

end Go.Idl

namespace Go.Idl

open Go Go.RowKit

abbrev rwS (l : List (List UInt8)) : HO := .row 1 (l.map fun s => [.v (str s)])

structure RowsC (J : IHeap) (n0 : Nat) (C : List IV) (c : List (List (List UInt8))) : Prop where
  len : C.length = c.length
  row : ∀ (j : Nat) (x : IV) (l : List (List UInt8)), C[j]? = some x → c[j]? = some l → (x = .v (.slice none 0 0) ∧ l = []) ∨ ∃ n, n0 ≤ n ∧ n < J.next ∧ x = .os n l.length ∧ J.obj n = some (rwS l)
  inj : ∀ (j j' n m m' : Nat), C[j]? = some (.os n m) → C[j']? = some (.os n m') → j = j'

theorem RowsC.nils {J : IHeap} {n0 : Nat} (n : Nat) : RowsC J n0 (List.replicate n (.v (.slice none 0 0))) (List.replicate n []) where
  len := by simp
  row := fun j x l h1 h2 => by
    rw [List.getElem?_replicate] at h1 h2
    split at h1
    · rename_i h; rw [if_pos h] at h2; cases h1; cases h2; exact .inl ⟨rfl, rfl⟩
    · cases h1
  inj := fun j j' n m m' h1 _ => by
    rw [List.getElem?_replicate] at h1
    split at h1 <;> cases h1

theorem RowsC.mono {J J' : IHeap} {n0 : Nat} {C : List IV} {c : List (List (List UInt8))} (h : RowsC J n0 C c) (hx : J.next ≤ J'.next) (ho : ∀ k o, n0 ≤ k → k < J.next → J.obj k = some o → J'.obj k = some o) : RowsC J' n0 C c :=
  ⟨h.len, fun j x l h1 h2 => by
    rcases h.row j x l h1 h2 with h | ⟨n, h3, h4, h5, h6⟩
    · exact .inl h
    · exact .inr ⟨n, h3, by omega, h5, ho n _ h3 h4 h6⟩, h.inj⟩

theorem RowsC.at {J : IHeap} {n0 : Nat} {C : List IV} {c : List (List (List UInt8))} (h : RowsC J n0 C c) {f : Nat} (hf : f < c.length) : (C[f]? = some (.v (.slice none 0 0)) ∧ c[f] = []) ∨ ∃ n, n0 ≤ n ∧ n < J.next ∧ C[f]? = some (.os n c[f].length) ∧ J.obj n = some (rwS c[f]) := by
  have hf' : f < C.length := by rw [h.len]; exact hf
  rcases h.row f _ _ (List.getElem?_eq_getElem hf') (List.getElem?_eq_getElem hf) with ⟨h1, h2⟩ | ⟨n, h1, h2, h3, h4⟩
  · exact .inl ⟨by rw [List.getElem?_eq_getElem hf', h1], h2⟩
  · exact .inr ⟨n, h1, h2, by rw [List.getElem?_eq_getElem hf', h3], h4⟩

theorem RowsC.putNew {J J' : IHeap} {n0 : Nat} {C : List IV} {c : List (List (List UInt8))} (h : RowsC J n0 C c) {f k : Nat} {x : List UInt8} (hf : f < c.length) (hc : c[f] = []) (hk : n0 ≤ k) (hkJ : J.next ≤ k) (hk' : k < J'.next) (hx : J.next ≤ J'.next)
    (ho : ∀ i o, n0 ≤ i → i < J.next → J.obj i = some o → J'.obj i = some o) (hn : J'.obj k = some (rwS [x])) : RowsC J' n0 (C.set f (.os k 1)) (c.set f [x]) where
  len := by simp [h.len]
  row := fun j y l h1 h2 => by
    have hf' : f < C.length := by rw [h.len]; exact hf
    rw [List.getElem?_set] at h1 h2
    by_cases e : f = j
    · rw [if_pos e] at h1 h2
      subst e
      rw [if_pos hf'] at h1
      rw [if_pos hf] at h2
      cases h1
      cases h2
      exact .inr ⟨k, hk, hk', rfl, hn⟩
    · rw [if_neg e] at h1 h2
      exact (h.mono hx ho).row j y l h1 h2
  inj := fun j j' n m m' h1 h2 => by
    have old : ∀ (i m : Nat), C[i]? = some (.os k m) → False := fun i m e => by
      have hi : i < c.length := by rw [← h.len]; exact (List.getElem?_eq_some_iff.1 e).1
      rcases h.row i _ _ e (List.getElem?_eq_getElem hi) with ⟨q, _⟩ | ⟨n, _, q2, q3, _⟩
      · cases q
      · cases q3; omega
    rw [List.getElem?_set] at h1 h2
    by_cases e : f = j <;> by_cases e' : f = j'
    · omega
    · rw [if_pos e] at h1
      rw [if_neg e'] at h2
      split at h1
      · cases h1; exact (old _ _ h2).elim
      · cases h1
    · rw [if_neg e] at h1
      rw [if_pos e'] at h2
      split at h2
      · cases h2; exact (old _ _ h1).elim
      · cases h2
    · rw [if_neg e] at h1
      rw [if_neg e'] at h2
      exact h.inj j j' n m m' h1 h2

theorem RowsC.putOld {J J' : IHeap} {n0 : Nat} {C : List IV} {c : List (List (List UInt8))} (h : RowsC J n0 C c) {f k m : Nat} {l : List (List UInt8)} (hf : f < c.length) (hC : C[f]? = some (.os k m)) (hx : J.next ≤ J'.next)
    (ho : ∀ i o, n0 ≤ i → i < J.next → i ≠ k → J.obj i = some o → J'.obj i = some o) (hn : J'.obj k = some (rwS l)) : RowsC J' n0 (C.set f (.os k l.length)) (c.set f l) where
  len := by simp [h.len]
  row := fun j y l' h1 h2 => by
    have hf' : f < C.length := by rw [h.len]; exact hf
    rw [List.getElem?_set] at h1 h2
    by_cases e : f = j
    · rw [if_pos e] at h1 h2
      subst e
      rw [if_pos hf'] at h1
      rw [if_pos hf] at h2
      cases h1
      cases h2
      rcases h.row f _ _ hC (List.getElem?_eq_getElem hf) with ⟨q, _⟩ | ⟨n, q1, q2, q3, _⟩
      · cases q
      · cases q3; exact .inr ⟨k, q1, by omega, rfl, hn⟩
    · rw [if_neg e] at h1 h2
      rcases h.row j y l' h1 h2 with q | ⟨n, q1, q2, q3, q4⟩
      · exact .inl q
      · refine .inr ⟨n, q1, by omega, q3, ho n _ q1 q2 ?_ q4⟩
        rintro rfl
        rw [q3] at h1
        exact e (h.inj f j n m _ hC h1)
  inj := fun j j' n m1 m2 h1 h2 => by
    have back : ∀ (i m : Nat), (C.set f (.os k l.length))[i]? = some (.os n m) → ∃ m', C[i]? = some (.os n m') := fun i m e => by
      rw [List.getElem?_set] at e
      split at e
      · rename_i q
        split at e
        · cases e; exact ⟨_, by rw [← q]; exact hC⟩
        · cases e
      · exact ⟨_, e⟩
    obtain ⟨a, ha⟩ := back j m1 h1
    obtain ⟨b, hb⟩ := back j' m2 h2
    exact h.inj j j' n a b ha hb

theorem RowsC.fz {J H : IHeap} {n0 : Nat} {C : List IV} {c : List (List (List UInt8))} (h : RowsC J n0 C c) (hk : ∀ n, n0 ≤ n → H.obj n = none) : Fz J H (.ag C) (.ag (c.map fun l => .sl 1 (l.map fun s => [.v (str s)]))) := by
  refine .ag _ _ (by simp [h.len]) fun j x y h1 h2 => ?_
  rw [List.getElem?_map] at h2
  cases hc : c[j]? with
  | none => rw [hc] at h2; cases h2
  | some l =>
    rw [hc] at h2
    cases h2
    have hnb : NB H.next (.sl 1 (l.map fun s => [IV.v (str s)])) := NB_sl.2 fun e he z hz => by
      obtain ⟨s, _, rfl⟩ := List.mem_map.1 he
      simp at hz
      subst hz
      exact .v _
    rcases h.row j x l h1 hc with ⟨rfl, rfl⟩ | ⟨n, q1, q2, rfl, q4⟩
    · exact .wk _ _ (.nil 1) (by simpa using hnb)
    · exact .row (hk n q1) q4 (by simp) hnb

end Go.Idl

namespace Go.Idl

open Go Go.Lib

/-! ### Up to a byte -/

def cutS : List UInt8 → UInt8 → Option (List UInt8 × List UInt8)
  | [], _ => none
  | b :: s, x => if b = x then some ([], s) else (cutS s x).map fun p => (b :: p.1, p.2)

theorem cutS_some {x : UInt8} : ∀ {s a b : List UInt8}, cutS s x = some (a, b) ↔ s = a ++ x :: b ∧ x ∉ a
  | [], a, b => by simp [cutS]
  | c :: s, a, b => by
    unfold cutS
    by_cases h : c = x
    · subst h
      rw [if_pos rfl]
      constructor
      · rintro h; cases h; simp
      · rintro ⟨h1, h2⟩
        cases a with
        | nil => simp at h1; simp [h1]
        | cons d a => simp at h1; exact absurd (by simp [h1.1]) h2
    · rw [if_neg h]
      constructor
      · intro h'
        obtain ⟨⟨a', b'⟩, h1, h2⟩ := Option.map_eq_some_iff.1 h'
        cases h2
        obtain ⟨h3, h4⟩ := cutS_some.1 h1
        exact ⟨by simp [h3], by simp [h4, Ne.symm h]⟩
      · rintro ⟨h1, h2⟩
        cases a with
        | nil => simp at h1; exact absurd h1.1 h
        | cons d a =>
          simp at h1 h2
          rw [cutS_some.2 ⟨h1.2, h2.2⟩, h1.1]
          rfl

theorem cutS_none {x : UInt8} : ∀ {s : List UInt8}, cutS s x = none ↔ x ∉ s
  | [] => by simp [cutS]
  | c :: s => by
    unfold cutS
    by_cases h : c = x
    · subst h; simp
    · rw [if_neg h]
      simp [cutS_none (s := s), Ne.symm h]

theorem cutS_len {x : UInt8} {s a b : List UInt8} (h : cutS s x = some (a, b)) : a.length + b.length + 1 = s.length := by
  rw [(cutS_some.1 h).1]; simp; omega

theorem index_one (x : UInt8) : ∀ s : List UInt8, index s [x] = match cutS s x with | some p => (p.1.length : Int) | none => -1
  | [] => by simp [index, cutS]
  | b :: s => by
    have ih := index_one x s
    unfold index cutS
    by_cases h : b = x
    · subst h
      simp [List.isPrefixOf]
    · rw [if_neg h]
      have : ¬ x = b := fun e => h e.symm
      simp only [List.isPrefixOf, Bool.and_true, beq_iff_eq, if_neg this, ih]
      cases hc : cutS s x with
      | none => simp
      | some p =>
        have : ¬ ((p.1.length : Int) == -1) = true := by simp
        simp [this]

theorem cut_one (s : List UInt8) (x : UInt8) : Lib.cut s [x] = match cutS s x with | some p => (p.1, p.2, true) | none => (s, [], false) := by
  unfold Lib.cut
  rw [index_one]
  cases h : cutS s x with
  | none => simp
  | some p =>
    obtain ⟨a, b⟩ := p
    obtain ⟨h1, _⟩ := cutS_some.1 h
    simp only
    rw [if_pos (by omega)]
    subst h1
    simp

/-! ### Numerals -/

theorem digitVal_some {c : UInt8} {d : Nat} : digitVal c = some d ↔ 48 ≤ c.toNat ∧ c.toNat ≤ 57 ∧ d = c.toNat - 48 := by
  unfold digitVal
  split
  · rename_i h; simp; constructor
    · rintro rfl; exact ⟨h.1, h.2, rfl⟩
    · rintro ⟨_, _, rfl⟩; rfl
  · rename_i h; simp; omega

theorem decFrom_app : ∀ (l : List UInt8) (acc : Nat) (c : UInt8), decFrom acc (l ++ [c]) = (decFrom acc l).bind fun n => (digitVal c).map fun d => n * 10 + d
  | [], acc, c => by
    simp only [List.nil_append, decFrom]
    cases digitVal c <;> simp
  | b :: l, acc, c => by
    simp only [List.cons_append, decFrom]
    cases digitVal b with
    | none => simp
    | some d => simp [decFrom_app l]

theorem dig_of {d : Nat} (h : d < 10) : digitVal (UInt8.ofNat (48 + d)) = some d := by
  have e : (UInt8.ofNat (48 + d)).toNat = 48 + d := by simp [UInt8.toNat_ofNat']; omega
  exact digitVal_some.2 ⟨by omega, by omega, by omega⟩

theorem decFrom_dec (n : Nat) : decFrom 0 (decDigits n) = some n := by
  induction n using Nat.strongRecOn with
  | _ n ih =>
    unfold decDigits
    split
    · rename_i h
      have := decFrom_app [] 0 (UInt8.ofNat (48 + n))
      simp only [List.nil_append] at this
      rw [this, dig_of h]
      simp [decFrom]
    · rename_i h
      rw [decFrom_app, ih (n / 10) (by omega), dig_of (Nat.mod_lt _ (by omega))]
      simp
      omega

theorem dec_ne (n : Nat) : decDigits n ≠ [] := by
  unfold decDigits
  split <;> simp

theorem decNat_dec (n : Nat) : decNat (decDigits n) = some n := by
  unfold decNat
  rw [if_neg (by simp [dec_ne]), decFrom_dec]

theorem dec_inj {n m : Nat} (h : decDigits n = decDigits m) : n = m := by
  have h1 := decFrom_dec n
  rw [h, decFrom_dec] at h1
  exact (Option.some.inj h1).symm

theorem dec_digit (n : Nat) : ∀ c, c ∈ decDigits n → 48 ≤ c.toNat ∧ c.toNat ≤ 57 := by
  induction n using Nat.strongRecOn with
  | _ n ih =>
    have one : ∀ d, d < 10 → 48 ≤ (UInt8.ofNat (48 + d)).toNat ∧ (UInt8.ofNat (48 + d)).toNat ≤ 57 := fun d hd => by
      obtain ⟨h1, h2, _⟩ := digitVal_some.1 (dig_of hd)
      exact ⟨h1, h2⟩
    intro c hc
    unfold decDigits at hc
    split at hc
    · rename_i h
      rw [List.mem_singleton.1 hc]
      exact one n h
    · rename_i h
      rcases List.mem_append.1 hc with hc | hc
      · exact ih (n / 10) (by omega) c hc
      · rw [List.mem_singleton.1 hc]
        exact one _ (Nat.mod_lt _ (by omega))

theorem dec_len_le (n k : Nat) (h : n < 10 ^ (k + 1)) : (decDigits n).length ≤ k + 1 := by
  induction k generalizing n with
  | zero => rw [decDigits, dif_pos (by simpa using h)]; simp
  | succ k ih =>
    rw [decDigits]
    split
    · simp
    · have := ih (n / 10) (by rw [Nat.pow_succ] at h; omega)
      simp; omega

theorem atoi_dec (n : Nat) (h : n < 1000000000000000000) : atoiS (decDigits n) = ((n : Int), false) := by
  have hl : (decDigits n).length ≤ 18 := dec_len_le n 17 (by simpa using h)
  have ha : atoi (decDigits n) = some (n : Int) := by
    have h1 := decNat_dec n
    have h2 := dec_digit n
    cases hd : decDigits n with
    | nil => exact absurd hd (dec_ne n)
    | cons b r =>
      rw [hd] at h1 h2
      have hb := h2 b (by simp)
      have q1 : (b == 45) = false := by simp; rintro rfl; simp at hb
      have q2 : (b == 43) = false := by simp; rintro rfl; simp at hb
      unfold atoi
      simp only [q1, q2, Bool.false_eq_true, if_false, h1]
      rfl
  unfold atoiS
  rw [atoiAll_short _ hl, ha]
  rfl

noncomputable def numS (s : List UInt8) (m : Nat) : Option Nat := by
  classical exact if h : ∃ n, 1 ≤ n ∧ n ≤ m ∧ decDigits n = s then some h.choose else none

theorem numS_some {s : List UInt8} {m n : Nat} : numS s m = some n ↔ 1 ≤ n ∧ n ≤ m ∧ decDigits n = s := by
  unfold numS
  split
  · rename_i h
    have hc := h.choose_spec
    constructor
    · intro e; rw [← Option.some.inj e]; exact hc
    · rintro ⟨_, _, h3⟩
      rw [dec_inj (hc.2.2.trans h3.symm)]
  · rename_i h
    constructor
    · intro e; cases e
    · intro e; exact absurd ⟨n, e⟩ h

theorem numS_none {s : List UInt8} {m : Nat} (h : ∀ n, 1 ≤ n → n ≤ m → decDigits n ≠ s) : numS s m = none := by
  cases e : numS s m with
  | none => rfl
  | some n =>
    obtain ⟨h1, h2, h3⟩ := numS_some.1 e
    exact absurd h3 (h n h1 h2)

end Go.Idl

namespace Go.Idl

open Go Go.Lib

abbrev StrC := List UInt8

/-! ### Values up to a length -/

noncomputable def valM (m : Nat) (s : StrC) : Option (StrC × StrC) := (cutS s 32).bind fun p => (numS p.1 m).bind fun n => if n < p.2.length ∧ p.2.getD n 0 = 10 then some (p.2.take n, p.2.drop (n + 1)) else none

noncomputable def valsM (m : Nat) : Nat → StrC → Option (List StrC × StrC)
  | 0, s => some ([], s)
  | n + 1, s => (valM m s).bind fun p => (valsM m n p.2).map fun q => (p.1 :: q.1, q.2)

def valC (v : StrC) : StrC := decDigits v.length ++ 32 :: v ++ [10]

theorem valM_valC (m : Nat) (v rest : StrC) (h1 : 1 ≤ v.length) (h2 : v.length ≤ m) : valM m (valC v ++ rest) = some (v, rest) := by
  have e : valC v ++ rest = decDigits v.length ++ 32 :: (v ++ 10 :: rest) := by simp [valC]
  have hn : (32 : UInt8) ∉ decDigits v.length := fun h => by have := dec_digit _ _ h; simp at this
  unfold valM
  rw [e, cutS_some.2 ⟨rfl, hn⟩]
  simp only [Option.bind_some]
  rw [numS_some.2 ⟨h1, h2, rfl⟩]
  simp

theorem valsM_valC (m : Nat) (rest : StrC) : ∀ (l : List StrC), (∀ v, v ∈ l → 1 ≤ v.length ∧ v.length ≤ m) → valsM m l.length (l.flatMap valC ++ rest) = some (l, rest)
  | [], _ => rfl
  | v :: l, h => by
    have hv := h v (by simp)
    simp only [List.length_cons, valsM, List.flatMap_cons, List.append_assoc]
    rw [valM_valC m v _ hv.1 hv.2]
    simp only [Option.bind_some]
    rw [valsM_valC m rest l fun w hw => h w (by simp [hw])]
    rfl

/-! ### Fields -/

def namesC : List StrC := [[102, 117, 108, 108], [103, 105, 118, 101, 110], [102, 97, 109, 105, 108, 121], [111, 114, 103], [116, 105, 116, 108, 101], [110, 111, 116, 101], [109, 97, 105, 108], [112, 104, 111, 110, 101]]

def fixN (nm : StrC) : Option Nat := namesC.findIdx? fun x => decide (x = nm)

theorem fixN_lt {nm : StrC} {i : Nat} (h : fixN nm = some i) : i < 8 := by
  have := List.findIdx?_eq_some_iff_getElem.1 h
  obtain ⟨h1, _⟩ := this
  simpa [namesC] using h1

theorem fixN_name (i : Nat) (h : i < 8) : fixN (namesC.getD i []) = some i := by
  match i, h with
  | 0, _ | 1, _ | 2, _ | 3, _ | 4, _ | 5, _ | 6, _ | 7, _ => decide

theorem name_no (i : Nat) (h : i < 8) : (32 : UInt8) ∉ namesC.getD i [] := by
  match i, h with
  | 0, _ | 1, _ | 2, _ | 3, _ | 4, _ | 5, _ | 6, _ | 7, _ => decide

noncomputable def fldS (s : StrC) : Option (Nat × List StrC × StrC) := (cutS s 32).bind fun p => (cutS p.2 10).bind fun q => (fixN p.1).bind fun i => (numS q.1 8).bind fun n => (valsM 200 n q.2).map fun r => (i, r.1, r.2)

noncomputable def conS : Nat → Nat → StrC → List (List StrC) → Option (List (List StrC))
  | 0, _, s, c => if s = [] then some c else none
  | f + 1, k, s, c => if s = [] then some c else (fldS s).bind fun p => if p.1 < k then none else conS f (p.1 + 1) p.2.2 (c.set p.1 p.2.1)

def fieldC (i : Nat) (l : List StrC) : StrC := (if l = [] then [] else namesC.getD i [] ++ 32 :: decDigits l.length ++ [10]) ++ l.flatMap valC

def textC (c : List (List StrC)) : Nat → Nat → StrC
  | 0, _ => []
  | n + 1, i => fieldC i (c.getD i []) ++ textC c n (i + 1)

theorem fldS_fieldC (i : Nat) (l : List StrC) (rest : StrC) (hi : i < 8) (h1 : l ≠ []) (h2 : l.length ≤ 8) (hv : ∀ v, v ∈ l → 1 ≤ v.length ∧ v.length ≤ 200) : fldS (fieldC i l ++ rest) = some (i, l, rest) := by
  have e : fieldC i l ++ rest = namesC.getD i [] ++ 32 :: (decDigits l.length ++ 10 :: (l.flatMap valC ++ rest)) := by simp [fieldC, h1]
  have hd : (10 : UInt8) ∉ decDigits l.length := fun h => by have := dec_digit _ _ h; simp at this
  have hp : 0 < l.length := List.length_pos_iff.2 h1
  unfold fldS
  rw [e, cutS_some.2 ⟨rfl, name_no i hi⟩]
  simp only [Option.bind_some]
  rw [cutS_some.2 ⟨rfl, hd⟩]
  simp only [Option.bind_some]
  rw [fixN_name i hi]
  simp only [Option.bind_some]
  rw [numS_some.2 ⟨hp, h2, rfl⟩]
  simp only [Option.bind_some]
  rw [valsM_valC 200 rest l hv]
  rfl

theorem fieldC_ne (i : Nat) (l : List StrC) (rest : StrC) (h : l ≠ []) : fieldC i l ++ rest ≠ [] := by simp [fieldC, h]

theorem conS_textC (c : List (List StrC)) (hc : c.length = 8) (h2 : ∀ l, l ∈ c → l.length ≤ 8) (hv : ∀ l, l ∈ c → ∀ v, v ∈ l → 1 ≤ v.length ∧ v.length ≤ 200) : ∀ (n i f k : Nat) (d : List (List StrC)), i + n = 8 → n ≤ f → k ≤ i → d.length = 8 → (∀ j, j < i → d.getD j [] = c.getD j []) → (∀ j, i ≤ j → d.getD j [] = []) → conS f k (textC c n i) d = some c
  | 0, i, f, k, d, hi, hf, hk, hd, h3, h4 => by
    have e : d = c := List.ext_getElem (by omega) fun j q1 q2 => by
      have := h3 j (by omega)
      rw [List.getD_eq_getElem?_getD, List.getD_eq_getElem?_getD, List.getElem?_eq_getElem q1, List.getElem?_eq_getElem q2] at this
      simpa using this
    cases f <;> simp [conS, textC, e]
  | n + 1, i, f, k, d, hi, hf, hk, hd, h3, h4 => by
    have hic : i < c.length := by omega
    have hg : c.getD i [] = c[i] := by rw [List.getD_eq_getElem?_getD, List.getElem?_eq_getElem hic]; rfl
    unfold textC
    by_cases hl : c.getD i [] = []
    · have e : fieldC i (c.getD i []) = [] := by rw [hl]; simp [fieldC]
      rw [e, List.nil_append]
      refine conS_textC c hc h2 hv n (i + 1) f k d (by omega) (by omega) (by omega) hd (fun j hj => ?_) (fun j hj => h4 j (by omega))
      rcases Nat.lt_or_ge j i with q | q
      · exact h3 j q
      · rw [show j = i by omega, hl, h4 i (Nat.le_refl _)]
    · cases f with
      | zero => omega
      | succ f =>
        have hm : c.getD i [] ∈ c := by rw [hg]; exact List.getElem_mem _
        unfold conS
        rw [if_neg (fieldC_ne i _ _ hl), fldS_fieldC i _ _ (by omega) hl (h2 _ hm) (hv _ hm)]
        simp only [Option.bind_some]
        rw [if_neg (by omega)]
        refine conS_textC c hc h2 hv n (i + 1) f (i + 1) _ (by omega) (by omega) (Nat.le_refl _) (by simpa using hd) (fun j hj => ?_) (fun j hj => ?_)
        · rcases Nat.lt_or_ge j i with q | q
          · have := h3 j q
            rw [List.getD_eq_getElem?_getD] at this ⊢
            rw [List.getElem?_set_ne (by omega)]
            exact this
          · rw [show j = i by omega, List.getD_eq_getElem?_getD, List.getElem?_set_self (by omega)]
            rfl
        · have := h4 j (by omega)
          rw [List.getD_eq_getElem?_getD] at this ⊢
          rw [List.getElem?_set_ne (by omega)]
          exact this

end Go.Idl

namespace Go.Idl

open Go Go.RowKit

variable {P : Program} {N : Nat} {tm : Tm} {H : IHeap} {Q : Exit → Tm → IHeap → Prop}

/-! ### Ranges over maps -/

end Go.Idl

namespace Go.Idl

open Go Go.RowKit

variable {P : Program} {N : Nat} {tm : Tm} {H0 H H1 : IHeap} {K : IEnd → IHeap → Prop}

theorem retG_pureA {r r' : IV} (h1 : Ext H0 H1) (h : K (.ret r) H0)
    (he : Ext H0 H1 → Ext H0 H := by intro he1; repeat (first | exact he1 | refine Ext.new ?_ _ | refine Ext.set ?_ (by first | omega | (simp [go_sem]; done) | (simp [go_sem]; omega)) _ | refine Ext.del ?_ (by first | omega | (simp [go_sem]; done) | (simp [go_sem]; omega))))
    (hn : NB H0.next r := by repeat (first | exact .v _ | exact NBL.nil | refine NBL.cons ?_ ?_ | refine NB_slm fun _ => ?_ | refine NB_agL ?_ | refine NB_tuL ?_ | refine NBL.app ?_ ?_ | refine NBL.map fun _ => ?_ | exact NB_errI | refine NBo_cL ?_ | refine NBo_mEL fun _ => ?_ | refine NBo_mIL fun _ => ?_ | exact NB_mpL (by omega) | exact NB_pL (by omega)))
    (e : r' = r) : retG r' H0 K H := by subst e; exact retG_pure (he h1) hn h

theorem vcK {c : Code} {Q : Exit → Tm → IHeap → Prop} (h : vc P N c Q tm H) (hc : fitC N c = true := by kernel_rfl) : IWp P N c Q tm H := vc_sound _ hc _ _ _ h

end Go.Idl

namespace Go.Idl

open Go Go.Proofs.Tryz Go.RowKit Go.Proofs Go.Shelf

variable {H : IHeap} {K : IEnd → IHeap → Prop}

@[go_sem] theorem err45n {b : Bool} {t : TypeId} : nilI prog .neq 45 (errI t b) = some (True, .v (.bool b)) := nilI_errN underlying45 rfl

noncomputable def Z20 (n : Int) : Option (List UInt8) := gd (-9223372036854775808 ≤ n ∧ n ≤ 9223372036854775807) (some (Lib.itoa n))

theorem Z20_ok (n : Int) (hV : VOK prog H) {r : List UInt8} (h : Z20 n = some r) (hK : K (.ret (.v (str r))) H) : ICalls prog 20 [.v (.int .i64 n)] H K := by
  obtain ⟨⟨h0, h1⟩, h⟩ := gd_some.1 h
  cases h
  exact ICalls_itoa Go.Proofs.Tryz.laysM171 rfl (by kernel_rfl) hV n h0 h1 hK

noncomputable def Z49 (s t : List UInt8) : Option (List UInt8 × List UInt8 × Bool) := gd ((s.length : Int) < 4294967281) (some (Lib.cut s t))

theorem Z49_ok (s t : List UInt8) (hV : VOK prog H) {r : List UInt8 × List UInt8 × Bool} (h : Z49 s t = some r) (hK : K (.ret (.tu [.v (str r.1), .v (str r.2.1), .v (.bool r.2.2)])) H) : ICalls prog 49 [.v (str s), .v (str t)] H K := by
  obtain ⟨h0, h⟩ := gd_some.1 h
  cases h
  exact ICalls_cut Go.Proofs.Tryz.lays145 rfl (by kernel_rfl) (by kernel_rfl) hV s t (by omega) hK

noncomputable def Z50 (s : List UInt8) : Option (Int × Bool) := gd ((s.length : Int) ≤ 281474976710656) (some (atoiS s))

theorem Z50_ok (s : List UInt8) (hV : VOK prog H) {r : Int × Bool} (h : Z50 s = some r) (hK : K (.ret (.tu [.v (.int .i64 r.1), errI 106 r.2])) H) : ICalls prog 50 [.v (str s)] H K := by
  obtain ⟨h0, h⟩ := gd_some.1 h
  cases h
  exact ICalls_atoi Go.Proofs.Tryz.laysC172 rfl rfl (by kernel_rfl) hV s (by omega) hK

theorem itoa_natZ (n : Nat) : Lib.itoa (n : Int) = Lib.decDigits n := by
  unfold Lib.itoa
  rw [if_neg (by omega)]
  simp

noncomputable def ZK : Option Bool := some true

theorem ZK_ok {r : Bool} (h : ZK = some r) (hK : K (.ret (.v (.bool r))) H) : ICalls prog 6 [] H K := by
  cases h
  exact known8 hK

noncomputable instance (c : List (List (List UInt8))) : Decidable (smallC c) := Classical.propDecidable _

noncomputable def ZC (c : List (List (List UInt8))) : Option Int := gd (smallC c) (some (if checkS c = true then 0 else 2))

theorem ZC_ok (c : List (List (List UInt8))) {r : Int} (h : ZC c = some r) (hK : K (.ret (.v (.int .i64 r))) H) : ICalls prog 9 [cS c] H K := by
  obtain ⟨h0, h⟩ := gd_some.1 h
  cases h
  exact check19 c h0.1 h0.2 hK

def tinyC (c : List (List (List UInt8))) : Prop := c.length = 8 ∧ ∀ l, l ∈ c → l.length ≤ 1000 ∧ ∀ s, s ∈ l → s.length ≤ 100000

noncomputable instance (c : List (List (List UInt8))) : Decidable (tinyC c) := Classical.propDecidable _

noncomputable def ZT (c : List (List (List UInt8))) : Option (List UInt8 × Int) := gd (tinyC c) (some (if checkS c = true then textS c else [], if checkS c = true then 0 else 2))

theorem ZT_ok (c : List (List (List UInt8))) (hV : VOK prog H) {r : List UInt8 × Int} (h : ZT c = some r) (hK : K (.ret (.tu [.v (str r.1), .v (.int .i64 r.2)])) H) : ICalls prog 7 [cS c] H K := by
  obtain ⟨h0, h⟩ := gd_some.1 h
  cases h
  exact text18g c h0.1 h0.2 (fun n hn J K hs hK => Z20_ok n (hV.of hs) (gd_pos (by omega)) (by rw [itoa_natZ]; exact hK)) hK

end Go.Idl

namespace Go.Idl

open Go Go.Proofs.Tryz

structure S61 where
  fs : List UInt8

deriving DecidableEq

def S61.zero : S61 := ⟨[]⟩

structure S63 where
  fleft : S61
  fbad : Bool

deriving DecidableEq

def S63.zero : S63 := ⟨S61.zero, false⟩

/-! (*cardcase/contact.reader).until -/

noncomputable def Z29 (a0 : S63) (a1 : Int) : Option ((List UInt8) × S63) :=
  gd (0 ≤ a1 ∧ a1 ≤ 255) ((Z49 a0.fleft.fs ([UInt8.ofNat a1.toNat])).bind fun (x4 : (List UInt8) × (List UInt8) × Bool) => if a0.fbad = true then (some ((x4.1, (⟨(⟨x4.2.1⟩ : S61), true⟩ : S63)))) else (some ((x4.1, (⟨(⟨x4.2.1⟩ : S61), !x4.2.2⟩ : S63)))))

set_option maxHeartbeats 8000000 in
set_option pp.deepTerms false in
set_option maxRecDepth 60000 in
theorem Z29_ok {H : IHeap} {K : IEnd → IHeap → Prop} (a0 : S63) (a1 : Int) (ka0 : Nat) (oka0 : H.obj ka0 = some (.cells ([.v (str a0.fleft.fs), .v (.bool a0.fbad)]))) (hV : VOK prog H) {r : (List UInt8) × S63} (h : Z29 a0 a1 = some r) (hK : K (.ret (.v (str r.1))) (setL H [(ka0, .cells ([.v (str r.2.fleft.fs), .v (.bool r.2.fbad)]))])) : ICalls prog 29 [.p ka0 0, .v (.int .u8 a1)] H K := by
  refine ICalls_iwp (N := 38) func29 (by kernel_rfl) rfl (by kernel_rfl) (by kernel_rfl) fun cb hcb hw hbd hnb => ?_
  clear hbd hnb
  subst hcb
  unfold Z29 at h
  have hka0 : ka0 < H.next := Nat.lt_of_not_le fun q => by rw [hw _ q] at oka0; cases oka0
  refine IWp_seqF fun cb hc1 => ?_
  refine vcK ?_
  try simp -implicitDefEqProofs (maxSteps := 1000000) (disch := omega) [go_sem, oka0]
  subst hc1
  refine IWp_seqF fun cb hc2 => ?_
  refine IWp_drawP [8] [0, 1, 2, 3, 4, 5, 6, 7, 8, 9, 10, 11, 12, 13, 14, 15] (by kernel_rfl) (by kernel_rfl) (fun _ _ _ _ h => h) ?_
  obtain ⟨g3, h⟩ := gd_some.1 h
  try simp -implicitDefEqProofs (disch := omega) at g3
  try simp -implicitDefEqProofs (maxSteps := 1000000) (disch := omega) [go_sem, oka0]
  obtain ⟨x4, hx4, h⟩ := bind_some' h
  refine PureC.mkT (fun H0 => VOK prog H0) _ (by first | exact hV.of rfl | exact hV.of ((Ext.delB (Ext.refl hw) ka0)).sn) (fun H0 K0 hT hK => ICalls.eqA (args' := [.v (str a0.fleft.fs), .v (str ([UInt8.ofNat a1.toNat]))]) (by first | with_reducible rfl | (simp -implicitDefEqProofs (maxSteps := 1000000) (disch := omega) [go_sem, oka0] <;> omega)) (Z49_ok a0.fleft.fs ([UInt8.ofNat a1.toNat]) hT hx4 hK)) ?_
  try simp -implicitDefEqProofs (maxSteps := 1000000) (disch := omega) [go_sem, oka0]
  subst hc2
  refine IWp_seqF fun cb hc5 => ?_
  refine vcK ?_
  try simp -implicitDefEqProofs (maxSteps := 1000000) (disch := omega) [go_sem, oka0]
  refine splitG_f h (by first | with_reducible rfl | (simp -implicitDefEqProofs (maxSteps := 1000000) (disch := omega) [go_sem, oka0] <;> omega)) ?_ ?_
  · intro c8 h
    try simp -implicitDefEqProofs (disch := omega) at c8
    try simp -implicitDefEqProofs (maxSteps := 1000000) (disch := omega) [go_sem, oka0]
    subst hc5
    refine IWp_seqF fun cb hc6 => ?_
    refine vcK ?_
    try simp -implicitDefEqProofs (maxSteps := 1000000) (disch := omega) [go_sem, oka0]
    subst hc6
    refine vcK ?_
    simp -implicitDefEqProofs only [go_sem]
    have er := Option.some.inj h
    subst er
    try simp -implicitDefEqProofs (maxSteps := 1000000) (disch := omega) [go_sem, oka0]
    refine retG_fzE (J := setL H [(ka0, .cells ([.v (str x4.2.1), .v (.bool true)]))]) (r' := .v (str x4.1)) (EndH.ioL [(ka0, .cells ([.v (str x4.2.1), .v (.bool true)]))] (by simp only [delL_cons, delL_nil]; repeat (first | exact (Ext.delB (Ext.refl hw) ka0) | refine Ext.new ?_ _ | refine Ext.set ?_ (by first | omega | (simp [go_sem]; done) | (simp [go_sem]; omega)) _ | refine Ext.del ?_ (by first | omega | (simp [go_sem]; done) | (simp [go_sem]; omega)) | refine Ext.setN ?_ (by simp [go_sem]) _)) (by intro p hp; simp only [List.mem_cons, List.not_mem_nil, or_false] at hp; (try rcases hp with hp); all_goals (subst hp; refine ⟨by omega, by first | with_reducible assumption | rfl | simp -implicitDefEqProofs (maxSteps := 1000000) (disch := omega) [go_sem, oka0], by repeat (first | exact .v _ | exact NBL.nil | refine NBL.cons ?_ ?_ | refine NB_slm fun _ => ?_ | refine NB_agL ?_ | refine NB_tuL ?_ | refine NBL.app ?_ ?_ | refine NBL.map fun _ => ?_ | exact NB_errI | refine NBo_cL ?_ | refine NBo_mEL fun _ => ?_ | refine NBo_mIL fun _ => ?_ | exact NB_mpL (by omega) | exact NB_pL (by omega))⟩))) (by first | with_reducible rfl | (simp -implicitDefEqProofs (maxSteps := 1000000) (disch := omega) [go_sem, oka0] <;> omega)) (.same (by repeat (first | exact .v _ | exact NBL.nil | refine NBL.cons ?_ ?_ | refine NB_slm fun _ => ?_ | refine NB_agL ?_ | refine NB_tuL ?_ | refine NBL.app ?_ ?_ | refine NBL.map fun _ => ?_ | exact NB_errI | refine NBo_cL ?_ | refine NBo_mEL fun _ => ?_ | refine NBo_mIL fun _ => ?_ | exact NB_mpL (by omega) | exact NB_pL (by omega)))) hK
  · intro c8 h
    try simp -implicitDefEqProofs (disch := omega) at c8
    try simp -implicitDefEqProofs (maxSteps := 1000000) (disch := omega) [go_sem, oka0]
    subst hc5
    refine IWp_seqF fun cb hc7 => ?_
    refine vcK ?_
    try simp -implicitDefEqProofs (maxSteps := 1000000) (disch := omega) [go_sem, oka0]
    subst hc7
    refine vcK ?_
    simp -implicitDefEqProofs only [go_sem]
    have er := Option.some.inj h
    subst er
    try simp -implicitDefEqProofs (maxSteps := 1000000) (disch := omega) [go_sem, oka0]
    refine retG_fzE (J := setL H [(ka0, .cells ([.v (str x4.2.1), .v (.bool (!x4.2.2))]))]) (r' := .v (str x4.1)) (EndH.ioL [(ka0, .cells ([.v (str x4.2.1), .v (.bool (!x4.2.2))]))] (by simp only [delL_cons, delL_nil]; repeat (first | exact (Ext.delB (Ext.refl hw) ka0) | refine Ext.new ?_ _ | refine Ext.set ?_ (by first | omega | (simp [go_sem]; done) | (simp [go_sem]; omega)) _ | refine Ext.del ?_ (by first | omega | (simp [go_sem]; done) | (simp [go_sem]; omega)) | refine Ext.setN ?_ (by simp [go_sem]) _)) (by intro p hp; simp only [List.mem_cons, List.not_mem_nil, or_false] at hp; (try rcases hp with hp); all_goals (subst hp; refine ⟨by omega, by first | with_reducible assumption | rfl | simp -implicitDefEqProofs (maxSteps := 1000000) (disch := omega) [go_sem, oka0], by repeat (first | exact .v _ | exact NBL.nil | refine NBL.cons ?_ ?_ | refine NB_slm fun _ => ?_ | refine NB_agL ?_ | refine NB_tuL ?_ | refine NBL.app ?_ ?_ | refine NBL.map fun _ => ?_ | exact NB_errI | refine NBo_cL ?_ | refine NBo_mEL fun _ => ?_ | refine NBo_mIL fun _ => ?_ | exact NB_mpL (by omega) | exact NB_pL (by omega))⟩))) (by first | with_reducible rfl | (simp -implicitDefEqProofs (maxSteps := 1000000) (disch := omega) [go_sem, oka0] <;> omega)) (.same (by repeat (first | exact .v _ | exact NBL.nil | refine NBL.cons ?_ ?_ | refine NB_slm fun _ => ?_ | refine NB_agL ?_ | refine NB_tuL ?_ | refine NBL.app ?_ ?_ | refine NBL.map fun _ => ?_ | exact NB_errI | refine NBo_cL ?_ | refine NBo_mEL fun _ => ?_ | refine NBo_mIL fun _ => ?_ | exact NB_mpL (by omega) | exact NB_pL (by omega)))) hK

/-! (*cardcase/contact.reader).number -/

noncomputable def Z30 (a0 : S63) (a1 : List UInt8) (a2 : Int) : Option (Int × S63) :=
  (Z50 a1).bind fun (x3 : Int × Bool) => if x3.2 = true then (some ((0, (⟨a0.fleft, true⟩ : S63)))) else (if x3.1 < 1 then (some ((0, (⟨a0.fleft, true⟩ : S63)))) else (if a2 < x3.1 then (some ((0, (⟨a0.fleft, true⟩ : S63)))) else ((Z20 x3.1).bind fun (x12 : (List UInt8)) => if ¬ x12 = a1 then (some ((0, (⟨a0.fleft, true⟩ : S63)))) else (some (x3.1, a0)))))

set_option maxHeartbeats 8000000 in
set_option pp.deepTerms false in
set_option maxRecDepth 60000 in
theorem Z30_ok {H : IHeap} {K : IEnd → IHeap → Prop} (a0 : S63) (a1 : List UInt8) (a2 : Int) (ka0 : Nat) (oka0 : H.obj ka0 = some (.cells ([.v (str a0.fleft.fs), .v (.bool a0.fbad)]))) (hV : VOK prog H) {r : Int × S63} (h : Z30 a0 a1 a2 = some r) (hK : K (.ret (.v (.int .i64 r.1))) (setL H [(ka0, .cells ([.v (str r.2.fleft.fs), .v (.bool r.2.fbad)]))])) : ICalls prog 30 [.p ka0 0, .v (str a1), .v (.int .i64 a2)] H K := by
  refine ICalls_iwp (N := 35) func30 (by kernel_rfl) rfl (by kernel_rfl) (by kernel_rfl) fun cb hcb hw hbd hnb => ?_
  clear hbd hnb
  subst hcb
  unfold Z30 at h
  have hka0 : ka0 < H.next := Nat.lt_of_not_le fun q => by rw [hw _ q] at oka0; cases oka0
  refine IWp_seqF fun cb hc1 => ?_
  refine vcK ?_
  try simp -implicitDefEqProofs (maxSteps := 1000000) (disch := omega) [go_sem, oka0]
  subst hc1
  refine IWp_seqF fun cb hc2 => ?_
  refine vcK ?_
  try simp -implicitDefEqProofs (maxSteps := 1000000) (disch := omega) [go_sem, oka0]
  obtain ⟨x3, hx3, h⟩ := bind_some' h
  refine ICalls.eqA (args' := [.v (str a1)]) (by first | with_reducible rfl | (simp -implicitDefEqProofs (maxSteps := 1000000) (disch := omega) [go_sem, oka0] <;> omega)) (Z50_ok a1 (by first | exact hV.of rfl | exact hV.of ((Ext.delB (Ext.refl hw) ka0)).sn) hx3 ?_)
  try simp -implicitDefEqProofs (maxSteps := 1000000) (disch := omega) [go_sem, oka0]
  subst hc2
  refine IWp_seqF fun cb hc4 => ?_
  refine IWp_seqF fun cb hc5 => ?_
  refine vcK ?_
  try simp -implicitDefEqProofs (maxSteps := 1000000) (disch := omega) [go_sem, oka0]
  refine splitG_f h (by first | with_reducible rfl | (simp -implicitDefEqProofs (maxSteps := 1000000) (disch := omega) [go_sem, oka0] <;> omega)) ?_ ?_
  · intro c19 h
    try simp -implicitDefEqProofs (disch := omega) at c19
    try simp -implicitDefEqProofs (maxSteps := 1000000) (disch := omega) [go_sem, oka0]
    subst hc5
    refine IWp_cond_t (by first | with_reducible rfl | (simp -implicitDefEqProofs (maxSteps := 1000000) (disch := omega) [go_sem, oka0] <;> omega)) rfl ?_
    refine IWp_seqF fun cb hc6 => ?_
    refine vcK ?_
    try simp -implicitDefEqProofs (maxSteps := 1000000) (disch := omega) [go_sem, oka0]
    subst hc6
    refine IWp_seqF fun cb hc7 => ?_
    refine vcK ?_
    try simp -implicitDefEqProofs (maxSteps := 1000000) (disch := omega) [go_sem, oka0]
    subst hc7
    refine vcK ?_
    simp -implicitDefEqProofs only [go_sem]
    have er := Option.some.inj h
    subst er
    try simp -implicitDefEqProofs (maxSteps := 1000000) (disch := omega) [go_sem, oka0]
    refine retG_fzE (J := setL H [(ka0, .cells ([.v (str a0.fleft.fs), .v (.bool true)]))]) (r' := .v (.int .i64 0)) (EndH.ioL [(ka0, .cells ([.v (str a0.fleft.fs), .v (.bool true)]))] (by simp only [delL_cons, delL_nil]; repeat (first | exact (Ext.delB (Ext.refl hw) ka0) | refine Ext.new ?_ _ | refine Ext.set ?_ (by first | omega | (simp [go_sem]; done) | (simp [go_sem]; omega)) _ | refine Ext.del ?_ (by first | omega | (simp [go_sem]; done) | (simp [go_sem]; omega)) | refine Ext.setN ?_ (by simp [go_sem]) _)) (by intro p hp; simp only [List.mem_cons, List.not_mem_nil, or_false] at hp; (try rcases hp with hp); all_goals (subst hp; refine ⟨by omega, by first | with_reducible assumption | rfl | simp -implicitDefEqProofs (maxSteps := 1000000) (disch := omega) [go_sem, oka0], by repeat (first | exact .v _ | exact NBL.nil | refine NBL.cons ?_ ?_ | refine NB_slm fun _ => ?_ | refine NB_agL ?_ | refine NB_tuL ?_ | refine NBL.app ?_ ?_ | refine NBL.map fun _ => ?_ | exact NB_errI | refine NBo_cL ?_ | refine NBo_mEL fun _ => ?_ | refine NBo_mIL fun _ => ?_ | exact NB_mpL (by omega) | exact NB_pL (by omega))⟩))) (by first | with_reducible rfl | (simp -implicitDefEqProofs (maxSteps := 1000000) (disch := omega) [go_sem, oka0] <;> omega)) (.same (by repeat (first | exact .v _ | exact NBL.nil | refine NBL.cons ?_ ?_ | refine NB_slm fun _ => ?_ | refine NB_agL ?_ | refine NB_tuL ?_ | refine NBL.app ?_ ?_ | refine NBL.map fun _ => ?_ | exact NB_errI | refine NBo_cL ?_ | refine NBo_mEL fun _ => ?_ | refine NBo_mIL fun _ => ?_ | exact NB_mpL (by omega) | exact NB_pL (by omega)))) hK
  · intro c19 h
    try simp -implicitDefEqProofs (disch := omega) at c19
    try simp -implicitDefEqProofs (maxSteps := 1000000) (disch := omega) [go_sem, oka0]
    refine splitG_f h (by first | with_reducible rfl | (simp -implicitDefEqProofs (maxSteps := 1000000) (disch := omega) [go_sem, oka0] <;> omega)) ?_ ?_
    · intro c18 h
      try simp -implicitDefEqProofs (disch := omega) at c18
      try simp -implicitDefEqProofs (maxSteps := 1000000) (disch := omega) [go_sem, oka0]
      subst hc5
      refine IWp_cond_t (by first | with_reducible rfl | (simp -implicitDefEqProofs (maxSteps := 1000000) (disch := omega) [go_sem, oka0] <;> omega)) rfl ?_
      refine IWp_seqF fun cb hc8 => ?_
      refine vcK ?_
      try simp -implicitDefEqProofs (maxSteps := 1000000) (disch := omega) [go_sem, oka0]
      subst hc8
      refine IWp_seqF fun cb hc9 => ?_
      refine vcK ?_
      try simp -implicitDefEqProofs (maxSteps := 1000000) (disch := omega) [go_sem, oka0]
      subst hc9
      refine vcK ?_
      simp -implicitDefEqProofs only [go_sem]
      have er := Option.some.inj h
      subst er
      try simp -implicitDefEqProofs (maxSteps := 1000000) (disch := omega) [go_sem, oka0]
      refine retG_fzE (J := setL H [(ka0, .cells ([.v (str a0.fleft.fs), .v (.bool true)]))]) (r' := .v (.int .i64 0)) (EndH.ioL [(ka0, .cells ([.v (str a0.fleft.fs), .v (.bool true)]))] (by simp only [delL_cons, delL_nil]; repeat (first | exact (Ext.delB (Ext.refl hw) ka0) | refine Ext.new ?_ _ | refine Ext.set ?_ (by first | omega | (simp [go_sem]; done) | (simp [go_sem]; omega)) _ | refine Ext.del ?_ (by first | omega | (simp [go_sem]; done) | (simp [go_sem]; omega)) | refine Ext.setN ?_ (by simp [go_sem]) _)) (by intro p hp; simp only [List.mem_cons, List.not_mem_nil, or_false] at hp; (try rcases hp with hp); all_goals (subst hp; refine ⟨by omega, by first | with_reducible assumption | rfl | simp -implicitDefEqProofs (maxSteps := 1000000) (disch := omega) [go_sem, oka0], by repeat (first | exact .v _ | exact NBL.nil | refine NBL.cons ?_ ?_ | refine NB_slm fun _ => ?_ | refine NB_agL ?_ | refine NB_tuL ?_ | refine NBL.app ?_ ?_ | refine NBL.map fun _ => ?_ | exact NB_errI | refine NBo_cL ?_ | refine NBo_mEL fun _ => ?_ | refine NBo_mIL fun _ => ?_ | exact NB_mpL (by omega) | exact NB_pL (by omega))⟩))) (by first | with_reducible rfl | (simp -implicitDefEqProofs (maxSteps := 1000000) (disch := omega) [go_sem, oka0] <;> omega)) (.same (by repeat (first | exact .v _ | exact NBL.nil | refine NBL.cons ?_ ?_ | refine NB_slm fun _ => ?_ | refine NB_agL ?_ | refine NB_tuL ?_ | refine NBL.app ?_ ?_ | refine NBL.map fun _ => ?_ | exact NB_errI | refine NBo_cL ?_ | refine NBo_mEL fun _ => ?_ | refine NBo_mIL fun _ => ?_ | exact NB_mpL (by omega) | exact NB_pL (by omega)))) hK
    · intro c18 h
      try simp -implicitDefEqProofs (disch := omega) at c18
      try simp -implicitDefEqProofs (maxSteps := 1000000) (disch := omega) [go_sem, oka0]
      refine splitG_f h (by first | with_reducible rfl | (simp -implicitDefEqProofs (maxSteps := 1000000) (disch := omega) [go_sem, oka0] <;> omega)) ?_ ?_
      · intro c17 h
        try simp -implicitDefEqProofs (disch := omega) at c17
        try simp -implicitDefEqProofs (maxSteps := 1000000) (disch := omega) [go_sem, oka0]
        subst hc5
        refine IWp_cond_t (by first | with_reducible rfl | (simp -implicitDefEqProofs (maxSteps := 1000000) (disch := omega) [go_sem, oka0] <;> omega)) rfl ?_
        refine IWp_seqF fun cb hc10 => ?_
        refine vcK ?_
        try simp -implicitDefEqProofs (maxSteps := 1000000) (disch := omega) [go_sem, oka0]
        subst hc10
        refine IWp_seqF fun cb hc11 => ?_
        refine vcK ?_
        try simp -implicitDefEqProofs (maxSteps := 1000000) (disch := omega) [go_sem, oka0]
        subst hc11
        refine vcK ?_
        simp -implicitDefEqProofs only [go_sem]
        have er := Option.some.inj h
        subst er
        try simp -implicitDefEqProofs (maxSteps := 1000000) (disch := omega) [go_sem, oka0]
        refine retG_fzE (J := setL H [(ka0, .cells ([.v (str a0.fleft.fs), .v (.bool true)]))]) (r' := .v (.int .i64 0)) (EndH.ioL [(ka0, .cells ([.v (str a0.fleft.fs), .v (.bool true)]))] (by simp only [delL_cons, delL_nil]; repeat (first | exact (Ext.delB (Ext.refl hw) ka0) | refine Ext.new ?_ _ | refine Ext.set ?_ (by first | omega | (simp [go_sem]; done) | (simp [go_sem]; omega)) _ | refine Ext.del ?_ (by first | omega | (simp [go_sem]; done) | (simp [go_sem]; omega)) | refine Ext.setN ?_ (by simp [go_sem]) _)) (by intro p hp; simp only [List.mem_cons, List.not_mem_nil, or_false] at hp; (try rcases hp with hp); all_goals (subst hp; refine ⟨by omega, by first | with_reducible assumption | rfl | simp -implicitDefEqProofs (maxSteps := 1000000) (disch := omega) [go_sem, oka0], by repeat (first | exact .v _ | exact NBL.nil | refine NBL.cons ?_ ?_ | refine NB_slm fun _ => ?_ | refine NB_agL ?_ | refine NB_tuL ?_ | refine NBL.app ?_ ?_ | refine NBL.map fun _ => ?_ | exact NB_errI | refine NBo_cL ?_ | refine NBo_mEL fun _ => ?_ | refine NBo_mIL fun _ => ?_ | exact NB_mpL (by omega) | exact NB_pL (by omega))⟩))) (by first | with_reducible rfl | (simp -implicitDefEqProofs (maxSteps := 1000000) (disch := omega) [go_sem, oka0] <;> omega)) (.same (by repeat (first | exact .v _ | exact NBL.nil | refine NBL.cons ?_ ?_ | refine NB_slm fun _ => ?_ | refine NB_agL ?_ | refine NB_tuL ?_ | refine NBL.app ?_ ?_ | refine NBL.map fun _ => ?_ | exact NB_errI | refine NBo_cL ?_ | refine NBo_mEL fun _ => ?_ | refine NBo_mIL fun _ => ?_ | exact NB_mpL (by omega) | exact NB_pL (by omega)))) hK
      · intro c17 h
        try simp -implicitDefEqProofs (disch := omega) at c17
        try simp -implicitDefEqProofs (maxSteps := 1000000) (disch := omega) [go_sem, oka0]
        obtain ⟨x12, hx12, h⟩ := bind_some' h
        refine ICalls.eqA (args' := [.v (.int .i64 x3.1)]) (by first | with_reducible rfl | (simp -implicitDefEqProofs (maxSteps := 1000000) (disch := omega) [go_sem, oka0] <;> omega)) (Z20_ok x3.1 (by first | exact hV.of rfl | exact hV.of ((Ext.delB (Ext.refl hw) ka0)).sn) hx12 ?_)
        try simp -implicitDefEqProofs (maxSteps := 1000000) (disch := omega) [go_sem, oka0]
        subst hc5
        refine IWp_cond_i h (by first | with_reducible rfl | (simp -implicitDefEqProofs (maxSteps := 1000000) (disch := omega) [go_sem, oka0] <;> omega)) rfl ?_ ?_
        · intro c13 h
          try simp -implicitDefEqProofs (disch := omega) at c13
          refine IWp_seqF fun cb hc14 => ?_
          refine vcK ?_
          try simp -implicitDefEqProofs (maxSteps := 1000000) (disch := omega) [go_sem, oka0]
          subst hc14
          refine IWp_seqF fun cb hc15 => ?_
          refine vcK ?_
          try simp -implicitDefEqProofs (maxSteps := 1000000) (disch := omega) [go_sem, oka0]
          subst hc15
          refine vcK ?_
          simp -implicitDefEqProofs only [go_sem]
          have er := Option.some.inj h
          subst er
          try simp -implicitDefEqProofs (maxSteps := 1000000) (disch := omega) [go_sem, oka0]
          refine retG_fzE (J := setL H [(ka0, .cells ([.v (str a0.fleft.fs), .v (.bool true)]))]) (r' := .v (.int .i64 0)) (EndH.ioL [(ka0, .cells ([.v (str a0.fleft.fs), .v (.bool true)]))] (by simp only [delL_cons, delL_nil]; repeat (first | exact (Ext.delB (Ext.refl hw) ka0) | refine Ext.new ?_ _ | refine Ext.set ?_ (by first | omega | (simp [go_sem]; done) | (simp [go_sem]; omega)) _ | refine Ext.del ?_ (by first | omega | (simp [go_sem]; done) | (simp [go_sem]; omega)) | refine Ext.setN ?_ (by simp [go_sem]) _)) (by intro p hp; simp only [List.mem_cons, List.not_mem_nil, or_false] at hp; (try rcases hp with hp); all_goals (subst hp; refine ⟨by omega, by first | with_reducible assumption | rfl | simp -implicitDefEqProofs (maxSteps := 1000000) (disch := omega) [go_sem, oka0], by repeat (first | exact .v _ | exact NBL.nil | refine NBL.cons ?_ ?_ | refine NB_slm fun _ => ?_ | refine NB_agL ?_ | refine NB_tuL ?_ | refine NBL.app ?_ ?_ | refine NBL.map fun _ => ?_ | exact NB_errI | refine NBo_cL ?_ | refine NBo_mEL fun _ => ?_ | refine NBo_mIL fun _ => ?_ | exact NB_mpL (by omega) | exact NB_pL (by omega))⟩))) (by first | with_reducible rfl | (simp -implicitDefEqProofs (maxSteps := 1000000) (disch := omega) [go_sem, oka0] <;> omega)) (.same (by repeat (first | exact .v _ | exact NBL.nil | refine NBL.cons ?_ ?_ | refine NB_slm fun _ => ?_ | refine NB_agL ?_ | refine NB_tuL ?_ | refine NBL.app ?_ ?_ | refine NBL.map fun _ => ?_ | exact NB_errI | refine NBo_cL ?_ | refine NBo_mEL fun _ => ?_ | refine NBo_mIL fun _ => ?_ | exact NB_mpL (by omega) | exact NB_pL (by omega)))) hK
        · intro c13 h
          try simp -implicitDefEqProofs (disch := omega) at c13
          refine vcK ?_
          simp -implicitDefEqProofs only [go_sem]
          subst hc4
          refine IWp_seqF fun cb hc16 => ?_
          refine vcK ?_
          try simp -implicitDefEqProofs (maxSteps := 1000000) (disch := omega) [go_sem, oka0]
          subst hc16
          refine vcK ?_
          simp -implicitDefEqProofs only [go_sem]
          have er := Option.some.inj h
          subst er
          try simp -implicitDefEqProofs (maxSteps := 1000000) (disch := omega) [go_sem, oka0]
          refine retG_fzE (J := setL H [(ka0, .cells ([.v (str a0.fleft.fs), .v (.bool a0.fbad)]))]) (r' := .v (.int .i64 x3.1)) (EndH.ioL [(ka0, .cells ([.v (str a0.fleft.fs), .v (.bool a0.fbad)]))] (by simp only [delL_cons, delL_nil]; repeat (first | exact (Ext.delB (Ext.refl hw) ka0) | refine Ext.new ?_ _ | refine Ext.set ?_ (by first | omega | (simp [go_sem]; done) | (simp [go_sem]; omega)) _ | refine Ext.del ?_ (by first | omega | (simp [go_sem]; done) | (simp [go_sem]; omega)) | refine Ext.setN ?_ (by simp [go_sem]) _)) (by intro p hp; simp only [List.mem_cons, List.not_mem_nil, or_false] at hp; (try rcases hp with hp); all_goals (subst hp; refine ⟨by omega, by first | with_reducible assumption | rfl | simp -implicitDefEqProofs (maxSteps := 1000000) (disch := omega) [go_sem, oka0], by repeat (first | exact .v _ | exact NBL.nil | refine NBL.cons ?_ ?_ | refine NB_slm fun _ => ?_ | refine NB_agL ?_ | refine NB_tuL ?_ | refine NBL.app ?_ ?_ | refine NBL.map fun _ => ?_ | exact NB_errI | refine NBo_cL ?_ | refine NBo_mEL fun _ => ?_ | refine NBo_mIL fun _ => ?_ | exact NB_mpL (by omega) | exact NB_pL (by omega))⟩))) (by first | with_reducible rfl | (simp -implicitDefEqProofs (maxSteps := 1000000) (disch := omega) [go_sem, oka0] <;> omega)) (.same (by repeat (first | exact .v _ | exact NBL.nil | refine NBL.cons ?_ ?_ | refine NB_slm fun _ => ?_ | refine NB_agL ?_ | refine NB_tuL ?_ | refine NBL.app ?_ ?_ | refine NBL.map fun _ => ?_ | exact NB_errI | refine NBo_cL ?_ | refine NBo_mEL fun _ => ?_ | refine NBo_mIL fun _ => ?_ | exact NB_mpL (by omega) | exact NB_pL (by omega)))) hK

/-! (*cardcase/contact.reader).value -/

noncomputable def Z31 (a0 : S63) : Option ((List UInt8) × S63) :=
  (Z29 a0 32).bind fun (x3 : (List UInt8) × S63) => (Z30 x3.2 x3.1 200).bind fun (x4 : Int × S63) => if x4.2.fbad = true then (some (([], (⟨x4.2.fleft, true⟩ : S63)))) else (if (x4.2.fleft.fs.length : Int) ≤ x4.1 then (some (([], (⟨x4.2.fleft, true⟩ : S63)))) else (gd (0 ≤ x4.1 ∧ x4.1 < x4.2.fleft.fs.length) (if ¬ (((x4.2.fleft.fs.getD x4.1.toNat 0).toNat : Int)) = 10 then (some (([], (⟨x4.2.fleft, true⟩ : S63)))) else (gd (0 ≤ x4.1) (gd (x4.1 ≤ x4.2.fleft.fs.length) (gd (0 ≤ (IntKind.i64.wrap (x4.1 + 1))) (gd (IntKind.i64.wrap (x4.1 + 1) ≤ x4.2.fleft.fs.length) (some (((x4.2.fleft.fs.take x4.1.toNat), (⟨(⟨x4.2.fleft.fs.drop (IntKind.i64.wrap (x4.1 + 1)).toNat⟩ : S61), x4.2.fbad⟩ : S63)))))))))))

set_option maxHeartbeats 8000000 in
set_option pp.deepTerms false in
set_option maxRecDepth 60000 in
theorem Z31_ok {H : IHeap} {K : IEnd → IHeap → Prop} (a0 : S63) (ka0 : Nat) (oka0 : H.obj ka0 = some (.cells ([.v (str a0.fleft.fs), .v (.bool a0.fbad)]))) (hV : VOK prog H) {r : (List UInt8) × S63} (h : Z31 a0 = some r) (hK : K (.ret (.v (str r.1))) (setL H [(ka0, .cells ([.v (str r.2.fleft.fs), .v (.bool r.2.fbad)]))])) : ICalls prog 31 [.p ka0 0] H K := by
  refine ICalls_iwp (N := 56) func31 (by kernel_rfl) rfl (by kernel_rfl) (by kernel_rfl) fun cb hcb hw hbd hnb => ?_
  clear hbd hnb
  subst hcb
  unfold Z31 at h
  have hka0 : ka0 < H.next := Nat.lt_of_not_le fun q => by rw [hw _ q] at oka0; cases oka0
  refine IWp_seqF fun cb hc1 => ?_
  refine vcK ?_
  try simp -implicitDefEqProofs (maxSteps := 1000000) (disch := omega) [go_sem, oka0]
  subst hc1
  refine IWp_seqF fun cb hc2 => ?_
  refine vcK ?_
  try simp -implicitDefEqProofs (maxSteps := 1000000) (disch := omega) [go_sem, oka0]
  obtain ⟨x3, hx3, h⟩ := bind_some' h
  refine ICalls.eqA (args' := [.p ka0 0, .v (.int .u8 32)]) (by first | with_reducible rfl | (simp -implicitDefEqProofs (maxSteps := 1000000) (disch := omega) [go_sem, oka0] <;> omega)) (Z29_ok a0 32 ka0 (by first | with_reducible assumption | simp -implicitDefEqProofs (maxSteps := 1000000) (disch := omega) [go_sem, oka0]) (by first | exact hV.of rfl | exact hV.of ((Ext.delB (Ext.refl hw) ka0)).sn) hx3 ?_)
  try simp -implicitDefEqProofs (maxSteps := 1000000) (disch := omega) [go_sem, oka0]
  obtain ⟨x4, hx4, h⟩ := bind_some' h
  refine ICalls.eqA (args' := [.p ka0 0, .v (str x3.1), .v (.int .i64 200)]) (by first | with_reducible rfl | (simp -implicitDefEqProofs (maxSteps := 1000000) (disch := omega) [go_sem, oka0] <;> omega)) (Z30_ok x3.2 x3.1 200 ka0 (by first | with_reducible assumption | simp -implicitDefEqProofs (maxSteps := 1000000) (disch := omega) [go_sem, oka0]) (by first | exact hV.of rfl | exact hV.of ((Ext.delB (Ext.refl hw) ka0)).sn) hx4 ?_)
  try simp -implicitDefEqProofs (maxSteps := 1000000) (disch := omega) [go_sem, oka0]
  subst hc2
  refine IWp_seqF fun cb hc5 => ?_
  refine IWp_seqF fun cb hc6 => ?_
  refine vcK ?_
  try simp -implicitDefEqProofs (maxSteps := 1000000) (disch := omega) [go_sem, oka0]
  refine splitG_f h (by first | with_reducible rfl | (simp -implicitDefEqProofs (maxSteps := 1000000) (disch := omega) [go_sem, oka0] <;> omega)) ?_ ?_
  · intro c23 h
    try simp -implicitDefEqProofs (disch := omega) at c23
    try simp -implicitDefEqProofs (maxSteps := 1000000) (disch := omega) [go_sem, oka0]
    subst hc6
    refine IWp_cond_t (by first | with_reducible rfl | (simp -implicitDefEqProofs (maxSteps := 1000000) (disch := omega) [go_sem, oka0] <;> omega)) rfl ?_
    refine IWp_seqF fun cb hc7 => ?_
    refine vcK ?_
    try simp -implicitDefEqProofs (maxSteps := 1000000) (disch := omega) [go_sem, oka0]
    subst hc7
    refine IWp_seqF fun cb hc8 => ?_
    refine vcK ?_
    try simp -implicitDefEqProofs (maxSteps := 1000000) (disch := omega) [go_sem, oka0]
    subst hc8
    refine vcK ?_
    simp -implicitDefEqProofs only [go_sem]
    have er := Option.some.inj h
    subst er
    try simp -implicitDefEqProofs (maxSteps := 1000000) (disch := omega) [go_sem, oka0]
    refine retG_fzE (J := setL H [(ka0, .cells ([.v (str x4.2.fleft.fs), .v (.bool true)]))]) (r' := .v (str [])) (EndH.ioL [(ka0, .cells ([.v (str x4.2.fleft.fs), .v (.bool true)]))] (by simp only [delL_cons, delL_nil]; repeat (first | exact (Ext.delB (Ext.refl hw) ka0) | refine Ext.new ?_ _ | refine Ext.set ?_ (by first | omega | (simp [go_sem]; done) | (simp [go_sem]; omega)) _ | refine Ext.del ?_ (by first | omega | (simp [go_sem]; done) | (simp [go_sem]; omega)) | refine Ext.setN ?_ (by simp [go_sem]) _)) (by intro p hp; simp only [List.mem_cons, List.not_mem_nil, or_false] at hp; (try rcases hp with hp); all_goals (subst hp; refine ⟨by omega, by first | with_reducible assumption | rfl | simp -implicitDefEqProofs (maxSteps := 1000000) (disch := omega) [go_sem, oka0], by repeat (first | exact .v _ | exact NBL.nil | refine NBL.cons ?_ ?_ | refine NB_slm fun _ => ?_ | refine NB_agL ?_ | refine NB_tuL ?_ | refine NBL.app ?_ ?_ | refine NBL.map fun _ => ?_ | exact NB_errI | refine NBo_cL ?_ | refine NBo_mEL fun _ => ?_ | refine NBo_mIL fun _ => ?_ | exact NB_mpL (by omega) | exact NB_pL (by omega))⟩))) (by first | with_reducible rfl | (simp -implicitDefEqProofs (maxSteps := 1000000) (disch := omega) [go_sem, oka0] <;> omega)) (.same (by repeat (first | exact .v _ | exact NBL.nil | refine NBL.cons ?_ ?_ | refine NB_slm fun _ => ?_ | refine NB_agL ?_ | refine NB_tuL ?_ | refine NBL.app ?_ ?_ | refine NBL.map fun _ => ?_ | exact NB_errI | refine NBo_cL ?_ | refine NBo_mEL fun _ => ?_ | refine NBo_mIL fun _ => ?_ | exact NB_mpL (by omega) | exact NB_pL (by omega)))) hK
  · intro c23 h
    try simp -implicitDefEqProofs (disch := omega) at c23
    try simp -implicitDefEqProofs (maxSteps := 1000000) (disch := omega) [go_sem, oka0]
    refine splitG_f h (by first | with_reducible rfl | (simp -implicitDefEqProofs (maxSteps := 1000000) (disch := omega) [go_sem, oka0] <;> omega)) ?_ ?_
    · intro c22 h
      try simp -implicitDefEqProofs (disch := omega) at c22
      try simp -implicitDefEqProofs (maxSteps := 1000000) (disch := omega) [go_sem, oka0]
      subst hc6
      refine IWp_cond_t (by first | with_reducible rfl | (simp -implicitDefEqProofs (maxSteps := 1000000) (disch := omega) [go_sem, oka0] <;> omega)) rfl ?_
      refine IWp_seqF fun cb hc9 => ?_
      refine vcK ?_
      try simp -implicitDefEqProofs (maxSteps := 1000000) (disch := omega) [go_sem, oka0]
      subst hc9
      refine IWp_seqF fun cb hc10 => ?_
      refine vcK ?_
      try simp -implicitDefEqProofs (maxSteps := 1000000) (disch := omega) [go_sem, oka0]
      subst hc10
      refine vcK ?_
      simp -implicitDefEqProofs only [go_sem]
      have er := Option.some.inj h
      subst er
      try simp -implicitDefEqProofs (maxSteps := 1000000) (disch := omega) [go_sem, oka0]
      refine retG_fzE (J := setL H [(ka0, .cells ([.v (str x4.2.fleft.fs), .v (.bool true)]))]) (r' := .v (str [])) (EndH.ioL [(ka0, .cells ([.v (str x4.2.fleft.fs), .v (.bool true)]))] (by simp only [delL_cons, delL_nil]; repeat (first | exact (Ext.delB (Ext.refl hw) ka0) | refine Ext.new ?_ _ | refine Ext.set ?_ (by first | omega | (simp [go_sem]; done) | (simp [go_sem]; omega)) _ | refine Ext.del ?_ (by first | omega | (simp [go_sem]; done) | (simp [go_sem]; omega)) | refine Ext.setN ?_ (by simp [go_sem]) _)) (by intro p hp; simp only [List.mem_cons, List.not_mem_nil, or_false] at hp; (try rcases hp with hp); all_goals (subst hp; refine ⟨by omega, by first | with_reducible assumption | rfl | simp -implicitDefEqProofs (maxSteps := 1000000) (disch := omega) [go_sem, oka0], by repeat (first | exact .v _ | exact NBL.nil | refine NBL.cons ?_ ?_ | refine NB_slm fun _ => ?_ | refine NB_agL ?_ | refine NB_tuL ?_ | refine NBL.app ?_ ?_ | refine NBL.map fun _ => ?_ | exact NB_errI | refine NBo_cL ?_ | refine NBo_mEL fun _ => ?_ | refine NBo_mIL fun _ => ?_ | exact NB_mpL (by omega) | exact NB_pL (by omega))⟩))) (by first | with_reducible rfl | (simp -implicitDefEqProofs (maxSteps := 1000000) (disch := omega) [go_sem, oka0] <;> omega)) (.same (by repeat (first | exact .v _ | exact NBL.nil | refine NBL.cons ?_ ?_ | refine NB_slm fun _ => ?_ | refine NB_agL ?_ | refine NB_tuL ?_ | refine NBL.app ?_ ?_ | refine NBL.map fun _ => ?_ | exact NB_errI | refine NBo_cL ?_ | refine NBo_mEL fun _ => ?_ | refine NBo_mIL fun _ => ?_ | exact NB_mpL (by omega) | exact NB_pL (by omega)))) hK
    · intro c22 h
      try simp -implicitDefEqProofs (disch := omega) at c22
      obtain ⟨g11, h⟩ := gd_some.1 h
      try simp -implicitDefEqProofs (disch := omega) at g11
      try simp -implicitDefEqProofs (maxSteps := 1000000) (disch := omega) [go_sem, oka0]
      subst hc6
      refine IWp_cond_i h (by first | with_reducible rfl | (simp -implicitDefEqProofs (maxSteps := 1000000) (disch := omega) [go_sem, oka0] <;> omega)) rfl ?_ ?_
      · intro c12 h
        try simp -implicitDefEqProofs (disch := omega) at c12
        refine IWp_seqF fun cb hc13 => ?_
        refine vcK ?_
        try simp -implicitDefEqProofs (maxSteps := 1000000) (disch := omega) [go_sem, oka0]
        subst hc13
        refine IWp_seqF fun cb hc14 => ?_
        refine vcK ?_
        try simp -implicitDefEqProofs (maxSteps := 1000000) (disch := omega) [go_sem, oka0]
        subst hc14
        refine vcK ?_
        simp -implicitDefEqProofs only [go_sem]
        have er := Option.some.inj h
        subst er
        try simp -implicitDefEqProofs (maxSteps := 1000000) (disch := omega) [go_sem, oka0]
        refine retG_fzE (J := setL H [(ka0, .cells ([.v (str x4.2.fleft.fs), .v (.bool true)]))]) (r' := .v (str [])) (EndH.ioL [(ka0, .cells ([.v (str x4.2.fleft.fs), .v (.bool true)]))] (by simp only [delL_cons, delL_nil]; repeat (first | exact (Ext.delB (Ext.refl hw) ka0) | refine Ext.new ?_ _ | refine Ext.set ?_ (by first | omega | (simp [go_sem]; done) | (simp [go_sem]; omega)) _ | refine Ext.del ?_ (by first | omega | (simp [go_sem]; done) | (simp [go_sem]; omega)) | refine Ext.setN ?_ (by simp [go_sem]) _)) (by intro p hp; simp only [List.mem_cons, List.not_mem_nil, or_false] at hp; (try rcases hp with hp); all_goals (subst hp; refine ⟨by omega, by first | with_reducible assumption | rfl | simp -implicitDefEqProofs (maxSteps := 1000000) (disch := omega) [go_sem, oka0], by repeat (first | exact .v _ | exact NBL.nil | refine NBL.cons ?_ ?_ | refine NB_slm fun _ => ?_ | refine NB_agL ?_ | refine NB_tuL ?_ | refine NBL.app ?_ ?_ | refine NBL.map fun _ => ?_ | exact NB_errI | refine NBo_cL ?_ | refine NBo_mEL fun _ => ?_ | refine NBo_mIL fun _ => ?_ | exact NB_mpL (by omega) | exact NB_pL (by omega))⟩))) (by first | with_reducible rfl | (simp -implicitDefEqProofs (maxSteps := 1000000) (disch := omega) [go_sem, oka0] <;> omega)) (.same (by repeat (first | exact .v _ | exact NBL.nil | refine NBL.cons ?_ ?_ | refine NB_slm fun _ => ?_ | refine NB_agL ?_ | refine NB_tuL ?_ | refine NBL.app ?_ ?_ | refine NBL.map fun _ => ?_ | exact NB_errI | refine NBo_cL ?_ | refine NBo_mEL fun _ => ?_ | refine NBo_mIL fun _ => ?_ | exact NB_mpL (by omega) | exact NB_pL (by omega)))) hK
      · intro c12 h
        try simp -implicitDefEqProofs (disch := omega) at c12
        refine vcK ?_
        simp -implicitDefEqProofs only [go_sem]
        subst hc5
        refine IWp_seqF fun cb hc15 => ?_
        refine vcK ?_
        obtain ⟨g16, h⟩ := gd_some.1 h
        try simp -implicitDefEqProofs (disch := omega) at g16
        obtain ⟨g17, h⟩ := gd_some.1 h
        try simp -implicitDefEqProofs (disch := omega) at g17
        try simp -implicitDefEqProofs (maxSteps := 1000000) (disch := omega) [go_sem, oka0]
        subst hc15
        refine IWp_seqF fun cb hc18 => ?_
        refine vcK ?_
        obtain ⟨g19, h⟩ := gd_some.1 h
        try simp -implicitDefEqProofs (disch := omega) at g19
        obtain ⟨g20, h⟩ := gd_some.1 h
        try simp -implicitDefEqProofs (disch := omega) at g20
        try simp -implicitDefEqProofs (maxSteps := 1000000) (disch := omega) [go_sem, oka0]
        subst hc18
        refine IWp_seqF fun cb hc21 => ?_
        refine vcK ?_
        try simp -implicitDefEqProofs (maxSteps := 1000000) (disch := omega) [go_sem, oka0]
        subst hc21
        refine vcK ?_
        simp -implicitDefEqProofs only [go_sem]
        have er := Option.some.inj h
        subst er
        try simp -implicitDefEqProofs (maxSteps := 1000000) (disch := omega) [go_sem, oka0]
        refine retG_fzE (J := setL H [(ka0, .cells ([.v (str (x4.2.fleft.fs.drop (IntKind.i64.wrap (x4.1 + 1)).toNat)), .v (.bool x4.2.fbad)]))]) (r' := .v (str (x4.2.fleft.fs.take x4.1.toNat))) (EndH.ioL [(ka0, .cells ([.v (str (x4.2.fleft.fs.drop (IntKind.i64.wrap (x4.1 + 1)).toNat)), .v (.bool x4.2.fbad)]))] (by simp only [delL_cons, delL_nil]; repeat (first | exact (Ext.delB (Ext.refl hw) ka0) | refine Ext.new ?_ _ | refine Ext.set ?_ (by first | omega | (simp [go_sem]; done) | (simp [go_sem]; omega)) _ | refine Ext.del ?_ (by first | omega | (simp [go_sem]; done) | (simp [go_sem]; omega)) | refine Ext.setN ?_ (by simp [go_sem]) _)) (by intro p hp; simp only [List.mem_cons, List.not_mem_nil, or_false] at hp; (try rcases hp with hp); all_goals (subst hp; refine ⟨by omega, by first | with_reducible assumption | rfl | simp -implicitDefEqProofs (maxSteps := 1000000) (disch := omega) [go_sem, oka0], by repeat (first | exact .v _ | exact NBL.nil | refine NBL.cons ?_ ?_ | refine NB_slm fun _ => ?_ | refine NB_agL ?_ | refine NB_tuL ?_ | refine NBL.app ?_ ?_ | refine NBL.map fun _ => ?_ | exact NB_errI | refine NBo_cL ?_ | refine NBo_mEL fun _ => ?_ | refine NBo_mIL fun _ => ?_ | exact NB_mpL (by omega) | exact NB_pL (by omega))⟩))) (by first | with_reducible rfl | (simp -implicitDefEqProofs (maxSteps := 1000000) (disch := omega) [go_sem, oka0] <;> omega)) (.same (by repeat (first | exact .v _ | exact NBL.nil | refine NBL.cons ?_ ?_ | refine NB_slm fun _ => ?_ | refine NB_agL ?_ | refine NB_tuL ?_ | refine NBL.app ?_ ?_ | refine NBL.map fun _ => ?_ | exact NB_errI | refine NBo_cL ?_ | refine NBo_mEL fun _ => ?_ | refine NBo_mIL fun _ => ?_ | exact NB_mpL (by omega) | exact NB_pL (by omega)))) hK

/-! cardcase/cardcaseref16.cut -/

noncomputable def Z35_b4 (a0 : List UInt8) (a1 : Int) (v5 : Int) : Option (Int ⊕ (Unit ⊕ ((List UInt8) × (List UInt8) × Bool))) :=
  if v5 < (a0.length : Int) then (gd (0 ≤ v5 ∧ v5 < a0.length) (if (((a0.getD v5.toNat 0).toNat : Int)) = a1 then (gd (0 ≤ v5) (gd (v5 ≤ a0.length) (gd (0 ≤ (IntKind.i64.wrap (v5 + 1))) (gd (IntKind.i64.wrap (v5 + 1) ≤ a0.length) (some (.inr (.inr (((a0.take v5.toNat), a0.drop (IntKind.i64.wrap (v5 + 1)).toNat, true))))))))) else (some (.inl (IntKind.i64.wrap (v5 + 1)))))) else (some (.inr (.inl ())))

/-! cardcase/cardcaseref07.Number -/

noncomputable def Z33_b3 (v4 : Int) (v5 : List UInt8) : Option ((Int × (List UInt8)) ⊕ (List UInt8)) :=
  gd (0 ≤ (IntKind.u8.wrap (IntKind.i64.wrap (48 + (v4.tmod 10)))) ∧ (IntKind.u8.wrap (IntKind.i64.wrap (48 + (v4.tmod 10)))) ≤ 255) (gd ((([UInt8.ofNat (IntKind.u8.wrap (IntKind.i64.wrap (48 + (v4.tmod 10)))).toNat]).length : Int) + v5.length ≤ 9223372036854775807) (if (IntKind.i64.wrap (v4.tdiv 10)) = 0 then (some (.inr (([UInt8.ofNat (IntKind.u8.wrap (IntKind.i64.wrap (48 + (v4.tmod 10)))).toNat]) ++ v5))) else (some (.inl ((IntKind.i64.wrap (v4.tdiv 10), ([UInt8.ofNat (IntKind.u8.wrap (IntKind.i64.wrap (48 + (v4.tmod 10)))).toNat]) ++ v5))))))

noncomputable def Z33 (a0 : Int) : Option (List UInt8) :=
  (loopO (fun (s : Int × (List UInt8)) => Z33_b3 s.1 s.2) (a0, [])).bind fun (q : (List UInt8)) => some q

set_option maxHeartbeats 8000000 in
set_option pp.deepTerms false in
set_option maxRecDepth 60000 in
theorem Z33_ok {H : IHeap} {K : IEnd → IHeap → Prop} (a0 : Int) {r : (List UInt8)} (h : Z33 a0 = some r) (hK : K (.ret (.v (str r))) H) : ICalls prog 33 [.v (.int .i64 a0)] H K := by
  refine ICalls_iwp (N := 17) func33 (by kernel_rfl) rfl (by kernel_rfl) (by kernel_rfl) fun cb hcb hw hbd hnb => ?_
  clear hbd hnb
  subst hcb
  unfold Z33 at h
  refine IWp_seqF fun cb hc1 => ?_
  refine vcK ?_
  try simp -implicitDefEqProofs (maxSteps := 1000000) (disch := omega) [go_sem]
  subst hc1
  refine IWp_seqF fun cb hc2 => ?_
  refine vcK ?_
  try simp -implicitDefEqProofs (maxSteps := 1000000) (disch := omega) [go_sem]
  subst hc2
  obtain ⟨y3, hl3q, hk3⟩ := bind_some' h
  refine IWp_block ?_
  refine IWp_loopF (fun (s : Int × (List UInt8)) tm' H' => H = H' ∧ tm' 0 = .v (.int .i64 s.1) ∧ tm' 3 = .v (str s.2)) hl3q ?_ ?_
  · refine .same ⟨rfl, ?_, ?_⟩ <;> first | with_reducible rfl | with_reducible assumption | (simp -implicitDefEqProofs (maxSteps := 1000000) (disch := omega) [go_sem] <;> omega)
  · rintro I3 hI3 ⟨v4, v5⟩ x3 tm3 H3 ⟨rfl, t0_3, t3_3⟩ h hret3
    replace h : Z33_b3 v4 v5 = some x3 := h
    unfold Z33_b3 at h
    refine IWp_block ?_
    refine IWp_seqF fun cb hc6 => ?_
    refine vcK ?_
    obtain ⟨g7, h⟩ := gd_some.1 h
    try simp -implicitDefEqProofs (disch := omega) at g7
    obtain ⟨g8, h⟩ := gd_some.1 h
    try simp -implicitDefEqProofs (disch := omega) at g8
    try simp -implicitDefEqProofs (maxSteps := 1000000) (disch := omega) [go_sem, t0_3, t3_3]
    subst hc6
    refine IWp_seqF fun cb hc9 => ?_
    refine vcK ?_
    try simp -implicitDefEqProofs (maxSteps := 1000000) (disch := omega) [go_sem, t0_3, t3_3]
    subst hc9
    refine IWp_seqF fun cb hc10 => ?_
    refine vcK ?_
    try simp -implicitDefEqProofs (maxSteps := 1000000) (disch := omega) [go_sem, t0_3, t3_3]
    subst hc10
    refine IWp_cond_i h (by first | with_reducible rfl | (simp -implicitDefEqProofs (maxSteps := 1000000) (disch := omega) [go_sem, t0_3, t3_3] <;> omega)) rfl ?_ ?_
    · intro c11 h
      try simp -implicitDefEqProofs (disch := omega) at c11
      refine IWp_seqF fun cb hc12 => ?_
      refine vcK ?_
      try simp -implicitDefEqProofs (maxSteps := 1000000) (disch := omega) [go_sem, t0_3, t3_3]
      subst hc12
      refine vcK ?_
      simp -implicitDefEqProofs only [go_sem]
      have e3 := Option.some.inj h
      subst e3
      have e3 := hret3 _ rfl
      subst e3
      replace h : some (([UInt8.ofNat (IntKind.u8.wrap (IntKind.i64.wrap (48 + (v4.tmod 10)))).toNat]) ++ v5) = some r := hk3
      have er := Option.some.inj h
      subst er
      try simp -implicitDefEqProofs (maxSteps := 1000000) (disch := omega) [go_sem, t0_3, t3_3]
      refine retG_pureA (Ext.refl hw) hK (e := by first | with_reducible rfl | (simp -implicitDefEqProofs (maxSteps := 1000000) (disch := omega) [go_sem, t0_3, t3_3] <;> omega))
    · intro c11 h
      try simp -implicitDefEqProofs (disch := omega) at c11
      refine vcK ?_
      simp -implicitDefEqProofs only [go_sem]
      have e3 := Option.some.inj h
      subst e3
      refine loopN_mk hI3 ((IntKind.i64.wrap (v4.tdiv 10), ([UInt8.ofNat (IntKind.u8.wrap (IntKind.i64.wrap (48 + (v4.tmod 10)))).toNat]) ++ v5)) ?_
      refine .same ⟨rfl, ?_, ?_⟩ <;> first | with_reducible rfl | with_reducible assumption | (simp -implicitDefEqProofs (maxSteps := 1000000) (disch := omega) [go_sem, t0_3, t3_3] <;> omega)

/-! cardcase/cardcaseref16.number -/

/-! slices.Index[[]string,string] -/

noncomputable def Z48_k4  : Option Int :=
  some (-1)

noncomputable def Z48_b4 (a0 : List (List UInt8)) (a1 : List UInt8) (v5 : Int) : Option (Int ⊕ (Unit ⊕ Int)) :=
  if v5 < (a0.length : Int) then (gd (0 ≤ v5 ∧ v5 < a0.length) (if a1 = (a0.getD v5.toNat []) then (some (.inr (.inr v5))) else (some (.inl (IntKind.i64.wrap (v5 + 1)))))) else (some (.inr (.inl ())))

noncomputable def Z48 (a0 : List (List UInt8)) (a1 : List UInt8) : Option Int :=
  (loopO (fun (s : Int) => Z48_b4 a0 a1 s) 0).bind fun y => Sum.elim (fun (e : Unit) => Z48_k4) (fun (q : Int) => some q) y

set_option maxHeartbeats 8000000 in
set_option pp.deepTerms false in
set_option maxRecDepth 60000 in
theorem Z48_ok {H : IHeap} {K : IEnd → IHeap → Prop} (a0 : List (List UInt8)) (a1 : List UInt8) {r : Int} (h : Z48 a0 a1 = some r) (hK : K (.ret (.v (.int .i64 r))) H) : ICalls prog 48 [.sl 1 (a0.map fun x => [.v (str x)]), .v (str a1)] H K := by
  refine ICalls_iwp (N := 19) func48 (by kernel_rfl) rfl (by kernel_rfl) (by kernel_rfl) fun cb hcb hw hbd hnb => ?_
  clear hbd hnb
  subst hcb
  unfold Z48 at h
  refine IWp_seqF fun cb hc1 => ?_
  refine vcK ?_
  try simp -implicitDefEqProofs (maxSteps := 1000000) (disch := omega) [go_sem]
  subst hc1
  refine IWp_seqF fun cb hc2 => ?_
  refine IWp_seqF fun cb hc3 => ?_
  refine vcK ?_
  try simp -implicitDefEqProofs (maxSteps := 1000000) (disch := omega) [go_sem]
  subst hc3
  obtain ⟨y4, hl4q, hk4⟩ := bind_some' h
  refine IWp_tailC (fun tm' H' => .inl () = y4 ∧ H = H') ?_ fun cb hc4 => ?_
  · rintro tm4e H4e ⟨rfl, rfl⟩
    have h : Z48_k4 = some r := hk4
    unfold Z48_k4 at h
    simp -implicitDefEqProofs only [go_sem]
    subst hc2
    refine IWp_seqF fun cb hc6 => ?_
    refine vcK ?_
    try simp -implicitDefEqProofs (maxSteps := 1000000) (disch := omega) [go_sem]
    subst hc6
    refine vcK ?_
    simp -implicitDefEqProofs only [go_sem]
    have er := Option.some.inj h
    subst er
    try simp -implicitDefEqProofs (maxSteps := 1000000) (disch := omega) [go_sem]
    refine retG_pureA (Ext.refl hw) hK (e := by first | with_reducible rfl | (simp -implicitDefEqProofs (maxSteps := 1000000) (disch := omega) [go_sem] <;> omega))
  · refine IWp_block ?_
    refine IWp_loopF (fun (s : Int) tm' H' => H = H' ∧ tm' 0 = .sl 1 (a0.map fun x => [.v (str x)]) ∧ tm' 1 = .v (str a1) ∧ tm' 7 = .v (.int .i64 (a0.length : Int)) ∧ tm' 8 = .v (.int .i64 s)) hl4q ?_ ?_
    · refine .same ⟨rfl, ?_, ?_, ?_, ?_⟩ <;> first | with_reducible rfl | with_reducible assumption | (simp -implicitDefEqProofs (maxSteps := 1000000) (disch := omega) [go_sem] <;> omega)
    · rintro I4 hI4 v5 x4 tm4 H4 ⟨rfl, t0_4, t1_4, t7_4, t8_4⟩ h hret4
      replace h : Z48_b4 a0 a1 v5 = some x4 := h
      unfold Z48_b4 at h
      refine IWp_seqF fun cb hc7 => ?_
      refine vcK ?_
      try simp -implicitDefEqProofs (maxSteps := 1000000) (disch := omega) [go_sem, t0_4, t1_4, t7_4, t8_4]
      subst hc7
      refine IWp_seqF fun cb hc8 => ?_
      refine IWp_cond_i h (by first | with_reducible rfl | (simp -implicitDefEqProofs (maxSteps := 1000000) (disch := omega) [go_sem, t0_4, t1_4, t7_4, t8_4] <;> omega)) rfl ?_ ?_
      · intro c9 h
        try simp -implicitDefEqProofs (disch := omega) at c9
        refine vcK ?_
        simp -implicitDefEqProofs only [go_sem]
        subst hc8
        refine IWp_seqF fun cb hc10 => ?_
        refine IWp_block ?_
        refine IWp_seqF fun cb hc11 => ?_
        refine vcK ?_
        try simp -implicitDefEqProofs (maxSteps := 1000000) (disch := omega) [go_sem, t0_4, t1_4, t7_4, t8_4]
        subst hc11
        refine IWp_seqF fun cb hc12 => ?_
        refine vcK ?_
        obtain ⟨g13, h⟩ := gd_some.1 h
        try simp -implicitDefEqProofs (disch := omega) at g13
        try simp -implicitDefEqProofs (maxSteps := 1000000) (disch := omega) [go_sem, t0_4, t1_4, t7_4, t8_4]
        subst hc12
        refine IWp_cond_i h (by first | with_reducible rfl | (simp -implicitDefEqProofs (maxSteps := 1000000) (disch := omega) [go_sem, t0_4, t1_4, t7_4, t8_4] <;> omega)) rfl ?_ ?_
        · intro c14 h
          try simp -implicitDefEqProofs (disch := omega) at c14
          refine IWp_seqF fun cb hc15 => ?_
          refine vcK ?_
          try simp -implicitDefEqProofs (maxSteps := 1000000) (disch := omega) [go_sem, t0_4, t1_4, t7_4, t8_4]
          subst hc15
          refine vcK ?_
          simp -implicitDefEqProofs only [go_sem]
          have e4 := Option.some.inj h
          subst e4
          have e4 := hret4 _ rfl
          subst e4
          replace h : some v5 = some r := hk4
          have er := Option.some.inj h
          subst er
          try simp -implicitDefEqProofs (maxSteps := 1000000) (disch := omega) [go_sem, t0_4, t1_4, t7_4, t8_4]
          refine retG_pureA (Ext.refl hw) hK (e := by first | with_reducible rfl | (simp -implicitDefEqProofs (maxSteps := 1000000) (disch := omega) [go_sem, t0_4, t1_4, t7_4, t8_4] <;> omega))
        · intro c14 h
          try simp -implicitDefEqProofs (disch := omega) at c14
          refine vcK ?_
          simp -implicitDefEqProofs only [go_sem]
          subst hc10
          refine vcK ?_
          try simp -implicitDefEqProofs (maxSteps := 1000000) (disch := omega) [go_sem, t0_4, t1_4, t7_4, t8_4]
          have e4 := Option.some.inj h
          subst e4
          refine loopN_mk hI4 (IntKind.i64.wrap (v5 + 1)) ?_
          refine .same ⟨rfl, ?_, ?_, ?_, ?_⟩ <;> first | with_reducible rfl | with_reducible assumption | (simp -implicitDefEqProofs (maxSteps := 1000000) (disch := omega) [go_sem, t0_4, t1_4, t7_4, t8_4] <;> omega)
      · intro c9 h
        try simp -implicitDefEqProofs (disch := omega) at c9
        refine vcK ?_
        simp -implicitDefEqProofs only [go_sem]
        have e4 := Option.some.inj h
        subst e4
        have hy4 := hret4 _ rfl
        refine hc4 _ _ ?_
        refine .same ⟨hy4, rfl⟩

/-! cardcase/cardcaseref16.Names -/

noncomputable def Z32  : Option ((List (List UInt8))) :=
  some ([[102, 117, 108, 108], [103, 105, 118, 101, 110], [102, 97, 109, 105, 108, 121], [111, 114, 103], [116, 105, 116, 108, 101], [110, 111, 116, 101], [109, 97, 105, 108], [112, 104, 111, 110, 101]])

set_option maxHeartbeats 8000000 in
set_option pp.deepTerms false in
set_option maxRecDepth 60000 in
theorem Z32_ok {H : IHeap} {K : IEnd → IHeap → Prop}  {r : (List (List UInt8))} (h : Z32  = some r) (hK : K (.ret (.sl 1 (r.map fun x => [.v (str x)]))) H) : ICalls prog 32 [] H K := by
  refine ICalls_iwp (N := 2) func32 (by kernel_rfl) rfl (by kernel_rfl) (by kernel_rfl) fun cb hcb hw hbd hnb => ?_
  clear hbd hnb
  subst hcb
  unfold Z32 at h
  refine IWp_seqF fun cb hc1 => ?_
  refine vcK ?_
  try simp -implicitDefEqProofs (maxSteps := 1000000) (disch := omega) [go_sem]
  subst hc1
  refine IWp_seqF fun cb hc2 => ?_
  refine vcK ?_
  try simp -implicitDefEqProofs (maxSteps := 1000000) (disch := omega) [go_sem]
  subst hc2
  refine vcK ?_
  simp -implicitDefEqProofs only [go_sem]
  have er := Option.some.inj h
  subst er
  try simp -implicitDefEqProofs (maxSteps := 1000000) (disch := omega) [go_sem]
  refine retG_pureA (Ext.refl hw) hK (e := by first | with_reducible rfl | (simp -implicitDefEqProofs (maxSteps := 1000000) (disch := omega) [go_sem] <;> omega))

/-! cardcase/cardcaseref16.Text -/

noncomputable def Z11_k5 (v8 : List UInt8) : Option (List UInt8) :=
  some v8

noncomputable def Z11_k17 (v7 : Int) (v20 : List UInt8) : Option (((List UInt8) × Int) ⊕ (List UInt8)) :=
  some (.inl ((v20, IntKind.i64.wrap (v7 + 1))))

noncomputable def Z11_b17 (a0 : List (List (List UInt8))) (v7 : Int) (v18 : List UInt8) (v19 : Int) : Option (((List UInt8) × Int) ⊕ (List UInt8)) :=
  gd (0 ≤ v7 ∧ v7 < 8) (gd (a0.length = 8) (if v19 < (((a0.getD v7.toNat []).length : Int)) then (gd (0 ≤ v19 ∧ v19 < (a0.getD v7.toNat []).length) ((Z33 ((((a0.getD v7.toNat []).getD v19.toNat []).length : Int))).bind fun (x28 : (List UInt8)) => gd ((v18.length : Int) + x28.length ≤ 9223372036854775807) (gd (((v18 ++ x28).length : Int) + (([32]) : List UInt8).length ≤ 9223372036854775807) (gd ((((v18 ++ x28) ++ ([32])).length : Int) + ((a0.getD v7.toNat []).getD v19.toNat []).length ≤ 9223372036854775807) (gd (((((v18 ++ x28) ++ ([32])) ++ ((a0.getD v7.toNat []).getD v19.toNat [])).length : Int) + (([10]) : List UInt8).length ≤ 9223372036854775807) (some (.inl (((((v18 ++ x28) ++ ([32])) ++ ((a0.getD v7.toNat []).getD v19.toNat [])) ++ ([10]), IntKind.i64.wrap (v19 + 1)))))))))) else (some (.inr v18))))

noncomputable def Z11_k14 (a0 : List (List (List UInt8))) (v7 : Int) (v15 : List UInt8) : Option (((List UInt8) × Int) ⊕ (List UInt8)) :=
  (loopO (fun (s : (List UInt8) × Int) => Z11_b17 a0 v7 s.1 s.2) (v15, 0)).bind fun (e : (List UInt8)) => Z11_k17 v7 e

noncomputable def Z11_b5 (a0 : List (List (List UInt8))) (v6 : List UInt8) (v7 : Int) : Option (((List UInt8) × Int) ⊕ (List UInt8)) :=
  if v7 < 8 then (gd (0 ≤ v7 ∧ v7 < 8) (gd (a0.length = 8) (if 0 < (((a0.getD v7.toNat []).length : Int)) then ((Z32 ).bind fun (x37 : (List (List UInt8))) => gd (0 ≤ v7 ∧ v7 < x37.length) (gd ((v6.length : Int) + (x37.getD v7.toNat []).length ≤ 9223372036854775807) (gd (((v6 ++ (x37.getD v7.toNat [])).length : Int) + (([32]) : List UInt8).length ≤ 9223372036854775807) ((Z33 (((a0.getD v7.toNat []).length : Int))).bind fun (x41 : (List UInt8)) => gd ((((v6 ++ (x37.getD v7.toNat [])) ++ ([32])).length : Int) + x41.length ≤ 9223372036854775807) (gd (((((v6 ++ (x37.getD v7.toNat [])) ++ ([32])) ++ x41).length : Int) + (([10]) : List UInt8).length ≤ 9223372036854775807) (Z11_k14 a0 v7 ((((v6 ++ (x37.getD v7.toNat [])) ++ ([32])) ++ x41) ++ ([10])))))))) else (Z11_k14 a0 v7 v6)))) else (some (.inr v6))

noncomputable def Z11 (a0 : List (List (List UInt8))) : Option (List UInt8) :=
  (loopO (fun (s : (List UInt8) × Int) => Z11_b5 a0 s.1 s.2) ([], 0)).bind fun (e : (List UInt8)) => Z11_k5 e

set_option maxHeartbeats 8000000 in
set_option pp.deepTerms false in
set_option maxRecDepth 60000 in
theorem Z11_ok {H : IHeap} {K : IEnd → IHeap → Prop} (a0 : List (List (List UInt8))) {r : (List UInt8)} (h : Z11 a0 = some r) (hK : K (.ret (.v (str r))) H) : ICalls prog 11 [.ag (a0.map fun x => .sl 1 (x.map fun x => [.v (str x)]))] H K := by
  refine ICalls_iwp (N := 57) func11 (by kernel_rfl) rfl (by kernel_rfl) (by kernel_rfl) fun cb hcb hw hbd hnb => ?_
  clear hbd hnb
  subst hcb
  unfold Z11 at h
  refine IWp_seqF fun cb hc1 => ?_
  refine vcK ?_
  try simp -implicitDefEqProofs (maxSteps := 1000000) (disch := omega) [go_sem]
  subst hc1
  refine IWp_seqF fun cb hc2 => ?_
  refine vcK ?_
  try simp -implicitDefEqProofs (maxSteps := 1000000) (disch := omega) [go_sem]
  subst hc2
  refine IWp_seqF fun cb hc3 => ?_
  refine IWp_seqF fun cb hc4 => ?_
  refine vcK ?_
  try simp -implicitDefEqProofs (maxSteps := 1000000) (disch := omega) [go_sem]
  subst hc4
  obtain ⟨y5, hl5q, hk5⟩ := bind_some' h
  refine IWp_tailC (fun tm' H' => ∃ v8 : List UInt8, v8 = y5 ∧ Ext H H' ∧ H.next + 1 ≤ H'.next ∧ tm' 3 = .v (str v8) ∧ H'.obj H.next = some (.cells (a0.map fun x => .sl 1 (x.map fun x => [.v (str x)])))) ?_ fun cb hc5 => ?_
  · rintro tm5e H5e ⟨v8, rfl, he5e, hl5e, t3_5e, ob0_5e⟩
    have h : Z11_k5 v8 = some r := hk5
    unfold Z11_k5 at h
    simp -implicitDefEqProofs only [go_sem]
    subst hc3
    refine IWp_seqF fun cb hc9 => ?_
    refine vcK ?_
    try simp -implicitDefEqProofs (maxSteps := 1000000) (disch := omega) [go_sem, t3_5e, ob0_5e]
    subst hc9
    refine vcK ?_
    simp -implicitDefEqProofs only [go_sem]
    have er := Option.some.inj h
    subst er
    try simp -implicitDefEqProofs (maxSteps := 1000000) (disch := omega) [go_sem, t3_5e, ob0_5e]
    refine retG_pureA he5e hK (e := by first | with_reducible rfl | (simp -implicitDefEqProofs (maxSteps := 1000000) (disch := omega) [go_sem, t3_5e, ob0_5e] <;> omega))
  · refine IWp_block ?_
    refine IWp_loopF (fun (s : (List UInt8) × Int) tm' H' => Ext H H' ∧ H.next + 1 ≤ H'.next ∧ tm' 1 = .p H.next 0 ∧ tm' 3 = .v (str s.1) ∧ tm' 4 = .v (.int .i64 s.2) ∧ H'.obj H.next = some (.cells (a0.map fun x => .sl 1 (x.map fun x => [.v (str x)])))) hl5q ?_ ?_
    · refine .same ⟨by repeat (first | exact (Ext.refl hw) | refine Ext.new ?_ _ | refine Ext.set ?_ (by first | omega | (simp [go_sem]; done) | (simp [go_sem]; omega)) _ | refine Ext.del ?_ (by first | omega | (simp [go_sem]; done) | (simp [go_sem]; omega))), by first | with_reducible rfl | with_reducible assumption | omega | (simp -implicitDefEqProofs (maxSteps := 1000000) (disch := omega) [go_sem] <;> omega), by first | with_reducible rfl | with_reducible assumption | (simp -implicitDefEqProofs (maxSteps := 1000000) (disch := omega) [go_sem] <;> omega), by first | with_reducible rfl | with_reducible assumption | (simp -implicitDefEqProofs (maxSteps := 1000000) (disch := omega) [go_sem] <;> omega), by first | with_reducible rfl | with_reducible assumption | (simp -implicitDefEqProofs (maxSteps := 1000000) (disch := omega) [go_sem] <;> omega), by first | with_reducible rfl | with_reducible assumption | (simp -implicitDefEqProofs (maxSteps := 1000000) (disch := omega) [go_sem] <;> omega)⟩
    · rintro I5 hI5 ⟨v6, v7⟩ x5 tm5 H5 ⟨he5, hl5, t1_5, t3_5, t4_5, ob0_5⟩ h hret5
      replace h : Z11_b5 a0 v6 v7 = some x5 := h
      unfold Z11_b5 at h
      refine IWp_seqF fun cb hc10 => ?_
      refine IWp_seqF fun cb hc11 => ?_
      refine vcK ?_
      try simp -implicitDefEqProofs (maxSteps := 1000000) (disch := omega) [go_sem, t1_5, t3_5, t4_5, ob0_5]
      subst hc11
      refine IWp_cond_i h (by first | with_reducible rfl | (simp -implicitDefEqProofs (maxSteps := 1000000) (disch := omega) [go_sem, t1_5, t3_5, t4_5, ob0_5] <;> omega)) rfl ?_ ?_
      · intro c12 h
        try simp -implicitDefEqProofs (disch := omega) at c12
        refine vcK ?_
        simp -implicitDefEqProofs only [go_sem]
        subst hc10
        refine IWp_seqF fun cb hc13 => ?_
        refine IWp_block ?_
        refine IWp_seqC (fun tm' H' => ∃ v15 : List UInt8, H5 = H' ∧ tm' 1 = .p H.next 0 ∧ tm' 3 = .v (str v15) ∧ tm' 4 = .v (.int .i64 v7) ∧ Z11_k14 a0 v7 v15 = some x5) ?_ fun cb hc14 => ?_
        · rintro tm14 H14 ⟨v15, rfl, t1_14, t3_14, t4_14, h⟩
          unfold Z11_k14 at h
          refine IWp_seqF fun cb hc16 => ?_
          refine vcK ?_
          try simp -implicitDefEqProofs (maxSteps := 1000000) (disch := omega) [go_sem, t1_14, t3_14, t4_14, ob0_5]
          subst hc16
          obtain ⟨y17, hl17q, hk17⟩ := bind_some' h
          refine IWp_tailC (fun tm' H' => ∃ v20 : List UInt8, v20 = y17 ∧ H5 = H' ∧ tm' 1 = .p H.next 0 ∧ tm' 3 = .v (str v20) ∧ tm' 4 = .v (.int .i64 v7)) ?_ fun cb hc17 => ?_
          · rintro tm17e H17e ⟨v20, rfl, rfl, t1_17e, t3_17e, t4_17e⟩
            have h : Z11_k17 v7 v20 = some x5 := hk17
            unfold Z11_k17 at h
            simp -implicitDefEqProofs only [go_sem]
            subst hc13
            refine vcK ?_
            try simp -implicitDefEqProofs (maxSteps := 1000000) (disch := omega) [go_sem, t1_17e, t3_17e, t4_17e, ob0_5]
            have e5 := Option.some.inj h
            subst e5
            refine loopN_mk hI5 ((v20, IntKind.i64.wrap (v7 + 1))) ?_
            refine .same ⟨by repeat (first | exact he5 | refine Ext.new ?_ _ | refine Ext.set ?_ (by first | omega | (simp [go_sem]; done) | (simp [go_sem]; omega)) _ | refine Ext.del ?_ (by first | omega | (simp [go_sem]; done) | (simp [go_sem]; omega))), by first | with_reducible rfl | with_reducible assumption | omega | (simp -implicitDefEqProofs (maxSteps := 1000000) (disch := omega) [go_sem, t1_17e, t3_17e, t4_17e, ob0_5] <;> omega), by first | with_reducible rfl | with_reducible assumption | (simp -implicitDefEqProofs (maxSteps := 1000000) (disch := omega) [go_sem, t1_17e, t3_17e, t4_17e, ob0_5] <;> omega), by first | with_reducible rfl | with_reducible assumption | (simp -implicitDefEqProofs (maxSteps := 1000000) (disch := omega) [go_sem, t1_17e, t3_17e, t4_17e, ob0_5] <;> omega), by first | with_reducible rfl | with_reducible assumption | (simp -implicitDefEqProofs (maxSteps := 1000000) (disch := omega) [go_sem, t1_17e, t3_17e, t4_17e, ob0_5] <;> omega), by first | with_reducible rfl | with_reducible assumption | (simp -implicitDefEqProofs (maxSteps := 1000000) (disch := omega) [go_sem, t1_17e, t3_17e, t4_17e, ob0_5] <;> omega)⟩
          · refine IWp_block ?_
            refine IWp_loopF (fun (s : (List UInt8) × Int) tm' H' => H5 = H' ∧ tm' 1 = .p H.next 0 ∧ tm' 3 = .v (str s.1) ∧ tm' 4 = .v (.int .i64 v7) ∧ tm' 5 = .v (.int .i64 s.2)) hl17q ?_ ?_
            · refine .same ⟨rfl, ?_, ?_, ?_, ?_⟩ <;> first | with_reducible rfl | with_reducible assumption | (simp -implicitDefEqProofs (maxSteps := 1000000) (disch := omega) [go_sem, t1_14, t3_14, t4_14, ob0_5] <;> omega)
            · rintro I17 hI17 ⟨v18, v19⟩ x17 tm17 H17 ⟨rfl, t1_17, t3_17, t4_17, t5_17⟩ h hret17
              replace h : Z11_b17 a0 v7 v18 v19 = some x17 := h
              unfold Z11_b17 at h
              refine IWp_seqF fun cb hc21 => ?_
              refine IWp_seqF fun cb hc22 => ?_
              refine vcK ?_
              obtain ⟨g23, h⟩ := gd_some.1 h
              try simp -implicitDefEqProofs (disch := omega) at g23
              obtain ⟨g24, h⟩ := gd_some.1 h
              try simp -implicitDefEqProofs (disch := omega) at g24
              try simp -implicitDefEqProofs (maxSteps := 1000000) (disch := omega) [go_sem, t1_17, t3_17, t4_17, t5_17, ob0_5, g24]
              subst hc22
              refine IWp_cond_i h (by first | with_reducible rfl | (simp -implicitDefEqProofs (maxSteps := 1000000) (disch := omega) [go_sem, t1_17, t3_17, t4_17, t5_17, ob0_5, g24] <;> omega)) rfl ?_ ?_
              · intro c25 h
                try simp -implicitDefEqProofs (disch := omega) at c25
                refine vcK ?_
                simp -implicitDefEqProofs only [go_sem]
                subst hc21
                refine IWp_seqF fun cb hc26 => ?_
                refine IWp_block ?_
                refine IWp_drawP [8] [0, 1, 2, 3, 4, 5, 6, 7, 8, 9, 10, 11, 12, 13, 14, 15, 16, 17, 18, 19] (by kernel_rfl) (by kernel_rfl) (fun _ _ _ _ h => h) ?_
                obtain ⟨g27, h⟩ := gd_some.1 h
                try simp -implicitDefEqProofs (disch := omega) at g27
                try simp -implicitDefEqProofs (maxSteps := 1000000) (disch := omega) [go_sem, t1_17, t3_17, t4_17, t5_17, ob0_5, g24]
                obtain ⟨x28, hx28, h⟩ := bind_some' h
                refine PureC.mk _ (fun _ _ hK => ICalls.eqA (args' := [.v (.int .i64 ((((a0.getD v7.toNat []).getD v19.toNat []).length : Int)))]) (by first | with_reducible rfl | (simp -implicitDefEqProofs (maxSteps := 1000000) (disch := omega) [go_sem, t1_17, t3_17, t4_17, t5_17, ob0_5, g24] <;> omega)) (Z33_ok ((((a0.getD v7.toNat []).getD v19.toNat []).length : Int)) hx28 hK)) ?_
                obtain ⟨g29, h⟩ := gd_some.1 h
                try simp -implicitDefEqProofs (disch := omega) at g29
                obtain ⟨g30, h⟩ := gd_some.1 h
                try simp -implicitDefEqProofs (disch := omega) at g30
                obtain ⟨g31, h⟩ := gd_some.1 h
                try simp -implicitDefEqProofs (disch := omega) at g31
                obtain ⟨g32, h⟩ := gd_some.1 h
                try simp -implicitDefEqProofs (disch := omega) at g32
                try simp -implicitDefEqProofs (maxSteps := 1000000) (disch := omega) [go_sem, t1_17, t3_17, t4_17, t5_17, ob0_5, g24]
                subst hc26
                refine vcK ?_
                try simp -implicitDefEqProofs (maxSteps := 1000000) (disch := omega) [go_sem, t1_17, t3_17, t4_17, t5_17, ob0_5, g24]
                have e17 := Option.some.inj h
                subst e17
                refine loopN_mk hI17 (((((v18 ++ x28) ++ ([32])) ++ ((a0.getD v7.toNat []).getD v19.toNat [])) ++ ([10]), IntKind.i64.wrap (v19 + 1))) ?_
                refine .same ⟨rfl, ?_, ?_, ?_, ?_⟩ <;> first | with_reducible rfl | with_reducible assumption | (simp -implicitDefEqProofs (maxSteps := 1000000) (disch := omega) [go_sem, t1_17, t3_17, t4_17, t5_17, ob0_5, g24] <;> omega)
              · intro c25 h
                try simp -implicitDefEqProofs (disch := omega) at c25
                refine vcK ?_
                simp -implicitDefEqProofs only [go_sem]
                have e17 := Option.some.inj h
                subst e17
                have hy17 := hret17 _ rfl
                refine hc17 _ _ ?_
                refine .same ⟨v18, hy17, rfl, ?_, ?_, ?_⟩ <;> first | with_reducible rfl | with_reducible assumption | (simp -implicitDefEqProofs (maxSteps := 1000000) (disch := omega) [go_sem, t1_17, t3_17, t4_17, t5_17, ob0_5, g24] <;> omega)
        · refine IWp_seqF fun cb hc33 => ?_
          refine vcK ?_
          obtain ⟨g34, h⟩ := gd_some.1 h
          try simp -implicitDefEqProofs (disch := omega) at g34
          obtain ⟨g35, h⟩ := gd_some.1 h
          try simp -implicitDefEqProofs (disch := omega) at g35
          try simp -implicitDefEqProofs (maxSteps := 1000000) (disch := omega) [go_sem, t1_5, t3_5, t4_5, ob0_5, g35]
          subst hc33
          refine IWp_cond_i h (by first | with_reducible rfl | (simp -implicitDefEqProofs (maxSteps := 1000000) (disch := omega) [go_sem, t1_5, t3_5, t4_5, ob0_5, g35] <;> omega)) rfl ?_ ?_
          · intro c36 h
            try simp -implicitDefEqProofs (disch := omega) at c36
            refine IWp_drawP [1, 11] [0, 1, 2, 3, 4, 5, 6, 7, 8, 9, 10, 11, 12, 13, 14] (by kernel_rfl) (by kernel_rfl) (fun _ _ _ _ h => h) ?_
            try simp -implicitDefEqProofs (maxSteps := 1000000) (disch := omega) [go_sem, t1_5, t3_5, t4_5, ob0_5, g35]
            obtain ⟨x37, hx37, h⟩ := bind_some' h
            refine PureC.mk _ (fun _ _ hK => ICalls.eqA (args' := []) (by first | with_reducible rfl | (simp -implicitDefEqProofs (maxSteps := 1000000) (disch := omega) [go_sem, t1_5, t3_5, t4_5, ob0_5, g35] <;> omega)) (Z32_ok  hx37 hK)) ?_
            obtain ⟨g38, h⟩ := gd_some.1 h
            try simp -implicitDefEqProofs (disch := omega) at g38
            obtain ⟨g39, h⟩ := gd_some.1 h
            try simp -implicitDefEqProofs (disch := omega) at g39
            obtain ⟨g40, h⟩ := gd_some.1 h
            try simp -implicitDefEqProofs (disch := omega) at g40
            try simp -implicitDefEqProofs (maxSteps := 1000000) (disch := omega) [go_sem, t1_5, t3_5, t4_5, ob0_5, g35]
            obtain ⟨x41, hx41, h⟩ := bind_some' h
            refine PureC.mk _ (fun _ _ hK => ICalls.eqA (args' := [.v (.int .i64 (((a0.getD v7.toNat []).length : Int)))]) (by first | with_reducible rfl | (simp -implicitDefEqProofs (maxSteps := 1000000) (disch := omega) [go_sem, t1_5, t3_5, t4_5, ob0_5, g35] <;> omega)) (Z33_ok (((a0.getD v7.toNat []).length : Int)) hx41 hK)) ?_
            obtain ⟨g42, h⟩ := gd_some.1 h
            try simp -implicitDefEqProofs (disch := omega) at g42
            obtain ⟨g43, h⟩ := gd_some.1 h
            try simp -implicitDefEqProofs (disch := omega) at g43
            try simp -implicitDefEqProofs (maxSteps := 1000000) (disch := omega) [go_sem, t1_5, t3_5, t4_5, ob0_5, g35]
            refine hc14 _ _ ?_
            refine .same ⟨((((v6 ++ (x37.getD v7.toNat [])) ++ ([32])) ++ x41) ++ ([10])), rfl, ?_, ?_, ?_, h⟩ <;> first | with_reducible rfl | with_reducible assumption | (simp -implicitDefEqProofs (maxSteps := 1000000) (disch := omega) [go_sem, t1_5, t3_5, t4_5, ob0_5, g35] <;> omega)
          · intro c36 h
            try simp -implicitDefEqProofs (disch := omega) at c36
            refine vcK ?_
            simp -implicitDefEqProofs only [go_sem]
            refine hc14 _ _ ?_
            refine .same ⟨v6, rfl, ?_, ?_, ?_, h⟩ <;> first | with_reducible rfl | with_reducible assumption | (simp -implicitDefEqProofs (maxSteps := 1000000) (disch := omega) [go_sem, t1_5, t3_5, t4_5, ob0_5, g35] <;> omega)
      · intro c12 h
        try simp -implicitDefEqProofs (disch := omega) at c12
        refine vcK ?_
        simp -implicitDefEqProofs only [go_sem]
        have e5 := Option.some.inj h
        subst e5
        have hy5 := hret5 _ rfl
        refine hc5 _ _ ?_
        refine .same ⟨v6, hy5, by repeat (first | exact he5 | refine Ext.new ?_ _ | refine Ext.set ?_ (by first | omega | (simp [go_sem]; done) | (simp [go_sem]; omega)) _ | refine Ext.del ?_ (by first | omega | (simp [go_sem]; done) | (simp [go_sem]; omega))), by first | with_reducible rfl | with_reducible assumption | omega | (simp -implicitDefEqProofs (maxSteps := 1000000) (disch := omega) [go_sem, t1_5, t3_5, t4_5, ob0_5] <;> omega), by first | with_reducible rfl | with_reducible assumption | (simp -implicitDefEqProofs (maxSteps := 1000000) (disch := omega) [go_sem, t1_5, t3_5, t4_5, ob0_5] <;> omega), by first | with_reducible rfl | with_reducible assumption | (simp -implicitDefEqProofs (maxSteps := 1000000) (disch := omega) [go_sem, t1_5, t3_5, t4_5, ob0_5] <;> omega)⟩

end Go.Idl

namespace Go.Idl

open Go

def findI {α ρ : Type} (f : Nat → α → Option ρ) (d : ρ) : Nat → List α → ρ
  | _, [] => d
  | i, x :: l => match f i x with
    | none => findI f d (i + 1) l
    | some r => r

theorem findI_cons {α ρ : Type} {f : Nat → α → Option ρ} {d : ρ} {i : Nat} {x : α} {l : List α} : findI f d i (x :: l) = match f i x with
    | none => findI f d (i + 1) l
    | some r => r := rfl

theorem loopO_find {α ρ : Type} (l : List α) {step : Int → Option (Int ⊕ ρ)} (f : Nat → α → Option ρ) (d : ρ) (hl : l.length ≤ 1000000000)
    (hs : ∀ (i : Nat) (h : i < l.length), step (i : Int) = some (match f i l[i] with | none => .inl (IntKind.i64.wrap ((i : Int) + 1)) | some r => .inr r))
    (hf : step (l.length : Int) = some (.inr d)) : loopO step 0 = some (findI f d 0 l) := by
  obtain ⟨r, h1, h2⟩ := loopO_for (step := step) (Post := fun r => r = findI f d 0 l) l.length (fun i => findI f d i (l.drop i) = findI f d 0 l) (by simp)
    (fun i hi hI => by
      rw [hs i hi]
      rw [List.drop_eq_getElem_cons hi] at hI
      rw [findI_cons] at hI
      cases hfi : f i l[i] with
      | none =>
        rw [hfi] at hI
        rw [wrap_nat (by omega)]
        exact .inl ⟨rfl, hI⟩
      | some r =>
        rw [hfi] at hI
        exact .inr ⟨r, rfl, hI⟩)
    (fun hI => ⟨d, hf, by rw [List.drop_length] at hI; exact hI⟩)
  rw [h1, h2]

end Go.Idl

namespace Go.Idl

open Go

theorem getD_someZ {α : Type} {l : List α} {i : Nat} {d : α} (h : i < l.length) : l.getD i d = l[i] := by rw [List.getD_eq_getElem?_getD, List.getElem?_eq_getElem h]; rfl

/-! ### The document's reader -/

theorem byte_eq {a c : UInt8} : ((a.toNat : Int) = (c.toNat : Int)) ↔ a = c := by
  constructor
  · intro h; exact UInt8.toNat_inj.1 (by omega)
  · rintro rfl; rfl

theorem byte_num {a : UInt8} {n : Nat} (c : UInt8) (hc : c.toNat = n) : ((a.toNat : Int) = (n : Int)) ↔ a = c := by
  rw [← hc]; exact byte_eq

theorem byte10 {a : UInt8} : ((a.toNat : Int) = 10) ↔ a = 10 := byte_num 10 rfl

theorem Z35_loop (s : Str) (c : UInt8) (hs : s.length ≤ 4294967280) : ∀ (k i : Nat), i + k = s.length → loopO (fun v => Z35_b4 s (c.toNat : Int) v) (i : Int) = some (match cutS (s.drop i) c with | some p => .inr (s.take i ++ p.1, p.2, true) | none => .inl ())
  | 0, i, h => by
    rw [List.drop_of_length_le (by omega)]
    refine loopO_done ?_
    simp only [Z35_b4]
    rw [if_neg (by omega)]
    rfl
  | k + 1, i, h => by
    have hi : i < s.length := by omega
    have hg : s.getD i 0 = s[i] := by rw [List.getD_eq_getElem?_getD, List.getElem?_eq_getElem hi]; rfl
    have hw : IntKind.i64.wrap ((i : Int) + 1) = ((i + 1 : Nat) : Int) := wrap_nat (by omega)
    rw [List.drop_eq_getElem_cons hi]
    unfold cutS
    by_cases hc : s[i] = c
    · rw [if_pos hc]
      refine loopO_done ?_
      simp only [Z35_b4]
      rw [if_pos (by omega), gd_pos (by omega), Int.toNat_natCast, hg, if_pos (byte_eq.2 hc), gd_pos (by omega), gd_pos (by omega), hw, gd_pos (by omega), gd_pos (by omega), Int.toNat_natCast]
      simp
    · rw [if_neg hc]
      rw [loopO_more (s' := ((i + 1 : Nat) : Int)), Z35_loop s c hs k (i + 1) (by omega)]
      · cases cutS (s.drop (i + 1)) c with
        | none => rfl
        | some p =>
          simp only [Option.map_some]
          rw [List.take_succ_eq_append_getElem hi]
          simp only [List.append_assoc, List.singleton_append]
      · simp only [Z35_b4]
        rw [if_pos (by omega), gd_pos (by omega), Int.toNat_natCast, hg, if_neg (fun e => hc (byte_eq.1 e)), hw]

/-! ### The program's reader -/

theorem Z29_eq (st : S63) (c : UInt8) (hs : st.fleft.fs.length < 4294967281) : Z29 st (c.toNat : Int) = some (match cutS st.fleft.fs c with | some p => (p.1, ⟨⟨p.2⟩, st.fbad⟩) | none => (st.fleft.fs, ⟨⟨[]⟩, true⟩)) := by
  have hb := c.toNat_lt
  unfold Z29 Z49
  rw [gd_pos (by omega), gd_pos (by omega), Int.toNat_natCast, UInt8.ofNat_toNat, cut_one]
  simp only [Option.bind_some]
  cases cutS st.fleft.fs c with
  | none => cases h : st.fbad <;> simp
  | some p => cases h : st.fbad <;> simp

theorem Z30_eq (st : S63) (s : Str) (m : Nat) (hm : m ≤ 9999) (hs : s.length ≤ 281474976710656) : Z30 st s (m : Int) = some (match numS s m with | some n => ((n : Int), st) | none => (0, ⟨st.fleft, true⟩)) := by
  have noN : (∀ n, 1 ≤ n → n ≤ m → Lib.decDigits n ≠ s) → (match numS s m with | some n => ((n : Int), st) | none => ((0 : Int), (⟨st.fleft, true⟩ : S63))) = (0, ⟨st.fleft, true⟩) := fun h => by rw [numS_none h]
  unfold Z30 Z50
  rw [gd_pos (by omega)]
  simp only [Option.bind_some]
  have hat : ∀ n, n ≤ m → Lib.decDigits n = s → atoiS s = ((n : Int), false) := fun n hn e => by rw [← e]; exact atoi_dec n (by omega)
  by_cases h1 : (atoiS s).2 = true
  · rw [if_pos h1, noN]
    intro n _ hn e
    rw [hat n hn e] at h1
    cases h1
  · rw [if_neg h1]
    by_cases h2 : (atoiS s).1 < 1
    · rw [if_pos h2, noN]
      intro n h0 hn e
      rw [hat n hn e] at h2
      simp only at h2
      omega
    · rw [if_neg h2]
      by_cases h3 : (m : Int) < (atoiS s).1
      · rw [if_pos h3, noN]
        intro n h0 hn e
        rw [hat n hn e] at h3
        simp only at h3
        omega
      · rw [if_neg h3]
        unfold Z20
        rw [gd_pos (by omega)]
        simp only [Option.bind_some]
        obtain ⟨v, hv⟩ : ∃ v : Nat, (atoiS s).1 = v := ⟨(atoiS s).1.toNat, by omega⟩
        rw [hv, itoa_natZ]
        by_cases h4 : Lib.decDigits v = s
        · rw [if_neg (by simp [h4]), (numS_some (s := s) (m := m) (n := v)).2 ⟨by omega, by omega, h4⟩]
        · rw [if_pos h4, noN]
          intro n h0 hn e
          rw [hat n hn e] at hv
          simp only at hv
          exact h4 (by rw [show v = n by omega]; exact e)

theorem Z31_ex (st : S63) (hs : st.fleft.fs.length < 4294967281) : ∃ x st', Z31 st = some (x, st') ∧ st'.fleft.fs.length ≤ st.fleft.fs.length ∧ (st.fbad = true → st'.fbad = true) ∧
    (st.fbad = false → match valM 200 st.fleft.fs with | some p => x = p.1 ∧ st' = ⟨⟨p.2⟩, false⟩ | none => st'.fbad = true) := by
  unfold Z31 valM
  have e := Z29_eq st 32 hs
  rw [show (((32 : UInt8).toNat : Nat) : Int) = 32 from rfl] at e
  rw [e]
  simp only [Option.bind_some]
  cases hc : cutS st.fleft.fs 32 with
  | none =>
    simp only [Option.bind_none]
    rw [show (200 : Int) = ((200 : Nat) : Int) from rfl, Z30_eq _ _ 200 (by omega) (by omega)]
    simp only [Option.bind_some]
    cases numS st.fleft.fs 200 with
    | none =>
      simp only
      rw [if_pos (by simp)]
      exact ⟨_, _, rfl, by simp, fun _ => rfl, fun _ => rfl⟩
    | some n =>
      simp only
      rw [if_pos (by simp)]
      exact ⟨_, _, rfl, by simp, fun _ => rfl, fun _ => rfl⟩
  | some p =>
    obtain ⟨a, b⟩ := p
    have hl := cutS_len hc
    simp only [Option.bind_some]
    rw [show (200 : Int) = ((200 : Nat) : Int) from rfl, Z30_eq _ _ 200 (by omega) (by omega)]
    simp only [Option.bind_some]
    cases hn : numS a 200 with
    | none =>
      simp only [Option.bind_none]
      exact ⟨[], ⟨⟨b⟩, true⟩, by simp, by simp only; omega, fun _ => rfl, fun _ => rfl⟩
    | some n =>
      have hn2 := (numS_some.1 hn).2.1
      simp only [Option.bind_some]
      cases hbad : st.fbad with
      | true =>
        rw [if_pos (by rfl)]
        exact ⟨_, _, rfl, by simp only; omega, fun _ => rfl, fun e => by cases e⟩
      | false =>
        rw [if_neg (by simp)]
        by_cases hb : (b.length : Int) ≤ n
        · rw [if_pos hb, if_neg (by omega)]
          exact ⟨_, _, rfl, by simp only; omega, fun _ => rfl, fun _ => rfl⟩
        · rw [if_neg hb, gd_pos (by omega), Int.toNat_natCast]
          by_cases h10 : b.getD n 0 = 10
          · rw [if_neg (by rw [h10]; simp), gd_pos (by omega), gd_pos (by omega), wrap_nat (by omega), gd_pos (by omega), gd_pos (by omega), Int.toNat_natCast, if_pos ⟨by omega, h10⟩]
            exact ⟨_, _, rfl, by simp; omega, fun e => (by cases e), fun _ => ⟨rfl, rfl⟩⟩
          · rw [if_pos (fun e => h10 (byte10.1 e)), if_neg (fun e => h10 e.2)]
            exact ⟨_, _, rfl, by simp only; omega, fun _ => rfl, fun _ => rfl⟩

/-! ### Numbers, names, texts by the document -/

theorem Z33_loop : ∀ (n : Nat) (acc : Str), acc.length + n ≤ 1000000000000000000 → loopO (fun v : Int × (List UInt8) => Z33_b3 v.1 v.2) ((n : Int), acc) = some (Lib.decDigits n ++ acc) := by
  intro n
  induction n using Nat.strongRecOn with
  | _ n ih =>
    intro acc h
    have hm : ((n : Int)).tmod 10 = ((n % 10 : Nat) : Int) := by rw [Int.tmod_eq_emod_of_nonneg (by omega)]; omega
    have hd : ((n : Int)).tdiv 10 = ((n / 10 : Nat) : Int) := by rw [Int.tdiv_eq_ediv_of_nonneg (by omega)]; omega
    have hw : IntKind.i64.wrap (48 + ((n % 10 : Nat) : Int)) = ((48 + n % 10 : Nat) : Int) := by rw [wrap_i64 (by omega) (by omega)]; omega
    have hw8 : IntKind.u8.wrap ((48 + n % 10 : Nat) : Int) = ((48 + n % 10 : Nat) : Int) := wrap_u8 (by omega) (by omega)
    have hwd : IntKind.i64.wrap ((n / 10 : Nat) : Int) = ((n / 10 : Nat) : Int) := wrap_i64 (by omega) (by omega)
    have hs : Z33_b3 (n : Int) acc = some (if n < 10 then .inr ([UInt8.ofNat (48 + n % 10)] ++ acc) else .inl (((n / 10 : Nat) : Int), [UInt8.ofNat (48 + n % 10)] ++ acc)) := by
      unfold Z33_b3
      rw [hm, hd, hw, hw8, hwd, Int.toNat_natCast, gd_pos (by omega), gd_pos (by simp only [List.length_cons, List.length_nil]; omega)]
      by_cases hn : n < 10
      · rw [if_pos hn, if_pos (by omega)]
      · rw [if_neg hn, if_neg (by omega)]
    rw [Lib.decDigits]
    by_cases hn : n < 10
    · rw [if_pos hn] at hs
      rw [dif_pos hn, show n % 10 = n by omega] at *
      exact loopO_done hs
    · rw [if_neg hn] at hs
      rw [dif_neg hn, loopO_more (s := ((n : Int), acc)) hs, ih (n / 10) (by omega) _ (by simp; omega)]
      simp

theorem Z33_eq (n : Nat) (h : n ≤ 1000000000) : Z33 (n : Int) = some (Lib.decDigits n) := by
  unfold Z33
  rw [Z33_loop n [] (by simp; omega)]
  simp

theorem findI_idx (nm : Str) : ∀ (l : List Str) (i : Nat), findI (fun (k : Nat) (x : Str) => if nm = x then some (Sum.inr (k : Int) : Unit ⊕ Int) else none) (.inl ()) i l = match l.findIdx? (fun x => decide (x = nm)) with | some j => .inr ((i + j : Nat) : Int) | none => .inl ()
  | [], i => rfl
  | x :: l, i => by
    rw [findI_cons, List.findIdx?_cons]
    by_cases e : nm = x
    · simp [e]
    · have e' : ¬ x = nm := fun h => e h.symm
      rw [if_neg e, findI_idx nm l (i + 1)]
      simp only [e', decide_false, Bool.false_eq_true, if_false]
      cases l.findIdx? (fun x => decide (x = nm)) with
      | none => rfl
      | some j => simp; omega

theorem Z48_eq (nm : Str) : Z48 namesC nm = some (match fixN nm with | some i => (i : Int) | none => -1) := by
  unfold Z48
  have h := loopO_find (step := fun v => Z48_b4 namesC nm v) namesC (fun i x => if nm = x then some (.inr (i : Int)) else none) (.inl ()) (by simp [namesC]) (fun i hi => by
    simp only [Z48_b4]
    rw [if_pos (by omega), gd_pos (by omega), Int.toNat_natCast, getD_someZ hi]
    by_cases e : nm = namesC[i]
    · rw [if_pos e, if_pos e]
    · rw [if_neg e, if_neg e]) (by simp only [Z48_b4]; rw [if_neg (by omega)])
  rw [h, findI_idx]
  unfold fixN
  cases namesC.findIdx? (fun x => decide (x = nm)) with
  | none => rfl
  | some j => simp

end Go.Idl

namespace Go.Idl

open Go Go.RowKit Go.Lib

variable {P : Program} {N : Nat} {tm : Tm} {H : IHeap}

theorem IOper_max2 {o : Oper} {K : IV → IHeap → Prop} {Qp : List PanicEntry → IHeap → Prop} {ts : Array TypeId} {x y : Operand} {k : IntKind} {a b : Int} (ho : o.op = .call { callee := .builtin .max, args := #[x, y], argTypes := ts }) (hok : okO N o = true)
    (hx : ev tm x = .v (.int k a)) (hy : ev tm y = .v (.int k b)) (hK : K (.v (.int k (max a b))) H) : IOper P N o tm H K Qp := by
  obtain ⟨dst, op, type, pos, after, guard⟩ := o
  simp only at ho
  subst ho
  refine IOper_of (by simp) fun w g ac sm r hN => ?_
  subst hN
  have rx := r.ev (x := x) (by simp [okO, Op.operands] at hok; simpa [Call.operands] using hok.1 0 (by simp [Call.operands]))
  have ry := r.ev (x := y) (by simp [okO, Op.operands] at hok; simpa [Call.operands] using hok.1 1 (by simp [Call.operands]))
  rw [hx] at rx
  rw [hy] at ry
  have ex := rx.v_eq
  have ey := ry.v_eq
  refine ⟨.int k (max a b), w, g, H, _, .inl ?_, .refl _ _, sm, .v _, hK⟩
  have em := run_max_ints (P := P) w ts type k k a b
  rw [← ex, ← ey] at em
  simp [execOp, resolve, invoke, BigFrame.builtin_max, em]

end Go.Idl

namespace Go.Idl

open Go Go.Proofs.Tryz Go.RowKit

variable {H : IHeap} {K : IEnd → IHeap → Prop}

set_option pp.deepTerms false in
set_option maxRecDepth 8000 in
theorem field28 (nm : List UInt8) (hK : K (.ret (.tu [.v (.int .i64 (match fixN nm with | some i => (i : Int) | none => 0)), .v (.bool (fixN nm).isSome)])) H) : ICalls prog 28 [.v (str nm)] H K := by
  refine ICalls_vc (N := 14) func28 (by kernel_rfl) rfl (by kernel_rfl) (by kernel_rfl) fun hw hbd hnb => ?_
  simp (maxSteps := 1000000) (disch := omega) [go_sem]
  refine names29 ?_
  have hn8 : namesS.length = 8 := rfl
  have hdr : ∀ l : List IV, l.length = 8 → List.drop 8 l = [] := fun l h => List.drop_of_length_le (by omega)
  simp (maxSteps := 1000000) (disch := omega) [go_sem, hn8, hdr]
  have e : (.sl 1 (namesC.map fun x => [.v (str x)]) : IV) = .sl 1 (chunks 1 8 ((namesC.map fun x => IV.v (str x)).drop 0)) := by
    rw [List.drop_zero, chunks_one' (by simp [namesC])]
    simp
  refine ICalls_lendL (args' := [.sl 1 (namesC.map fun x => [.v (str x)]), .v (str nm)]) (.cons ?_ (.cons (.same (.v _)) .nil)) (fun H K hK => Z48_ok namesC nm (Z48_eq nm) hK) ?_
  · rw [e]
    exact Fz.bs _ 0 8 1 (namesC.map fun x => IV.v (str x)) (namesC.map fun x => IV.v (str x)) rfl (by simp [go_sem]; rfl) rfl (by simp [namesC]) (by simp [maxN]) (fzs (by simp [NB_v]))
  have hj : ∀ i, fixN nm = some i → i < 8 := fun i h => fixN_lt h
  cases hf : fixN nm with
  | none =>
    rw [hf] at hK
    simp (maxSteps := 1000000) (disch := omega) [go_sem]
    refine IOper_max2 (k := .i64) (a := 0) (b := -1) rfl (by kernel_rfl) (by simp [go_sem]) (by simp [go_sem]) ?_
    simp (maxSteps := 1000000) (disch := omega) [go_sem]
    exact retG_pure (((Ext.refl hw).new _).set (Nat.le_refl _) _) (NB_tuL (NBL.cons (.v _) (NBL.cons (.v _) NBL.nil))) hK
  | some i =>
    rw [hf] at hK
    have := hj i hf
    simp (maxSteps := 1000000) (disch := omega) [go_sem]
    refine IOper_max2 (k := .i64) (a := 0) (b := i) rfl (by kernel_rfl) (by simp [go_sem]) (by simp [go_sem]) ?_
    rw [show max (0 : Int) (i : Int) = i by omega]
    simp (maxSteps := 1000000) (disch := omega) [go_sem]
    exact retG_pure (((Ext.refl hw).new _).set (Nat.le_refl _) _) (NB_tuL (NBL.cons (.v _) (NBL.cons (.v _) NBL.nil))) hK

end Go.Idl

namespace Go.Idl

open Go Go.Proofs.Tryz Go.RowKit

variable {H : IHeap} {K : IEnd → IHeap → Prop}

noncomputable def conT (s : Str) : Option (List (List Str)) := conS s.length 0 s emptyC

noncomputable def conR (s : Str) : List (List Str) × Int := match conT s with | some c => if checkS c = true then (c, 0) else (emptyC, 260) | none => (emptyC, 260)

theorem untilZ (st : S63) (c : UInt8) (hs : st.fleft.fs.length ≤ 4000000000) : ∃ x st', Z29 st (c.toNat : Int) = some (x, st') ∧ st'.fleft.fs.length ≤ st.fleft.fs.length ∧ x.length ≤ st.fleft.fs.length ∧ (st.fbad = true → st'.fbad = true) ∧ (st.fbad = false → match cutS st.fleft.fs c with | some p => x = p.1 ∧ st' = ⟨⟨p.2⟩, false⟩ | none => st'.fbad = true) := by
  rw [Z29_eq st c (by omega)]
  cases hc : cutS st.fleft.fs c with
  | none => exact ⟨_, _, rfl, by simp, by simp, fun _ => rfl, fun _ => rfl⟩
  | some p =>
    have := cutS_len (a := p.1) (b := p.2) hc
    exact ⟨_, _, rfl, by simp only; omega, by omega, fun h => h, fun h => ⟨rfl, by rw [h]⟩⟩

theorem numberZ (st : S63) (s : Str) (hs : s.length ≤ 4000000000) : ∃ (n : Nat) (st' : S63), Z30 st s 8 = some ((n : Int), st') ∧ n ≤ 8 ∧ st'.fleft.fs.length ≤ st.fleft.fs.length ∧ (st.fbad = true → st'.fbad = true) ∧ (st.fbad = false → match numS s 8 with | some m => n = m ∧ st' = st | none => st'.fbad = true) := by
  have e := Z30_eq st s 8 (by omega) (by omega)
  rw [show ((8 : Nat) : Int) = 8 from rfl] at e
  rw [e]
  cases hc : numS s 8 with
  | none => exact ⟨0, _, rfl, by omega, Nat.le_refl _, fun _ => rfl, fun _ => rfl⟩
  | some m => exact ⟨m, _, rfl, (numS_some.1 hc).2.1, Nat.le_refl _, fun h => h, fun _ => ⟨rfl, rfl⟩⟩

def rdM : Option HO → Nat
  | some (.cells [.v (.string b), .v (.bool bad)]) => b.size + (if bad = true then 0 else 1)
  | _ => 0

theorem rdM_eq (s : Str) (b : Bool) : rdM (some (.cells [.v (str s), .v (.bool b)])) = s.length + (if b = true then 0 else 1) := by
  have : (⟨s.toArray⟩ : ByteArray).size = s.length := by show s.toArray.size = _; simp
  simp [rdM, str, this]

abbrev nil8 : List IV := List.replicate 8 (.v (.slice none 0 0))

structure ReadI (s : Str) (H H' : IHeap) (st : S63) (C : List IV) (c : List (List Str)) (k f : Nat) : Prop where
  o0 : H'.obj H.next = some (.cells nil8)
  o1 : H'.obj (H.next + 1) = some (.cells [.v (str st.fleft.fs), .v (.bool st.fbad)])
  o2 : H'.obj (H.next + 2) = some (.cells C)
  ext : Ext H H'
  nx : H.next + 3 ≤ H'.next
  rows : RowsC H' (H.next + 3) C c
  c8 : c.length = 8
  len : st.fleft.fs.length ≤ s.length
  k8 : k ≤ 8
  good : st.fbad = false → st.fleft.fs.length ≤ f ∧ smallC c ∧ (∀ j, k ≤ j → c.getD j [] = []) ∧ conS f k st.fleft.fs c = conT s
  bad : st.fbad = true → conT s = none

theorem valM_val {m : Nat} {s : Str} {p : Str × Str} (h : valM m s = some p) : p.1.length ≤ m := by
  obtain ⟨⟨a, b⟩, h1, h⟩ := Option.bind_eq_some_iff.1 h
  obtain ⟨n, h2, h⟩ := Option.bind_eq_some_iff.1 h
  have := (numS_some.1 h2).2.1
  split at h
  · cases h; simp; omega
  · cases h

structure InnerI (H H2 : IHeap) (b : Bool) (st3 : S63) (c : List (List Str)) (fi n i : Nat) (st' : S63) (C' : List IV) (c' : List (List Str)) : Prop where
  o0 : H2.obj H.next = some (.cells nil8)
  o1 : H2.obj (H.next + 1) = some (.cells [.v (str st'.fleft.fs), .v (.bool st'.fbad)])
  o2 : H2.obj (H.next + 2) = some (.cells C')
  ext : Ext H H2
  nx : H.next + 3 ≤ H2.next
  rows : RowsC H2 (H.next + 3) C' c'
  c8 : c'.length = 8
  len : st'.fleft.fs.length ≤ st3.fleft.fs.length
  fl : ∀ l, c'[fi]? = some l → l.length ≤ 1000000 + i
  dead : b = true → st'.fbad = true
  good : b = false → (st'.fbad = true ∧ valsM 200 n st3.fleft.fs = none) ∨ (st'.fbad = false ∧ ∃ acc, c' = c.set fi acc ∧ acc.length = i ∧ (∀ v, v ∈ acc → v.length ≤ 200) ∧ valsM 200 n st3.fleft.fs = (valsM 200 (n - i) st'.fleft.fs).map fun q => (acc ++ q.1, q.2))

theorem InnerI.next {H H2 J : IHeap} {b : Bool} {st3 : S63} {c : List (List Str)} {fi n i : Nat} {st' st'' : S63} {C' C'' : List IV} {c' : List (List Str)} (hJ : InnerI H H2 b st3 c fi n i st' C' c') (hin : i < n) (hfi : fi < c'.length) {x : Str}
    (l4 : st''.fleft.fs.length ≤ st'.fleft.fs.length) (b4 : st'.fbad = true → st''.fbad = true) (c4 : st'.fbad = false → match valM 200 st'.fleft.fs with | some p => x = p.1 ∧ st'' = ⟨⟨p.2⟩, false⟩ | none => st''.fbad = true)
    (o0 : J.obj H.next = some (.cells nil8)) (o1 : J.obj (H.next + 1) = some (.cells [.v (str st''.fleft.fs), .v (.bool st''.fbad)])) (o2 : J.obj (H.next + 2) = some (.cells C'')) (ext : Ext H J) (nx : H.next + 3 ≤ J.next) (rows : RowsC J (H.next + 3) C'' (c'.set fi (c'[fi] ++ [x]))) :
    InnerI H J b st3 c fi n (i + 1) st'' C'' (c'.set fi (c'[fi] ++ [x])) := by
  refine ⟨o0, o1, o2, ext, nx, rows, by simp [hJ.c8], Nat.le_trans l4 hJ.len, fun l hl => ?_, fun h => b4 (hJ.dead h), fun h => ?_⟩
  · rw [List.getElem?_set_self hfi] at hl
    cases hl
    have := hJ.fl _ (List.getElem?_eq_getElem hfi)
    simp; omega
  · rcases hJ.good h with ⟨hd, hT⟩ | ⟨hd, acc, rfl, ha, hav, hT⟩
    · exact .inl ⟨b4 hd, hT⟩
    · have c4 := c4 hd
      have e1 : n - i = (n - (i + 1)) + 1 := by omega
      rw [e1, valsM] at hT
      cases hv : valM 200 st'.fleft.fs with
      | none =>
        rw [hv] at c4 hT
        exact .inl ⟨c4, by rw [hT]; rfl⟩
      | some p =>
        rw [hv] at c4 hT
        obtain ⟨rfl, rfl⟩ := c4
        refine .inr ⟨rfl, acc ++ [p.1], ?_, by simp [ha], fun v hv' => ?_, ?_⟩
        · rw [List.set_set]
          simp
        · rcases List.mem_append.1 hv' with hv' | hv'
          · exact hav v hv'
          · rw [List.mem_singleton.1 hv']; exact valM_val hv
        · rw [hT]
          simp only [Option.bind_some]
          cases valsM 200 (n - (i + 1)) p.2 with
          | none => rfl
          | some q => simp

theorem fld_of {st st1 st2 st3 : S63} {nm mt : Str} {n : Nat} (hb : st.fbad = false) (b2 : st1.fbad = true → st2.fbad = true) (b3 : st2.fbad = true → st3.fbad = true)
    (c1 : st.fbad = false → match cutS st.fleft.fs 32 with | some p => nm = p.1 ∧ st1 = ⟨⟨p.2⟩, false⟩ | none => st1.fbad = true)
    (c2 : st1.fbad = false → match cutS st1.fleft.fs 10 with | some p => mt = p.1 ∧ st2 = ⟨⟨p.2⟩, false⟩ | none => st2.fbad = true)
    (c3 : st2.fbad = false → match numS mt 8 with | some m => n = m ∧ st3 = st2 | none => st3.fbad = true) :
    (st3.fbad = true ∧ fldS st.fleft.fs = none) ∨ (st3.fbad = false ∧ st3.fleft.fs.length < st.fleft.fs.length ∧ fldS st.fleft.fs = (fixN nm).bind fun i => (valsM 200 n st3.fleft.fs).map fun r => (i, r.1, r.2)) := by
  have c1 := c1 hb
  unfold fldS
  cases h1 : cutS st.fleft.fs 32 with
  | none => rw [h1] at c1; exact .inl ⟨b3 (b2 c1), rfl⟩
  | some p =>
    rw [h1] at c1
    obtain ⟨rfl, rfl⟩ := c1
    have hl := cutS_len (a := p.1) (b := p.2) h1
    have c2 := c2 rfl
    simp only at c2
    simp only [Option.bind_some]
    cases h2 : cutS p.2 10 with
    | none => rw [h2] at c2; exact .inl ⟨b3 c2, rfl⟩
    | some q =>
      rw [h2] at c2
      obtain ⟨rfl, rfl⟩ := c2
      have hl2 := cutS_len (a := q.1) (b := q.2) h2
      have c3 := c3 rfl
      simp only [Option.bind_some]
      cases h3 : numS q.1 8 with
      | none =>
        rw [h3] at c3
        refine .inl ⟨c3, ?_⟩
        cases fixN p.1 <;> rfl
      | some m =>
        rw [h3] at c3
        obtain ⟨rfl, rfl⟩ := c3
        exact .inr ⟨rfl, by simp only; omega, rfl⟩

theorem conS_none (f k : Nat) (s : Str) (c : List (List Str)) (h : s ≠ []) (hf : fldS s = none) : conS f k s c = none := by
  cases f with
  | zero => unfold conS; rw [if_neg h]
  | succ f => unfold conS; rw [if_neg h, hf]; rfl

theorem conS_low (f k : Nat) (s : Str) (c : List (List Str)) (h : s ≠ []) {i : Nat} {o : Option (List Str × Str)} (hf : fldS s = o.map fun r => (i, r.1, r.2)) (hi : i < k) : conS f k s c = none := by
  cases f with
  | zero => unfold conS; rw [if_neg h]
  | succ f =>
    unfold conS
    rw [if_neg h, hf]
    cases o with
    | none => rfl
    | some r => simp [hi]

theorem conS_step (f k : Nat) (s : Str) (c : List (List Str)) (h : s ≠ []) {i : Nat} {l : List Str} {r : Str} (hf : fldS s = some (i, l, r)) (hi : k ≤ i) : conS (f + 1) k s c = conS f (i + 1) r (c.set i l) := by
  rw [conS, if_neg h, hf]
  simp only [Option.bind_some]
  rw [if_neg (by omega)]

set_option pp.deepTerms false in
set_option maxRecDepth 8000 in
set_option maxHeartbeats 4000000 in
theorem read10 (s : Str) (hs : s.length ≤ 1000000000) (hV : VOK prog H) (hK : K (.ret (.tu [cS (conR s).1, .v (.int .i64 (conR s).2)])) H) : ICalls prog 10 [.v (str s)] H K := by
  refine ICalls_vc (N := 78) func10 (by kernel_rfl) rfl (by kernel_rfl) (by kernel_rfl) fun hw hbd hnb => ?_
  simp (maxSteps := 1000000) (disch := omega) [go_sem, bdP]
  refine vcLoop_mk (fun tm' H' => ∃ (st : S63) (C : List IV) (c : List (List Str)) (k f : Nat), tm' 2 = .p H.next 0 ∧ tm' 4 = .p (H.next + 1) 0 ∧ tm' 5 = .p (H.next + 2) 0 ∧ tm' 6 = .v (.int .i64 ((k : Int) - 1)) ∧ ReadI s H H' st C c k f) (fun _ H' => rdM (H'.obj (H.next + 1))) (.same ?_) ?_
  · refine ⟨⟨⟨s⟩, false⟩, nil8, emptyC, 0, s.length, by simp [go_sem], by simp [go_sem], by simp [go_sem], by simp [go_sem], ?_⟩
    refine ⟨by simp [go_sem, nil8], by simp [go_sem], by simp [go_sem, nil8], (((Ext.refl hw).new _).new _).new _, by simp [go_sem], .nils 8, by simp [emptyC], by simp, by omega, fun _ => ⟨Nat.le_refl _, ⟨by simp [emptyC], by simp [emptyC]⟩, fun j _ => ?_, rfl⟩, fun h => by cases h⟩
    rw [emptyC, List.getD_eq_getElem?_getD, List.getElem?_replicate]
    split <;> rfl
  rintro I' μ' hI hμ tm' H' ⟨st, C, c, k, f, t2, t4, t5, t6, hR⟩
  have o1 := hR.o1
  have o2 := hR.o2
  have o0 := hR.o0
  have badEnd : st.fbad = true → (conR s) = (emptyC, 260) := fun h => by unfold conR; rw [hR.bad h]
  refine vc_sound _ (by kernel_rfl) _ _ _ ?_
  simp (maxSteps := 1000000) (disch := omega) [go_sem, t2, t4, t5, t6, o1]
  by_cases h0 : st.fleft.fs = []
  · simp (maxSteps := 1000000) (disch := omega) [go_sem, t2, t4, t5, t6, o1, h0]
    cases hb : st.fbad with
    | true =>
      rw [hb] at o1
      rw [badEnd hb] at hK
      simp (maxSteps := 1000000) (disch := omega) [go_sem, t2, t4, t5, t6, o1, bdP, o0]
      exact retG_fz (J := H) (hR.ext.set (Nat.le_refl _) _).endH (.tu2 (by rw [cS_empty]; exact Fz.nils 8) (.same (.v _))) hK
    | false =>
      rw [hb] at o1
      obtain ⟨g1, g2, g3, g4⟩ := hR.good hb
      have hcT : conT s = some c := by rw [← g4, h0]; cases f <;> simp [conS]
      have hC8 : C.length = 8 := by rw [hR.rows.len, hR.c8]
      have htk : List.take 8 C = C := List.take_of_length_le (by omega)
      simp (maxSteps := 1000000) (disch := omega) [go_sem, t2, t4, t5, t6, o1, o2, hC8, htk]
      refine ICalls_lendL (H := H') (args' := [cS c]) (.cons (hR.rows.fz fun _ _ => rfl) .nil) (fun H K hK => ZC_ok c (gd_pos g2) hK) ?_
      by_cases hk : checkS c = true
      · have e : conR s = (c, 0) := by unfold conR; rw [hcT]; simp [hk]
        rw [e] at hK
        rw [if_pos hk]
        simp (maxSteps := 1000000) (disch := omega) [go_sem, t2, t4, t5, t6, o1, o2, hC8, htk, o0]
        exact retG_fz (J := H) (hR.ext.set (Nat.le_refl _) _).endH (.tu2 ((hR.rows.mono (J' := H'.set H.next (.cells C)) (Nat.le_refl _) fun q o hq _ e => by simp only [go_sem, if_neg (show ¬ q = H.next by omega)]; exact e).fz fun q hq => hw q (by omega)) (.same (.v _))) hK
      · have e : conR s = (emptyC, 260) := by unfold conR; rw [hcT]; simp [hk]
        rw [e] at hK
        rw [if_neg hk]
        simp (maxSteps := 1000000) (disch := omega) [go_sem, t2, t4, t5, t6, o1, bdP, o0, o2, hC8, htk]
        exact retG_fz (J := H) (hR.ext.set (Nat.le_refl _) _).endH (.tu2 (by rw [cS_empty]; exact Fz.nils 8) (.same (.v _))) hK
  · simp (maxSteps := 1000000) (disch := omega) [go_sem, t2, t4, t5, t6, o1, h0]
    cases hb : st.fbad with
    | true =>
      rw [hb] at o1
      rw [badEnd hb] at hK
      simp (maxSteps := 1000000) (disch := omega) [go_sem, t2, t4, t5, t6, o1, bdP, o0]
      exact retG_fz (J := H) (hR.ext.set (Nat.le_refl _) _).endH (.tu2 (by rw [cS_empty]; exact Fz.nils 8) (.same (.v _))) hK
    | false =>
      obtain ⟨g1, g2, g3, g4⟩ := hR.good hb
      obtain ⟨nm, st1, e1, l1, m1, b1, c1⟩ := untilZ st 32 (by have := hR.len; omega)
      rw [show (((32 : UInt8).toNat : Nat) : Int) = 32 from rfl] at e1
      have o1' := o1
      rw [hb] at o1'
      simp (maxSteps := 1000000) (disch := omega) [go_sem, t2, t4, t5, t6, o1']
      refine Z29_ok st 32 _ o1 (hV.of hR.ext.sn) e1 ?_
      simp (maxSteps := 1000000) (disch := omega) [go_sem, t2, t4, t5, t6, setL]
      refine field28 nm ?_
      simp (maxSteps := 1000000) (disch := omega) [go_sem, t2, t4, t5, t6]
      obtain ⟨mt, st2, e2, l2, m2, b2, c2⟩ := untilZ st1 10 (by have := hR.len; omega)
      rw [show (((10 : UInt8).toNat : Nat) : Int) = 10 from rfl] at e2
      refine Z29_ok st1 10 _ (by simp [go_sem, setL]) (hV.of hR.ext.sn) e2 ?_
      simp (maxSteps := 1000000) (disch := omega) [go_sem, t2, t4, t5, t6, setL]
      obtain ⟨n, st3, e3, hn, l3, b3, c3⟩ := numberZ st2 mt (by have := hR.len; omega)
      refine Z30_ok st2 mt 8 _ (by simp [go_sem, setL]) (hV.of hR.ext.sn) e3 ?_
      simp (maxSteps := 1000000) (disch := omega) [go_sem, t2, t4, t5, t6, setL]
      have hF := fld_of hb b2 b3 c1 c2 c3
      have l30 : st3.fleft.fs.length ≤ st.fleft.fs.length := by omega
      have mk0 : ∀ (b : Bool) (fi : Nat), fi < 8 → (b = false → k ≤ fi) → InnerI H (H'.set (H.next + 1) (.cells [.v (str st3.fleft.fs), .v (.bool b)])) b st3 c fi n 0 ⟨st3.fleft, b⟩ C c := fun b fi hfi h => by
        have hlt : fi < c.length := by rw [hR.c8]; exact hfi
        refine ⟨by simp [go_sem, o0, nil8], by simp [go_sem], by simp [go_sem, o2], hR.ext.set (by omega) _, by simpa [go_sem] using hR.nx, hR.rows.mono (Nat.le_refl _) fun q o hq _ e => ?_, hR.c8, Nat.le_refl _, fun l hl => ?_, fun h => h, fun hb' => .inr ⟨hb', [], ?_, rfl, fun v hv => by simp at hv, ?_⟩⟩
        · simp only [go_sem, if_neg (show ¬ q = H.next + 1 by omega)]; exact e
        · have := (g2.2 l (List.mem_of_getElem? hl)).1
          omega
        · have h3 := g3 fi (h hb')
          rw [List.getD_eq_getElem?_getD, List.getElem?_eq_getElem hlt] at h3
          have h3 : c[fi] = [] := h3
          rw [← h3, List.set_getElem_self]
        · simp
      cases hb3 : st3.fbad with
      | true =>
        cases hfx : fixN nm with
        | none =>
          simp (maxSteps := 1000000) (disch := omega) [go_sem, t2, t4, t5, t6, hb3, hfx]
          refine vcLoop_mk (fun tm2 H2 => ∃ (i : Nat) (st' : S63) (C' : List IV) (c' : List (List Str)), tm2 2 = .p H.next 0 ∧ tm2 4 = .p (H.next + 1) 0 ∧ tm2 5 = .p (H.next + 2) 0 ∧ tm2 7 = .v (.int .i64 (0 : Nat)) ∧ tm2 53 = .v (.int .i64 n) ∧ tm2 54 = .v (.int .i64 i) ∧ i ≤ n ∧ InnerI H H2 true st3 c 0 n i st' C' c') (fun tm2 _ => n - (intOf (tm2 54)).toNat) (.same ?_) ?_
          · exact ⟨0, ⟨st3.fleft, true⟩, C, c, by simp [go_sem, t2], by simp [go_sem, t4], by simp [go_sem, t5], by simp [go_sem], by simp [go_sem], by simp [go_sem], by omega, mk0 true (0) (by omega) (fun h => (by cases h))⟩
          rintro I2 μ2 hI2 hμ2 tm2 H2 ⟨i, st', C', c', u2, u4, u5, u7, u53, u54, hi, hJ⟩
          have p1 := hJ.o1
          have p2 := hJ.o2
          have p0 := hJ.o0
          refine vc_sound _ (by kernel_rfl) _ _ _ ?_
          simp (maxSteps := 1000000) (disch := omega) [go_sem, u2, u4, u5, u7, u53, u54]
          refine condB ?_ ?_ <;> intro hc2 <;> (try simp at hc2)
          · obtain ⟨x, st'', e4, l4, b4, c4⟩ := Z31_ex st' (by have := hJ.len; have := hR.len; omega)
            have hCl : C'.length = 8 := by rw [hJ.rows.len, hJ.c8]
            have hfi : (0) < c'.length := by rw [hJ.c8]; omega
            have hfC : (0) < C'.length := by omega
            rcases hJ.rows.at hfi with ⟨hC, hc0⟩ | ⟨nr, q1, q2, hC, q4⟩
            · have hCe : C'[0]'hfC = .v (.slice none 0 0) := by rw [List.getElem?_eq_getElem hfC] at hC; exact Option.some.inj hC
              simp (maxSteps := 1000000) (disch := omega) [go_sem, u2, u4, u5, u7, u53, u54, p2, hCl]
              refine IWp_draw [0, 1, 2, 3, 4, 5, 6, 7, 8, 9] (by kernel_rfl) (by kernel_rfl) (fun _ _ _ _ h => h) ?_
              simp (maxSteps := 1000000) (disch := omega) [go_sem, u2, u4, u5, u7, u53, u54, p2, hCl, hCe]
              refine Z31_ok st' _ p1 (hV.of hJ.ext.sn) e4 ?_
              have nx2 := hJ.nx
              have n0 : ¬ H.next = H2.next := by omega
              have n1 : ¬ H.next + 1 = H2.next := by omega
              have n2 : ¬ H.next + 2 = H2.next := by omega
              simp (maxSteps := 1000000) (disch := omega) [go_sem, u2, u4, u5, u7, u53, u54, p2, hCl, hCe, setL, n0, n1, n2]
              have n3 : ¬ H2.next = H.next + 2 := by omega
              have n4 : ¬ H2.next = H.next + 1 := by omega
              have ex : c'.set (0) (c'[0] ++ [x]) = c'.set (0) [x] := by rw [hc0]; rfl
              have eC : ∀ y : IV, List.take (0) C' ++ y :: List.drop (0 + 1) C' = C'.set (0) y := fun y => by rw [List.set_eq_take_append_cons_drop, if_pos hfC]
              have eT : ∀ y : IV, y :: C'.tail = C'.set 0 y := fun y => by cases C' with | nil => simp at hCl | cons a b => rfl
              refine .of hI2 hμ2 ⟨i + 1, st'', C'.set (0) (.os H2.next 1), c'.set (0) (c'[0] ++ [x]), by simp [go_sem, u2], by simp [go_sem, u4], by simp [go_sem, u5], by simp [go_sem, u7], by simp [go_sem, u53], by simp [go_sem], by omega, ?_⟩ (by simp [go_sem, u54]; omega)
              refine hJ.next hc2 hfi l4 b4 c4 (by simp [go_sem, p0, n0, nil8]) (by simp [go_sem, n1]) (by first | (simp [go_sem, eC]; done) | (simp [go_sem, eT]; done)) (((hJ.ext.set (by omega) _).new _).set (by omega) _) (by simp [go_sem]; omega) ?_
              rw [ex]
              refine hJ.rows.putNew hfi hc0 (by omega) (Nat.le_refl _) (by simp [go_sem]) (by simp [go_sem]) (fun q o hq hq' e => ?_) (by simp [go_sem, n3, n4])
              have m1 : ¬ q = H.next + 2 := by omega
              have m2 : ¬ q = H.next + 1 := by omega
              have m3 : ¬ q = H2.next := by omega
              simp [go_sem, m1, m2, m3, e]
            · have hCe : C'[0]'hfC = .os nr c'[0].length := by rw [List.getElem?_eq_getElem hfC] at hC; exact Option.some.inj hC
              have hfl := hJ.fl _ (List.getElem?_eq_getElem hfi)
              simp (maxSteps := 1000000) (disch := omega) [go_sem, u2, u4, u5, u7, u53, u54, p2, hCl]
              refine IWp_draw [0, 1, 2, 3, 4, 5, 6, 7, 8, 9] (by kernel_rfl) (by kernel_rfl) (fun _ _ _ _ h => h) ?_
              simp (maxSteps := 1000000) (disch := omega) [go_sem, u2, u4, u5, u7, u53, u54, p2, hCl, hCe]
              refine Z31_ok st' _ p1 (hV.of hJ.ext.sn) e4 ?_
              have n0 : ¬ H.next = nr := by omega
              have n1 : ¬ H.next + 1 = nr := by omega
              have n2 : ¬ H.next + 2 = nr := by omega
              have n3 : ¬ nr = H.next + 1 := by omega
              have n4 : ¬ nr = H.next + 2 := by omega
              simp (maxSteps := 1000000) (disch := omega) [go_sem, u2, u4, u5, u7, u53, u54, p2, hCl, hCe, setL, q4, n0, n1, n2, n3, n4]
              have eC : ∀ y : IV, List.take (0) C' ++ y :: List.drop (0 + 1) C' = C'.set (0) y := fun y => by rw [List.set_eq_take_append_cons_drop, if_pos hfC]
              have eT : ∀ y : IV, y :: C'.tail = C'.set 0 y := fun y => by cases C' with | nil => simp at hCl | cons a b => rfl
              have el : (c'[0] ++ [x]).length = c'[0].length + 1 := by simp
              refine .of hI2 hμ2 ⟨i + 1, st'', C'.set (0) (.os nr (c'[0].length + 1)), c'.set (0) (c'[0] ++ [x]), by simp [go_sem, u2], by simp [go_sem, u4], by simp [go_sem, u5], by simp [go_sem, u7], by simp [go_sem, u53], by simp [go_sem], by omega, ?_⟩ (by simp [go_sem, u54]; omega)
              have nx2 := hJ.nx
              refine hJ.next hc2 hfi l4 b4 c4 (by simp [go_sem, p0, n0, nil8]) (by simp [go_sem, n1]) (by first | (simp [go_sem, eC]; done) | (simp [go_sem, eT]; done)) (((hJ.ext.set (by omega) _).set (by omega) _).set (by omega) _) (by simp [go_sem]; omega) ?_
              rw [← el]
              refine hJ.rows.putOld hfi hC (by simp [go_sem]) (fun q o hq hq' hne e => ?_) (by simp [go_sem, n3, n4])
              have m1 : ¬ q = H.next + 2 := by omega
              have m2 : ¬ q = H.next + 1 := by omega
              simp [go_sem, m1, m2, hne, e]
          · simp (maxSteps := 1000000) (disch := omega) [go_sem, u2, u4, u5, u7, u53, u54]
            have hd := hJ.dead rfl
            have hT : conT s = none := by
              rcases hF with ⟨_, hF⟩ | ⟨h, _⟩
              · rw [← g4]; exact conS_none f k _ c h0 hF
              · rw [hb3] at h; cases h
            refine .of hI hμ ⟨st', C', c', 0 + 1, f, by simp [go_sem, u2], by simp [go_sem, u4], by simp [go_sem, u5], by simp [go_sem, u7], ⟨p0, p1, p2, hJ.ext, hJ.nx, hJ.rows, hJ.c8, by have := hJ.len; have := hR.len; omega, by omega, fun h => (by rw [hd] at h; cases h), fun _ => hT⟩⟩ ?_
            rw [p1, rdM_eq, rdM_eq, hd]
            have := hJ.len
            simp; omega
        | some fi =>
          have hfi8 := fixN_lt hfx
          simp (maxSteps := 1000000) (disch := omega) [go_sem, t2, t4, t5, t6, hb3, hfx]
          refine vcLoop_mk (fun tm2 H2 => ∃ (i : Nat) (st' : S63) (C' : List IV) (c' : List (List Str)), tm2 2 = .p H.next 0 ∧ tm2 4 = .p (H.next + 1) 0 ∧ tm2 5 = .p (H.next + 2) 0 ∧ tm2 7 = .v (.int .i64 (fi : Nat)) ∧ tm2 53 = .v (.int .i64 n) ∧ tm2 54 = .v (.int .i64 i) ∧ i ≤ n ∧ InnerI H H2 true st3 c fi n i st' C' c') (fun tm2 _ => n - (intOf (tm2 54)).toNat) (.same ?_) ?_
          · exact ⟨0, ⟨st3.fleft, true⟩, C, c, by simp [go_sem, t2], by simp [go_sem, t4], by simp [go_sem, t5], by simp [go_sem], by simp [go_sem], by simp [go_sem], by omega, mk0 true (fi) (by omega) (fun h => (by cases h))⟩
          rintro I2 μ2 hI2 hμ2 tm2 H2 ⟨i, st', C', c', u2, u4, u5, u7, u53, u54, hi, hJ⟩
          have p1 := hJ.o1
          have p2 := hJ.o2
          have p0 := hJ.o0
          refine vc_sound _ (by kernel_rfl) _ _ _ ?_
          simp (maxSteps := 1000000) (disch := omega) [go_sem, u2, u4, u5, u7, u53, u54]
          refine condB ?_ ?_ <;> intro hc2 <;> (try simp at hc2)
          · obtain ⟨x, st'', e4, l4, b4, c4⟩ := Z31_ex st' (by have := hJ.len; have := hR.len; omega)
            have hCl : C'.length = 8 := by rw [hJ.rows.len, hJ.c8]
            have hfi : (fi) < c'.length := by rw [hJ.c8]; omega
            have hfC : (fi) < C'.length := by omega
            rcases hJ.rows.at hfi with ⟨hC, hc0⟩ | ⟨nr, q1, q2, hC, q4⟩
            · have hCe : C'[fi]'hfC = .v (.slice none 0 0) := by rw [List.getElem?_eq_getElem hfC] at hC; exact Option.some.inj hC
              simp (maxSteps := 1000000) (disch := omega) [go_sem, u2, u4, u5, u7, u53, u54, p2, hCl]
              refine IWp_draw [0, 1, 2, 3, 4, 5, 6, 7, 8, 9] (by kernel_rfl) (by kernel_rfl) (fun _ _ _ _ h => h) ?_
              simp (maxSteps := 1000000) (disch := omega) [go_sem, u2, u4, u5, u7, u53, u54, p2, hCl, hCe]
              refine Z31_ok st' _ p1 (hV.of hJ.ext.sn) e4 ?_
              have nx2 := hJ.nx
              have n0 : ¬ H.next = H2.next := by omega
              have n1 : ¬ H.next + 1 = H2.next := by omega
              have n2 : ¬ H.next + 2 = H2.next := by omega
              simp (maxSteps := 1000000) (disch := omega) [go_sem, u2, u4, u5, u7, u53, u54, p2, hCl, hCe, setL, n0, n1, n2]
              have n3 : ¬ H2.next = H.next + 2 := by omega
              have n4 : ¬ H2.next = H.next + 1 := by omega
              have ex : c'.set (fi) (c'[fi] ++ [x]) = c'.set (fi) [x] := by rw [hc0]; rfl
              have eC : ∀ y : IV, List.take (fi) C' ++ y :: List.drop (fi + 1) C' = C'.set (fi) y := fun y => by rw [List.set_eq_take_append_cons_drop, if_pos hfC]
              have eT : ∀ y : IV, y :: C'.tail = C'.set 0 y := fun y => by cases C' with | nil => simp at hCl | cons a b => rfl
              refine .of hI2 hμ2 ⟨i + 1, st'', C'.set (fi) (.os H2.next 1), c'.set (fi) (c'[fi] ++ [x]), by simp [go_sem, u2], by simp [go_sem, u4], by simp [go_sem, u5], by simp [go_sem, u7], by simp [go_sem, u53], by simp [go_sem], by omega, ?_⟩ (by simp [go_sem, u54]; omega)
              refine hJ.next hc2 hfi l4 b4 c4 (by simp [go_sem, p0, n0, nil8]) (by simp [go_sem, n1]) (by first | (simp [go_sem, eC]; done) | (simp [go_sem, eT]; done)) (((hJ.ext.set (by omega) _).new _).set (by omega) _) (by simp [go_sem]; omega) ?_
              rw [ex]
              refine hJ.rows.putNew hfi hc0 (by omega) (Nat.le_refl _) (by simp [go_sem]) (by simp [go_sem]) (fun q o hq hq' e => ?_) (by simp [go_sem, n3, n4])
              have m1 : ¬ q = H.next + 2 := by omega
              have m2 : ¬ q = H.next + 1 := by omega
              have m3 : ¬ q = H2.next := by omega
              simp [go_sem, m1, m2, m3, e]
            · have hCe : C'[fi]'hfC = .os nr c'[fi].length := by rw [List.getElem?_eq_getElem hfC] at hC; exact Option.some.inj hC
              have hfl := hJ.fl _ (List.getElem?_eq_getElem hfi)
              simp (maxSteps := 1000000) (disch := omega) [go_sem, u2, u4, u5, u7, u53, u54, p2, hCl]
              refine IWp_draw [0, 1, 2, 3, 4, 5, 6, 7, 8, 9] (by kernel_rfl) (by kernel_rfl) (fun _ _ _ _ h => h) ?_
              simp (maxSteps := 1000000) (disch := omega) [go_sem, u2, u4, u5, u7, u53, u54, p2, hCl, hCe]
              refine Z31_ok st' _ p1 (hV.of hJ.ext.sn) e4 ?_
              have n0 : ¬ H.next = nr := by omega
              have n1 : ¬ H.next + 1 = nr := by omega
              have n2 : ¬ H.next + 2 = nr := by omega
              have n3 : ¬ nr = H.next + 1 := by omega
              have n4 : ¬ nr = H.next + 2 := by omega
              simp (maxSteps := 1000000) (disch := omega) [go_sem, u2, u4, u5, u7, u53, u54, p2, hCl, hCe, setL, q4, n0, n1, n2, n3, n4]
              have eC : ∀ y : IV, List.take (fi) C' ++ y :: List.drop (fi + 1) C' = C'.set (fi) y := fun y => by rw [List.set_eq_take_append_cons_drop, if_pos hfC]
              have eT : ∀ y : IV, y :: C'.tail = C'.set 0 y := fun y => by cases C' with | nil => simp at hCl | cons a b => rfl
              have el : (c'[fi] ++ [x]).length = c'[fi].length + 1 := by simp
              refine .of hI2 hμ2 ⟨i + 1, st'', C'.set (fi) (.os nr (c'[fi].length + 1)), c'.set (fi) (c'[fi] ++ [x]), by simp [go_sem, u2], by simp [go_sem, u4], by simp [go_sem, u5], by simp [go_sem, u7], by simp [go_sem, u53], by simp [go_sem], by omega, ?_⟩ (by simp [go_sem, u54]; omega)
              have nx2 := hJ.nx
              refine hJ.next hc2 hfi l4 b4 c4 (by simp [go_sem, p0, n0, nil8]) (by simp [go_sem, n1]) (by first | (simp [go_sem, eC]; done) | (simp [go_sem, eT]; done)) (((hJ.ext.set (by omega) _).set (by omega) _).set (by omega) _) (by simp [go_sem]; omega) ?_
              rw [← el]
              refine hJ.rows.putOld hfi hC (by simp [go_sem]) (fun q o hq hq' hne e => ?_) (by simp [go_sem, n3, n4])
              have m1 : ¬ q = H.next + 2 := by omega
              have m2 : ¬ q = H.next + 1 := by omega
              simp [go_sem, m1, m2, hne, e]
          · simp (maxSteps := 1000000) (disch := omega) [go_sem, u2, u4, u5, u7, u53, u54]
            have hd := hJ.dead rfl
            have hT : conT s = none := by
              rcases hF with ⟨_, hF⟩ | ⟨h, _⟩
              · rw [← g4]; exact conS_none f k _ c h0 hF
              · rw [hb3] at h; cases h
            refine .of hI hμ ⟨st', C', c', fi + 1, f, by simp [go_sem, u2], by simp [go_sem, u4], by simp [go_sem, u5], by simp [go_sem, u7], ⟨p0, p1, p2, hJ.ext, hJ.nx, hJ.rows, hJ.c8, by have := hJ.len; have := hR.len; omega, by omega, fun h => (by rw [hd] at h; cases h), fun _ => hT⟩⟩ ?_
            rw [p1, rdM_eq, rdM_eq, hd]
            have := hJ.len
            simp; omega
      | false =>
        cases hfx : fixN nm with
        | none =>
          simp (maxSteps := 1000000) (disch := omega) [go_sem, t2, t4, t5, t6, hb3, hfx]
          refine vcLoop_mk (fun tm2 H2 => ∃ (i : Nat) (st' : S63) (C' : List IV) (c' : List (List Str)), tm2 2 = .p H.next 0 ∧ tm2 4 = .p (H.next + 1) 0 ∧ tm2 5 = .p (H.next + 2) 0 ∧ tm2 7 = .v (.int .i64 (0 : Nat)) ∧ tm2 53 = .v (.int .i64 n) ∧ tm2 54 = .v (.int .i64 i) ∧ i ≤ n ∧ InnerI H H2 true st3 c 0 n i st' C' c') (fun tm2 _ => n - (intOf (tm2 54)).toNat) (.same ?_) ?_
          · exact ⟨0, ⟨st3.fleft, true⟩, C, c, by simp [go_sem, t2], by simp [go_sem, t4], by simp [go_sem, t5], by simp [go_sem], by simp [go_sem], by simp [go_sem], by omega, mk0 true (0) (by omega) (fun h => (by cases h))⟩
          rintro I2 μ2 hI2 hμ2 tm2 H2 ⟨i, st', C', c', u2, u4, u5, u7, u53, u54, hi, hJ⟩
          have p1 := hJ.o1
          have p2 := hJ.o2
          have p0 := hJ.o0
          refine vc_sound _ (by kernel_rfl) _ _ _ ?_
          simp (maxSteps := 1000000) (disch := omega) [go_sem, u2, u4, u5, u7, u53, u54]
          refine condB ?_ ?_ <;> intro hc2 <;> (try simp at hc2)
          · obtain ⟨x, st'', e4, l4, b4, c4⟩ := Z31_ex st' (by have := hJ.len; have := hR.len; omega)
            have hCl : C'.length = 8 := by rw [hJ.rows.len, hJ.c8]
            have hfi : (0) < c'.length := by rw [hJ.c8]; omega
            have hfC : (0) < C'.length := by omega
            rcases hJ.rows.at hfi with ⟨hC, hc0⟩ | ⟨nr, q1, q2, hC, q4⟩
            · have hCe : C'[0]'hfC = .v (.slice none 0 0) := by rw [List.getElem?_eq_getElem hfC] at hC; exact Option.some.inj hC
              simp (maxSteps := 1000000) (disch := omega) [go_sem, u2, u4, u5, u7, u53, u54, p2, hCl]
              refine IWp_draw [0, 1, 2, 3, 4, 5, 6, 7, 8, 9] (by kernel_rfl) (by kernel_rfl) (fun _ _ _ _ h => h) ?_
              simp (maxSteps := 1000000) (disch := omega) [go_sem, u2, u4, u5, u7, u53, u54, p2, hCl, hCe]
              refine Z31_ok st' _ p1 (hV.of hJ.ext.sn) e4 ?_
              have nx2 := hJ.nx
              have n0 : ¬ H.next = H2.next := by omega
              have n1 : ¬ H.next + 1 = H2.next := by omega
              have n2 : ¬ H.next + 2 = H2.next := by omega
              simp (maxSteps := 1000000) (disch := omega) [go_sem, u2, u4, u5, u7, u53, u54, p2, hCl, hCe, setL, n0, n1, n2]
              have n3 : ¬ H2.next = H.next + 2 := by omega
              have n4 : ¬ H2.next = H.next + 1 := by omega
              have ex : c'.set (0) (c'[0] ++ [x]) = c'.set (0) [x] := by rw [hc0]; rfl
              have eC : ∀ y : IV, List.take (0) C' ++ y :: List.drop (0 + 1) C' = C'.set (0) y := fun y => by rw [List.set_eq_take_append_cons_drop, if_pos hfC]
              have eT : ∀ y : IV, y :: C'.tail = C'.set 0 y := fun y => by cases C' with | nil => simp at hCl | cons a b => rfl
              refine .of hI2 hμ2 ⟨i + 1, st'', C'.set (0) (.os H2.next 1), c'.set (0) (c'[0] ++ [x]), by simp [go_sem, u2], by simp [go_sem, u4], by simp [go_sem, u5], by simp [go_sem, u7], by simp [go_sem, u53], by simp [go_sem], by omega, ?_⟩ (by simp [go_sem, u54]; omega)
              refine hJ.next hc2 hfi l4 b4 c4 (by simp [go_sem, p0, n0, nil8]) (by simp [go_sem, n1]) (by first | (simp [go_sem, eC]; done) | (simp [go_sem, eT]; done)) (((hJ.ext.set (by omega) _).new _).set (by omega) _) (by simp [go_sem]; omega) ?_
              rw [ex]
              refine hJ.rows.putNew hfi hc0 (by omega) (Nat.le_refl _) (by simp [go_sem]) (by simp [go_sem]) (fun q o hq hq' e => ?_) (by simp [go_sem, n3, n4])
              have m1 : ¬ q = H.next + 2 := by omega
              have m2 : ¬ q = H.next + 1 := by omega
              have m3 : ¬ q = H2.next := by omega
              simp [go_sem, m1, m2, m3, e]
            · have hCe : C'[0]'hfC = .os nr c'[0].length := by rw [List.getElem?_eq_getElem hfC] at hC; exact Option.some.inj hC
              have hfl := hJ.fl _ (List.getElem?_eq_getElem hfi)
              simp (maxSteps := 1000000) (disch := omega) [go_sem, u2, u4, u5, u7, u53, u54, p2, hCl]
              refine IWp_draw [0, 1, 2, 3, 4, 5, 6, 7, 8, 9] (by kernel_rfl) (by kernel_rfl) (fun _ _ _ _ h => h) ?_
              simp (maxSteps := 1000000) (disch := omega) [go_sem, u2, u4, u5, u7, u53, u54, p2, hCl, hCe]
              refine Z31_ok st' _ p1 (hV.of hJ.ext.sn) e4 ?_
              have n0 : ¬ H.next = nr := by omega
              have n1 : ¬ H.next + 1 = nr := by omega
              have n2 : ¬ H.next + 2 = nr := by omega
              have n3 : ¬ nr = H.next + 1 := by omega
              have n4 : ¬ nr = H.next + 2 := by omega
              simp (maxSteps := 1000000) (disch := omega) [go_sem, u2, u4, u5, u7, u53, u54, p2, hCl, hCe, setL, q4, n0, n1, n2, n3, n4]
              have eC : ∀ y : IV, List.take (0) C' ++ y :: List.drop (0 + 1) C' = C'.set (0) y := fun y => by rw [List.set_eq_take_append_cons_drop, if_pos hfC]
              have eT : ∀ y : IV, y :: C'.tail = C'.set 0 y := fun y => by cases C' with | nil => simp at hCl | cons a b => rfl
              have el : (c'[0] ++ [x]).length = c'[0].length + 1 := by simp
              refine .of hI2 hμ2 ⟨i + 1, st'', C'.set (0) (.os nr (c'[0].length + 1)), c'.set (0) (c'[0] ++ [x]), by simp [go_sem, u2], by simp [go_sem, u4], by simp [go_sem, u5], by simp [go_sem, u7], by simp [go_sem, u53], by simp [go_sem], by omega, ?_⟩ (by simp [go_sem, u54]; omega)
              have nx2 := hJ.nx
              refine hJ.next hc2 hfi l4 b4 c4 (by simp [go_sem, p0, n0, nil8]) (by simp [go_sem, n1]) (by first | (simp [go_sem, eC]; done) | (simp [go_sem, eT]; done)) (((hJ.ext.set (by omega) _).set (by omega) _).set (by omega) _) (by simp [go_sem]; omega) ?_
              rw [← el]
              refine hJ.rows.putOld hfi hC (by simp [go_sem]) (fun q o hq hq' hne e => ?_) (by simp [go_sem, n3, n4])
              have m1 : ¬ q = H.next + 2 := by omega
              have m2 : ¬ q = H.next + 1 := by omega
              simp [go_sem, m1, m2, hne, e]
          · simp (maxSteps := 1000000) (disch := omega) [go_sem, u2, u4, u5, u7, u53, u54]
            have hd := hJ.dead rfl
            have hT : conT s = none := by
              rcases hF with ⟨h, _⟩ | ⟨_, _, hF⟩
              · rw [hb3] at h; cases h
              · rw [← g4]; exact conS_none f k _ c h0 (by rw [hF, hfx]; rfl)
            refine .of hI hμ ⟨st', C', c', 0 + 1, f, by simp [go_sem, u2], by simp [go_sem, u4], by simp [go_sem, u5], by simp [go_sem, u7], ⟨p0, p1, p2, hJ.ext, hJ.nx, hJ.rows, hJ.c8, by have := hJ.len; have := hR.len; omega, by omega, fun h => (by rw [hd] at h; cases h), fun _ => hT⟩⟩ ?_
            rw [p1, rdM_eq, rdM_eq, hd]
            have := hJ.len
            simp; omega
        | some fi =>
          have hfi8 := fixN_lt hfx
          by_cases hik : (fi : Int) ≤ (k : Int) - 1
          · simp (maxSteps := 1000000) (disch := omega) [go_sem, t2, t4, t5, t6, hb3, hfx, hik]
            refine vcLoop_mk (fun tm2 H2 => ∃ (i : Nat) (st' : S63) (C' : List IV) (c' : List (List Str)), tm2 2 = .p H.next 0 ∧ tm2 4 = .p (H.next + 1) 0 ∧ tm2 5 = .p (H.next + 2) 0 ∧ tm2 7 = .v (.int .i64 (fi : Nat)) ∧ tm2 53 = .v (.int .i64 n) ∧ tm2 54 = .v (.int .i64 i) ∧ i ≤ n ∧ InnerI H H2 true st3 c fi n i st' C' c') (fun tm2 _ => n - (intOf (tm2 54)).toNat) (.same ?_) ?_
            · exact ⟨0, ⟨st3.fleft, true⟩, C, c, by simp [go_sem, t2], by simp [go_sem, t4], by simp [go_sem, t5], by simp [go_sem], by simp [go_sem], by simp [go_sem], by omega, mk0 true (fi) (by omega) (fun h => (by cases h))⟩
            rintro I2 μ2 hI2 hμ2 tm2 H2 ⟨i, st', C', c', u2, u4, u5, u7, u53, u54, hi, hJ⟩
            have p1 := hJ.o1
            have p2 := hJ.o2
            have p0 := hJ.o0
            refine vc_sound _ (by kernel_rfl) _ _ _ ?_
            simp (maxSteps := 1000000) (disch := omega) [go_sem, u2, u4, u5, u7, u53, u54]
            refine condB ?_ ?_ <;> intro hc2 <;> (try simp at hc2)
            · obtain ⟨x, st'', e4, l4, b4, c4⟩ := Z31_ex st' (by have := hJ.len; have := hR.len; omega)
              have hCl : C'.length = 8 := by rw [hJ.rows.len, hJ.c8]
              have hfi : (fi) < c'.length := by rw [hJ.c8]; omega
              have hfC : (fi) < C'.length := by omega
              rcases hJ.rows.at hfi with ⟨hC, hc0⟩ | ⟨nr, q1, q2, hC, q4⟩
              · have hCe : C'[fi]'hfC = .v (.slice none 0 0) := by rw [List.getElem?_eq_getElem hfC] at hC; exact Option.some.inj hC
                simp (maxSteps := 1000000) (disch := omega) [go_sem, u2, u4, u5, u7, u53, u54, p2, hCl]
                refine IWp_draw [0, 1, 2, 3, 4, 5, 6, 7, 8, 9] (by kernel_rfl) (by kernel_rfl) (fun _ _ _ _ h => h) ?_
                simp (maxSteps := 1000000) (disch := omega) [go_sem, u2, u4, u5, u7, u53, u54, p2, hCl, hCe]
                refine Z31_ok st' _ p1 (hV.of hJ.ext.sn) e4 ?_
                have nx2 := hJ.nx
                have n0 : ¬ H.next = H2.next := by omega
                have n1 : ¬ H.next + 1 = H2.next := by omega
                have n2 : ¬ H.next + 2 = H2.next := by omega
                simp (maxSteps := 1000000) (disch := omega) [go_sem, u2, u4, u5, u7, u53, u54, p2, hCl, hCe, setL, n0, n1, n2]
                have n3 : ¬ H2.next = H.next + 2 := by omega
                have n4 : ¬ H2.next = H.next + 1 := by omega
                have ex : c'.set (fi) (c'[fi] ++ [x]) = c'.set (fi) [x] := by rw [hc0]; rfl
                have eC : ∀ y : IV, List.take (fi) C' ++ y :: List.drop (fi + 1) C' = C'.set (fi) y := fun y => by rw [List.set_eq_take_append_cons_drop, if_pos hfC]
                have eT : ∀ y : IV, y :: C'.tail = C'.set 0 y := fun y => by cases C' with | nil => simp at hCl | cons a b => rfl
                refine .of hI2 hμ2 ⟨i + 1, st'', C'.set (fi) (.os H2.next 1), c'.set (fi) (c'[fi] ++ [x]), by simp [go_sem, u2], by simp [go_sem, u4], by simp [go_sem, u5], by simp [go_sem, u7], by simp [go_sem, u53], by simp [go_sem], by omega, ?_⟩ (by simp [go_sem, u54]; omega)
                refine hJ.next hc2 hfi l4 b4 c4 (by simp [go_sem, p0, n0, nil8]) (by simp [go_sem, n1]) (by first | (simp [go_sem, eC]; done) | (simp [go_sem, eT]; done)) (((hJ.ext.set (by omega) _).new _).set (by omega) _) (by simp [go_sem]; omega) ?_
                rw [ex]
                refine hJ.rows.putNew hfi hc0 (by omega) (Nat.le_refl _) (by simp [go_sem]) (by simp [go_sem]) (fun q o hq hq' e => ?_) (by simp [go_sem, n3, n4])
                have m1 : ¬ q = H.next + 2 := by omega
                have m2 : ¬ q = H.next + 1 := by omega
                have m3 : ¬ q = H2.next := by omega
                simp [go_sem, m1, m2, m3, e]
              · have hCe : C'[fi]'hfC = .os nr c'[fi].length := by rw [List.getElem?_eq_getElem hfC] at hC; exact Option.some.inj hC
                have hfl := hJ.fl _ (List.getElem?_eq_getElem hfi)
                simp (maxSteps := 1000000) (disch := omega) [go_sem, u2, u4, u5, u7, u53, u54, p2, hCl]
                refine IWp_draw [0, 1, 2, 3, 4, 5, 6, 7, 8, 9] (by kernel_rfl) (by kernel_rfl) (fun _ _ _ _ h => h) ?_
                simp (maxSteps := 1000000) (disch := omega) [go_sem, u2, u4, u5, u7, u53, u54, p2, hCl, hCe]
                refine Z31_ok st' _ p1 (hV.of hJ.ext.sn) e4 ?_
                have n0 : ¬ H.next = nr := by omega
                have n1 : ¬ H.next + 1 = nr := by omega
                have n2 : ¬ H.next + 2 = nr := by omega
                have n3 : ¬ nr = H.next + 1 := by omega
                have n4 : ¬ nr = H.next + 2 := by omega
                simp (maxSteps := 1000000) (disch := omega) [go_sem, u2, u4, u5, u7, u53, u54, p2, hCl, hCe, setL, q4, n0, n1, n2, n3, n4]
                have eC : ∀ y : IV, List.take (fi) C' ++ y :: List.drop (fi + 1) C' = C'.set (fi) y := fun y => by rw [List.set_eq_take_append_cons_drop, if_pos hfC]
                have eT : ∀ y : IV, y :: C'.tail = C'.set 0 y := fun y => by cases C' with | nil => simp at hCl | cons a b => rfl
                have el : (c'[fi] ++ [x]).length = c'[fi].length + 1 := by simp
                refine .of hI2 hμ2 ⟨i + 1, st'', C'.set (fi) (.os nr (c'[fi].length + 1)), c'.set (fi) (c'[fi] ++ [x]), by simp [go_sem, u2], by simp [go_sem, u4], by simp [go_sem, u5], by simp [go_sem, u7], by simp [go_sem, u53], by simp [go_sem], by omega, ?_⟩ (by simp [go_sem, u54]; omega)
                have nx2 := hJ.nx
                refine hJ.next hc2 hfi l4 b4 c4 (by simp [go_sem, p0, n0, nil8]) (by simp [go_sem, n1]) (by first | (simp [go_sem, eC]; done) | (simp [go_sem, eT]; done)) (((hJ.ext.set (by omega) _).set (by omega) _).set (by omega) _) (by simp [go_sem]; omega) ?_
                rw [← el]
                refine hJ.rows.putOld hfi hC (by simp [go_sem]) (fun q o hq hq' hne e => ?_) (by simp [go_sem, n3, n4])
                have m1 : ¬ q = H.next + 2 := by omega
                have m2 : ¬ q = H.next + 1 := by omega
                simp [go_sem, m1, m2, hne, e]
            · simp (maxSteps := 1000000) (disch := omega) [go_sem, u2, u4, u5, u7, u53, u54]
              have hd := hJ.dead rfl
              have hT : conT s = none := by
                rcases hF with ⟨h, _⟩ | ⟨_, _, hF⟩
                · rw [hb3] at h; cases h
                · rw [← g4]; exact conS_low f k _ c h0 (by rw [hF, hfx]; rfl) (by omega)
              refine .of hI hμ ⟨st', C', c', fi + 1, f, by simp [go_sem, u2], by simp [go_sem, u4], by simp [go_sem, u5], by simp [go_sem, u7], ⟨p0, p1, p2, hJ.ext, hJ.nx, hJ.rows, hJ.c8, by have := hJ.len; have := hR.len; omega, by omega, fun h => (by rw [hd] at h; cases h), fun _ => hT⟩⟩ ?_
              rw [p1, rdM_eq, rdM_eq, hd]
              have := hJ.len
              simp; omega
          · simp (maxSteps := 1000000) (disch := omega) [go_sem, t2, t4, t5, t6, hb3, hfx, hik]
            refine vcLoop_mk (fun tm2 H2 => ∃ (i : Nat) (st' : S63) (C' : List IV) (c' : List (List Str)), tm2 2 = .p H.next 0 ∧ tm2 4 = .p (H.next + 1) 0 ∧ tm2 5 = .p (H.next + 2) 0 ∧ tm2 7 = .v (.int .i64 (fi : Nat)) ∧ tm2 53 = .v (.int .i64 n) ∧ tm2 54 = .v (.int .i64 i) ∧ i ≤ n ∧ InnerI H H2 false st3 c fi n i st' C' c') (fun tm2 _ => n - (intOf (tm2 54)).toNat) (.same ?_) ?_
            · exact ⟨0, ⟨st3.fleft, false⟩, C, c, by simp [go_sem, t2], by simp [go_sem, t4], by simp [go_sem, t5], by simp [go_sem], by simp [go_sem], by simp [go_sem], by omega, mk0 false (fi) (by omega) (fun _ => (by omega))⟩
            rintro I2 μ2 hI2 hμ2 tm2 H2 ⟨i, st', C', c', u2, u4, u5, u7, u53, u54, hi, hJ⟩
            have p1 := hJ.o1
            have p2 := hJ.o2
            have p0 := hJ.o0
            refine vc_sound _ (by kernel_rfl) _ _ _ ?_
            simp (maxSteps := 1000000) (disch := omega) [go_sem, u2, u4, u5, u7, u53, u54]
            refine condB ?_ ?_ <;> intro hc2 <;> (try simp at hc2)
            · obtain ⟨x, st'', e4, l4, b4, c4⟩ := Z31_ex st' (by have := hJ.len; have := hR.len; omega)
              have hCl : C'.length = 8 := by rw [hJ.rows.len, hJ.c8]
              have hfi : (fi) < c'.length := by rw [hJ.c8]; omega
              have hfC : (fi) < C'.length := by omega
              rcases hJ.rows.at hfi with ⟨hC, hc0⟩ | ⟨nr, q1, q2, hC, q4⟩
              · have hCe : C'[fi]'hfC = .v (.slice none 0 0) := by rw [List.getElem?_eq_getElem hfC] at hC; exact Option.some.inj hC
                simp (maxSteps := 1000000) (disch := omega) [go_sem, u2, u4, u5, u7, u53, u54, p2, hCl]
                refine IWp_draw [0, 1, 2, 3, 4, 5, 6, 7, 8, 9] (by kernel_rfl) (by kernel_rfl) (fun _ _ _ _ h => h) ?_
                simp (maxSteps := 1000000) (disch := omega) [go_sem, u2, u4, u5, u7, u53, u54, p2, hCl, hCe]
                refine Z31_ok st' _ p1 (hV.of hJ.ext.sn) e4 ?_
                have nx2 := hJ.nx
                have n0 : ¬ H.next = H2.next := by omega
                have n1 : ¬ H.next + 1 = H2.next := by omega
                have n2 : ¬ H.next + 2 = H2.next := by omega
                simp (maxSteps := 1000000) (disch := omega) [go_sem, u2, u4, u5, u7, u53, u54, p2, hCl, hCe, setL, n0, n1, n2]
                have n3 : ¬ H2.next = H.next + 2 := by omega
                have n4 : ¬ H2.next = H.next + 1 := by omega
                have ex : c'.set (fi) (c'[fi] ++ [x]) = c'.set (fi) [x] := by rw [hc0]; rfl
                have eC : ∀ y : IV, List.take (fi) C' ++ y :: List.drop (fi + 1) C' = C'.set (fi) y := fun y => by rw [List.set_eq_take_append_cons_drop, if_pos hfC]
                have eT : ∀ y : IV, y :: C'.tail = C'.set 0 y := fun y => by cases C' with | nil => simp at hCl | cons a b => rfl
                refine .of hI2 hμ2 ⟨i + 1, st'', C'.set (fi) (.os H2.next 1), c'.set (fi) (c'[fi] ++ [x]), by simp [go_sem, u2], by simp [go_sem, u4], by simp [go_sem, u5], by simp [go_sem, u7], by simp [go_sem, u53], by simp [go_sem], by omega, ?_⟩ (by simp [go_sem, u54]; omega)
                refine hJ.next hc2 hfi l4 b4 c4 (by simp [go_sem, p0, n0, nil8]) (by simp [go_sem, n1]) (by first | (simp [go_sem, eC]; done) | (simp [go_sem, eT]; done)) (((hJ.ext.set (by omega) _).new _).set (by omega) _) (by simp [go_sem]; omega) ?_
                rw [ex]
                refine hJ.rows.putNew hfi hc0 (by omega) (Nat.le_refl _) (by simp [go_sem]) (by simp [go_sem]) (fun q o hq hq' e => ?_) (by simp [go_sem, n3, n4])
                have m1 : ¬ q = H.next + 2 := by omega
                have m2 : ¬ q = H.next + 1 := by omega
                have m3 : ¬ q = H2.next := by omega
                simp [go_sem, m1, m2, m3, e]
              · have hCe : C'[fi]'hfC = .os nr c'[fi].length := by rw [List.getElem?_eq_getElem hfC] at hC; exact Option.some.inj hC
                have hfl := hJ.fl _ (List.getElem?_eq_getElem hfi)
                simp (maxSteps := 1000000) (disch := omega) [go_sem, u2, u4, u5, u7, u53, u54, p2, hCl]
                refine IWp_draw [0, 1, 2, 3, 4, 5, 6, 7, 8, 9] (by kernel_rfl) (by kernel_rfl) (fun _ _ _ _ h => h) ?_
                simp (maxSteps := 1000000) (disch := omega) [go_sem, u2, u4, u5, u7, u53, u54, p2, hCl, hCe]
                refine Z31_ok st' _ p1 (hV.of hJ.ext.sn) e4 ?_
                have n0 : ¬ H.next = nr := by omega
                have n1 : ¬ H.next + 1 = nr := by omega
                have n2 : ¬ H.next + 2 = nr := by omega
                have n3 : ¬ nr = H.next + 1 := by omega
                have n4 : ¬ nr = H.next + 2 := by omega
                simp (maxSteps := 1000000) (disch := omega) [go_sem, u2, u4, u5, u7, u53, u54, p2, hCl, hCe, setL, q4, n0, n1, n2, n3, n4]
                have eC : ∀ y : IV, List.take (fi) C' ++ y :: List.drop (fi + 1) C' = C'.set (fi) y := fun y => by rw [List.set_eq_take_append_cons_drop, if_pos hfC]
                have eT : ∀ y : IV, y :: C'.tail = C'.set 0 y := fun y => by cases C' with | nil => simp at hCl | cons a b => rfl
                have el : (c'[fi] ++ [x]).length = c'[fi].length + 1 := by simp
                refine .of hI2 hμ2 ⟨i + 1, st'', C'.set (fi) (.os nr (c'[fi].length + 1)), c'.set (fi) (c'[fi] ++ [x]), by simp [go_sem, u2], by simp [go_sem, u4], by simp [go_sem, u5], by simp [go_sem, u7], by simp [go_sem, u53], by simp [go_sem], by omega, ?_⟩ (by simp [go_sem, u54]; omega)
                have nx2 := hJ.nx
                refine hJ.next hc2 hfi l4 b4 c4 (by simp [go_sem, p0, n0, nil8]) (by simp [go_sem, n1]) (by first | (simp [go_sem, eC]; done) | (simp [go_sem, eT]; done)) (((hJ.ext.set (by omega) _).set (by omega) _).set (by omega) _) (by simp [go_sem]; omega) ?_
                rw [← el]
                refine hJ.rows.putOld hfi hC (by simp [go_sem]) (fun q o hq hq' hne e => ?_) (by simp [go_sem, n3, n4])
                have m1 : ¬ q = H.next + 2 := by omega
                have m2 : ¬ q = H.next + 1 := by omega
                simp [go_sem, m1, m2, hne, e]
            · simp (maxSteps := 1000000) (disch := omega) [go_sem, u2, u4, u5, u7, u53, u54]
              have e0 : n - i = 0 := by omega
              rcases hJ.good rfl with ⟨hd, hT0⟩ | ⟨hd, acc, rfl, ha, hav, hT0⟩
              · have hT : conT s = none := by
                  rcases hF with ⟨h, _⟩ | ⟨_, _, hF⟩
                  · rw [hb3] at h; cases h
                  · rw [← g4]; exact conS_none f k _ c h0 (by rw [hF, hfx, Option.bind_some, hT0]; rfl)
                refine .of hI hμ ⟨st', C', c', fi + 1, f, by simp [go_sem, u2], by simp [go_sem, u4], by simp [go_sem, u5], by simp [go_sem, u7], ⟨p0, p1, p2, hJ.ext, hJ.nx, hJ.rows, hJ.c8, by have := hJ.len; have := hR.len; omega, by omega, fun h => (by rw [hd] at h; cases h), fun _ => hT⟩⟩ ?_
                rw [p1, rdM_eq, rdM_eq, hd]
                have := hJ.len
                simp; omega
              · rcases hF with ⟨h, _⟩ | ⟨_, hlt, hF⟩
                · rw [hb3] at h; cases h
                · rw [e0] at hT0
                  have hF' : fldS st.fleft.fs = some (fi, acc, st'.fleft.fs) := by rw [hF, hfx, Option.bind_some, hT0]; simp [valsM]
                  have hle := hJ.len
                  obtain ⟨f', rfl⟩ : ∃ f', f = f' + 1 := ⟨f - 1, by have : 0 < st.fleft.fs.length := List.length_pos_iff.2 h0; omega⟩
                  have hcon : conS f' (fi + 1) st'.fleft.fs (c.set fi acc) = conT s := by
                    rw [← g4]
                    exact (conS_step f' k _ c h0 hF' (by omega)).symm
                  refine .of hI hμ ⟨st', C', c.set fi acc, fi + 1, f', by simp [go_sem, u2], by simp [go_sem, u4], by simp [go_sem, u5], by simp [go_sem, u7], ⟨p0, p1, p2, hJ.ext, hJ.nx, hJ.rows, hJ.c8, by have := hR.len; omega, by omega, fun _ => ⟨by omega, ⟨hJ.c8, ?_⟩, fun j hj => ?_, hcon⟩, fun h => (by rw [hd] at h; cases h)⟩⟩ ?_
                  · intro l hl
                    rcases List.mem_or_eq_of_mem_set hl with hl | rfl
                    · exact g2.2 l hl
                    · exact ⟨by omega, fun v hv => by have := hav v hv; omega⟩
                  · have := g3 j (by omega)
                    rw [List.getD_eq_getElem?_getD] at this ⊢
                    rw [List.getElem?_set_ne (by omega)]
                    exact this
                  · rw [p1, rdM_eq, rdM_eq, hd]
                    simp; omega

end Go.Idl

namespace Go.Idl

open Go Go.Proofs.Tryz Go.RowKit

variable {H : IHeap} {K : IEnd → IHeap → Prop}

noncomputable def ZR (s : List UInt8) : Option (List (List (List UInt8)) × Int) := gd ((s.length : Int) ≤ 1000000000) (some (conR s))

theorem ZR_ok (s : List UInt8) (hV : VOK prog H) {r : List (List (List UInt8)) × Int} (h : ZR s = some r) (hK : K (.ret (.tu [cS r.1, .v (.int .i64 r.2)])) H) : ICalls prog 10 [.v (str s)] H K := by
  obtain ⟨h0, h⟩ := gd_some.1 h
  cases h
  exact read10 s (by omega) hV hK

end Go.Idl

namespace Go.Idl

open Go Go.Proofs.Tryz

/-! cardcase/cardcaselaw16.ContactTexts -/

noncomputable def Y3 (a0 : List (List (List UInt8))) : Option Bool :=
  gd (a0.length = 8) ((F6 a0).bind fun (x5 : Bool) => if ¬ (x5 = true) then ((ZK ).bind fun (x8 : Bool) => some x8) else ((ZT a0).bind fun (x10 : (List UInt8) × Int) => (F10 a0).bind fun (x13 : Bool) => if ¬ (x13 = true) then (if x10.1 = [] then (if x10.2 = 2 then ((ZC a0).bind fun (x16 : Int) => if x16 = 2 then ((ZK ).bind fun (x17 : Bool) => some x17) else (some false)) else (some false)) else (some false)) else ((ZR x10.1).bind fun (x22 : (List (List (List UInt8))) × Int) => gd (x22.1.length = 8) (if x10.2 = 0 then ((ZC a0).bind fun (x25 : Int) => if x25 = 0 then ((Z11 a0).bind fun (x26 : (List UInt8)) => if x10.1 = x26 then (if x22.2 = 0 then ((F11 x22.1 a0).bind fun (x27 : Bool) => if x27 = true then ((ZK ).bind fun (x28 : Bool) => some x28) else (some false)) else (some false)) else (some false)) else (some false)) else (some false)))))

set_option maxHeartbeats 8000000 in
set_option pp.deepTerms false in
set_option maxRecDepth 60000 in
theorem Y3_ok {H : IHeap} {K : IEnd → IHeap → Prop} (a0 : List (List (List UInt8))) (hV : VOK prog H) {r : Bool} (h : Y3 a0 = some r) (hK : K (.ret (.v (.bool r))) H) : ICalls prog 3 [.ag (a0.map fun x => .sl 1 (x.map fun x => [.v (str x)]))] H K := by
  refine ICalls_iwp (N := 63) func3 (by kernel_rfl) rfl (by kernel_rfl) (by kernel_rfl) fun cb hcb hw hbd hnb => ?_
  clear hbd hnb
  subst hcb
  unfold Y3 at h
  refine IWp_seqF fun cb hc1 => ?_
  refine vcK ?_
  try simp -implicitDefEqProofs (maxSteps := 1000000) (disch := omega) [go_sem]
  subst hc1
  refine IWp_seqF fun cb hc2 => ?_
  refine IWp_seqF fun cb hc3 => ?_
  refine vcK ?_
  obtain ⟨g4, h⟩ := gd_some.1 h
  try simp -implicitDefEqProofs (disch := omega) at g4
  try simp -implicitDefEqProofs (maxSteps := 1000000) (disch := omega) [go_sem, g4]
  obtain ⟨x5, hx5, h⟩ := bind_some' h
  refine ICalls.eqA (args' := [.ag (a0.map fun x => .sl 1 (x.map fun x => [.v (str x)]))]) (by first | with_reducible rfl | (simp -implicitDefEqProofs (maxSteps := 1000000) (disch := omega) [go_sem, g4] <;> omega)) (F6_ok a0 hx5 ?_)
  try simp -implicitDefEqProofs (maxSteps := 1000000) (disch := omega) [go_sem, g4]
  subst hc3
  refine IWp_cond_i h (by first | with_reducible rfl | (simp -implicitDefEqProofs (maxSteps := 1000000) (disch := omega) [go_sem, g4] <;> omega)) rfl ?_ ?_
  · intro c6 h
    try simp -implicitDefEqProofs (disch := omega) at c6
    refine IWp_seqF fun cb hc7 => ?_
    refine vcK ?_
    try simp -implicitDefEqProofs (maxSteps := 1000000) (disch := omega) [go_sem, g4]
    obtain ⟨x8, hx8, h⟩ := bind_some' h
    refine ICalls.eqA (args' := []) (by first | with_reducible rfl | (simp -implicitDefEqProofs (maxSteps := 1000000) (disch := omega) [go_sem, g4] <;> omega)) (ZK_ok  hx8 ?_)
    try simp -implicitDefEqProofs (maxSteps := 1000000) (disch := omega) [go_sem, g4]
    subst hc7
    refine vcK ?_
    simp -implicitDefEqProofs only [go_sem]
    have er := Option.some.inj h
    subst er
    try simp -implicitDefEqProofs (maxSteps := 1000000) (disch := omega) [go_sem, g4]
    refine retG_pureA (Ext.refl hw) hK (e := by first | with_reducible rfl | (simp -implicitDefEqProofs (maxSteps := 1000000) (disch := omega) [go_sem, g4] <;> omega))
  · intro c6 h
    try simp -implicitDefEqProofs (disch := omega) at c6
    refine vcK ?_
    simp -implicitDefEqProofs only [go_sem]
    subst hc2
    refine IWp_seqF fun cb hc9 => ?_
    refine vcK ?_
    try simp -implicitDefEqProofs (maxSteps := 1000000) (disch := omega) [go_sem, g4]
    obtain ⟨x10, hx10, h⟩ := bind_some' h
    refine ICalls.eqA (args' := [.ag (a0.map fun x => .sl 1 (x.map fun x => [.v (str x)]))]) (by first | with_reducible rfl | (simp -implicitDefEqProofs (maxSteps := 1000000) (disch := omega) [go_sem, g4] <;> omega)) (ZT_ok a0 (by first | exact hV.of rfl | exact hV.of ((Ext.refl hw)).sn) hx10 ?_)
    try simp -implicitDefEqProofs (maxSteps := 1000000) (disch := omega) [go_sem, g4]
    subst hc9
    refine IWp_seqF fun cb hc11 => ?_
    refine IWp_seqF fun cb hc12 => ?_
    refine vcK ?_
    try simp -implicitDefEqProofs (maxSteps := 1000000) (disch := omega) [go_sem, g4]
    obtain ⟨x13, hx13, h⟩ := bind_some' h
    refine ICalls.eqA (args' := [.ag (a0.map fun x => .sl 1 (x.map fun x => [.v (str x)]))]) (by first | with_reducible rfl | (simp -implicitDefEqProofs (maxSteps := 1000000) (disch := omega) [go_sem, g4] <;> omega)) (F10_ok a0 hx13 ?_)
    try simp -implicitDefEqProofs (maxSteps := 1000000) (disch := omega) [go_sem, g4]
    subst hc12
    refine IWp_cond_i h (by first | with_reducible rfl | (simp -implicitDefEqProofs (maxSteps := 1000000) (disch := omega) [go_sem, g4] <;> omega)) rfl ?_ ?_
    · intro c14 h
      try simp -implicitDefEqProofs (disch := omega) at c14
      refine IWp_seqF fun cb hc15 => ?_
      refine vcK ?_
      try simp -implicitDefEqProofs (maxSteps := 1000000) (disch := omega) [go_sem, g4]
      refine splitG_f h (by first | with_reducible rfl | (simp -implicitDefEqProofs (maxSteps := 1000000) (disch := omega) [go_sem, g4] <;> omega)) ?_ ?_
      · intro c20 h
        try simp -implicitDefEqProofs (disch := omega) at c20
        try simp -implicitDefEqProofs (maxSteps := 1000000) (disch := omega) [go_sem, g4]
        refine splitG_f h (by first | with_reducible rfl | (simp -implicitDefEqProofs (maxSteps := 1000000) (disch := omega) [go_sem, g4] <;> omega)) ?_ ?_
        · intro c19 h
          try simp -implicitDefEqProofs (disch := omega) at c19
          try simp -implicitDefEqProofs (maxSteps := 1000000) (disch := omega) [go_sem, g4]
          obtain ⟨x16, hx16, h⟩ := bind_some' h
          refine ICalls.eqA (args' := [.ag (a0.map fun x => .sl 1 (x.map fun x => [.v (str x)]))]) (by first | with_reducible rfl | (simp -implicitDefEqProofs (maxSteps := 1000000) (disch := omega) [go_sem, g4] <;> omega)) (ZC_ok a0 hx16 ?_)
          try simp -implicitDefEqProofs (maxSteps := 1000000) (disch := omega) [go_sem, g4]
          refine splitG_f h (by first | with_reducible rfl | (simp -implicitDefEqProofs (maxSteps := 1000000) (disch := omega) [go_sem, g4] <;> omega)) ?_ ?_
          · intro c18 h
            try simp -implicitDefEqProofs (disch := omega) at c18
            try simp -implicitDefEqProofs (maxSteps := 1000000) (disch := omega) [go_sem, g4]
            obtain ⟨x17, hx17, h⟩ := bind_some' h
            refine ICalls.eqA (args' := []) (by first | with_reducible rfl | (simp -implicitDefEqProofs (maxSteps := 1000000) (disch := omega) [go_sem, g4] <;> omega)) (ZK_ok  hx17 ?_)
            try simp -implicitDefEqProofs (maxSteps := 1000000) (disch := omega) [go_sem, g4]
            subst hc15
            refine vcK ?_
            simp -implicitDefEqProofs only [go_sem]
            have er := Option.some.inj h
            subst er
            try simp -implicitDefEqProofs (maxSteps := 1000000) (disch := omega) [go_sem, g4]
            refine retG_pureA (Ext.refl hw) hK (e := by first | with_reducible rfl | (simp -implicitDefEqProofs (maxSteps := 1000000) (disch := omega) [go_sem, g4] <;> omega))
          · intro c18 h
            try simp -implicitDefEqProofs (disch := omega) at c18
            try simp -implicitDefEqProofs (maxSteps := 1000000) (disch := omega) [go_sem, g4]
            subst hc15
            refine vcK ?_
            simp -implicitDefEqProofs only [go_sem]
            have er := Option.some.inj h
            subst er
            try simp -implicitDefEqProofs (maxSteps := 1000000) (disch := omega) [go_sem, g4]
            refine retG_pureA (Ext.refl hw) hK (e := by first | with_reducible rfl | (simp -implicitDefEqProofs (maxSteps := 1000000) (disch := omega) [go_sem, g4] <;> omega))
        · intro c19 h
          try simp -implicitDefEqProofs (disch := omega) at c19
          try simp -implicitDefEqProofs (maxSteps := 1000000) (disch := omega) [go_sem, g4]
          subst hc15
          refine vcK ?_
          simp -implicitDefEqProofs only [go_sem]
          have er := Option.some.inj h
          subst er
          try simp -implicitDefEqProofs (maxSteps := 1000000) (disch := omega) [go_sem, g4]
          refine retG_pureA (Ext.refl hw) hK (e := by first | with_reducible rfl | (simp -implicitDefEqProofs (maxSteps := 1000000) (disch := omega) [go_sem, g4] <;> omega))
      · intro c20 h
        try simp -implicitDefEqProofs (disch := omega) at c20
        try simp -implicitDefEqProofs (maxSteps := 1000000) (disch := omega) [go_sem, g4]
        subst hc15
        refine vcK ?_
        simp -implicitDefEqProofs only [go_sem]
        have er := Option.some.inj h
        subst er
        try simp -implicitDefEqProofs (maxSteps := 1000000) (disch := omega) [go_sem, g4]
        refine retG_pureA (Ext.refl hw) hK (e := by first | with_reducible rfl | (simp -implicitDefEqProofs (maxSteps := 1000000) (disch := omega) [go_sem, g4] <;> omega))
    · intro c14 h
      try simp -implicitDefEqProofs (disch := omega) at c14
      refine vcK ?_
      simp -implicitDefEqProofs only [go_sem]
      subst hc11
      refine IWp_seqF fun cb hc21 => ?_
      refine vcK ?_
      try simp -implicitDefEqProofs (maxSteps := 1000000) (disch := omega) [go_sem, g4]
      obtain ⟨x22, hx22, h⟩ := bind_some' h
      refine ICalls.eqA (args' := [.v (str x10.1)]) (by first | with_reducible rfl | (simp -implicitDefEqProofs (maxSteps := 1000000) (disch := omega) [go_sem, g4] <;> omega)) (ZR_ok x10.1 (by first | exact hV.of rfl | exact hV.of ((Ext.refl hw)).sn) hx22 ?_)
      obtain ⟨g23, h⟩ := gd_some.1 h
      try simp -implicitDefEqProofs (disch := omega) at g23
      try simp -implicitDefEqProofs (maxSteps := 1000000) (disch := omega) [go_sem, g4, g23]
      subst hc21
      refine IWp_seqF fun cb hc24 => ?_
      refine vcK ?_
      try simp -implicitDefEqProofs (maxSteps := 1000000) (disch := omega) [go_sem, g4, g23]
      refine splitG_f h (by first | with_reducible rfl | (simp -implicitDefEqProofs (maxSteps := 1000000) (disch := omega) [go_sem, g4, g23] <;> omega)) ?_ ?_
      · intro c33 h
        try simp -implicitDefEqProofs (disch := omega) at c33
        try simp -implicitDefEqProofs (maxSteps := 1000000) (disch := omega) [go_sem, g4, g23]
        obtain ⟨x25, hx25, h⟩ := bind_some' h
        refine ICalls.eqA (args' := [.ag (a0.map fun x => .sl 1 (x.map fun x => [.v (str x)]))]) (by first | with_reducible rfl | (simp -implicitDefEqProofs (maxSteps := 1000000) (disch := omega) [go_sem, g4, g23] <;> omega)) (ZC_ok a0 hx25 ?_)
        try simp -implicitDefEqProofs (maxSteps := 1000000) (disch := omega) [go_sem, g4, g23]
        refine splitG_f h (by first | with_reducible rfl | (simp -implicitDefEqProofs (maxSteps := 1000000) (disch := omega) [go_sem, g4, g23] <;> omega)) ?_ ?_
        · intro c32 h
          try simp -implicitDefEqProofs (disch := omega) at c32
          try simp -implicitDefEqProofs (maxSteps := 1000000) (disch := omega) [go_sem, g4, g23]
          obtain ⟨x26, hx26, h⟩ := bind_some' h
          refine ICalls.eqA (args' := [.ag (a0.map fun x => .sl 1 (x.map fun x => [.v (str x)]))]) (by first | with_reducible rfl | (simp -implicitDefEqProofs (maxSteps := 1000000) (disch := omega) [go_sem, g4, g23] <;> omega)) (Z11_ok a0 hx26 ?_)
          try simp -implicitDefEqProofs (maxSteps := 1000000) (disch := omega) [go_sem, g4, g23]
          refine splitG_f h (by first | with_reducible rfl | (simp -implicitDefEqProofs (maxSteps := 1000000) (disch := omega) [go_sem, g4, g23] <;> omega)) ?_ ?_
          · intro c31 h
            try simp -implicitDefEqProofs (disch := omega) at c31
            try simp -implicitDefEqProofs (maxSteps := 1000000) (disch := omega) [go_sem, g4, g23]
            refine splitG_f h (by first | with_reducible rfl | (simp -implicitDefEqProofs (maxSteps := 1000000) (disch := omega) [go_sem, g4, g23] <;> omega)) ?_ ?_
            · intro c30 h
              try simp -implicitDefEqProofs (disch := omega) at c30
              try simp -implicitDefEqProofs (maxSteps := 1000000) (disch := omega) [go_sem, g4, g23]
              obtain ⟨x27, hx27, h⟩ := bind_some' h
              refine ICalls.eqA (args' := [.ag (x22.1.map fun x => .sl 1 (x.map fun x => [.v (str x)])), .ag (a0.map fun x => .sl 1 (x.map fun x => [.v (str x)]))]) (by first | with_reducible rfl | (simp -implicitDefEqProofs (maxSteps := 1000000) (disch := omega) [go_sem, g4, g23] <;> omega)) (F11_ok x22.1 a0 hx27 ?_)
              try simp -implicitDefEqProofs (maxSteps := 1000000) (disch := omega) [go_sem, g4, g23]
              refine splitG_f h (by first | with_reducible rfl | (simp -implicitDefEqProofs (maxSteps := 1000000) (disch := omega) [go_sem, g4, g23] <;> omega)) ?_ ?_
              · intro c29 h
                try simp -implicitDefEqProofs (disch := omega) at c29
                try simp -implicitDefEqProofs (maxSteps := 1000000) (disch := omega) [go_sem, g4, g23]
                obtain ⟨x28, hx28, h⟩ := bind_some' h
                refine ICalls.eqA (args' := []) (by first | with_reducible rfl | (simp -implicitDefEqProofs (maxSteps := 1000000) (disch := omega) [go_sem, g4, g23] <;> omega)) (ZK_ok  hx28 ?_)
                try simp -implicitDefEqProofs (maxSteps := 1000000) (disch := omega) [go_sem, g4, g23]
                subst hc24
                refine vcK ?_
                simp -implicitDefEqProofs only [go_sem]
                have er := Option.some.inj h
                subst er
                try simp -implicitDefEqProofs (maxSteps := 1000000) (disch := omega) [go_sem, g4, g23]
                refine retG_pureA (Ext.refl hw) hK (e := by first | with_reducible rfl | (simp -implicitDefEqProofs (maxSteps := 1000000) (disch := omega) [go_sem, g4, g23] <;> omega))
              · intro c29 h
                try simp -implicitDefEqProofs (disch := omega) at c29
                try simp -implicitDefEqProofs (maxSteps := 1000000) (disch := omega) [go_sem, g4, g23]
                subst hc24
                refine vcK ?_
                simp -implicitDefEqProofs only [go_sem]
                have er := Option.some.inj h
                subst er
                try simp -implicitDefEqProofs (maxSteps := 1000000) (disch := omega) [go_sem, g4, g23]
                refine retG_pureA (Ext.refl hw) hK (e := by first | with_reducible rfl | (simp -implicitDefEqProofs (maxSteps := 1000000) (disch := omega) [go_sem, g4, g23] <;> omega))
            · intro c30 h
              try simp -implicitDefEqProofs (disch := omega) at c30
              try simp -implicitDefEqProofs (maxSteps := 1000000) (disch := omega) [go_sem, g4, g23]
              subst hc24
              refine vcK ?_
              simp -implicitDefEqProofs only [go_sem]
              have er := Option.some.inj h
              subst er
              try simp -implicitDefEqProofs (maxSteps := 1000000) (disch := omega) [go_sem, g4, g23]
              refine retG_pureA (Ext.refl hw) hK (e := by first | with_reducible rfl | (simp -implicitDefEqProofs (maxSteps := 1000000) (disch := omega) [go_sem, g4, g23] <;> omega))
          · intro c31 h
            try simp -implicitDefEqProofs (disch := omega) at c31
            try simp -implicitDefEqProofs (maxSteps := 1000000) (disch := omega) [go_sem, g4, g23]
            subst hc24
            refine vcK ?_
            simp -implicitDefEqProofs only [go_sem]
            have er := Option.some.inj h
            subst er
            try simp -implicitDefEqProofs (maxSteps := 1000000) (disch := omega) [go_sem, g4, g23]
            refine retG_pureA (Ext.refl hw) hK (e := by first | with_reducible rfl | (simp -implicitDefEqProofs (maxSteps := 1000000) (disch := omega) [go_sem, g4, g23] <;> omega))
        · intro c32 h
          try simp -implicitDefEqProofs (disch := omega) at c32
          try simp -implicitDefEqProofs (maxSteps := 1000000) (disch := omega) [go_sem, g4, g23]
          subst hc24
          refine vcK ?_
          simp -implicitDefEqProofs only [go_sem]
          have er := Option.some.inj h
          subst er
          try simp -implicitDefEqProofs (maxSteps := 1000000) (disch := omega) [go_sem, g4, g23]
          refine retG_pureA (Ext.refl hw) hK (e := by first | with_reducible rfl | (simp -implicitDefEqProofs (maxSteps := 1000000) (disch := omega) [go_sem, g4, g23] <;> omega))
      · intro c33 h
        try simp -implicitDefEqProofs (disch := omega) at c33
        try simp -implicitDefEqProofs (maxSteps := 1000000) (disch := omega) [go_sem, g4, g23]
        subst hc24
        refine vcK ?_
        simp -implicitDefEqProofs only [go_sem]
        have er := Option.some.inj h
        subst er
        try simp -implicitDefEqProofs (maxSteps := 1000000) (disch := omega) [go_sem, g4, g23]
        refine retG_pureA (Ext.refl hw) hK (e := by first | with_reducible rfl | (simp -implicitDefEqProofs (maxSteps := 1000000) (disch := omega) [go_sem, g4, g23] <;> omega))

end Go.Idl

namespace Go.Idl

open Go Go.Lib

theorem valC_len (v : Str) : (valC v).length ≤ 2 * v.length + 3 := by
  have := dec_lenG v.length
  simp only [valC, List.length_append, List.length_cons, List.length_nil]
  omega

theorem valsC_len (l : List Str) (h : ∀ s, s ∈ l → s.length ≤ 100000) : (l.flatMap valC).length ≤ l.length * 200003 := by
  induction l with
  | nil => simp
  | cons s l ih =>
    have h1 := h s (by simp)
    have h2 := ih fun s hs => h s (by simp [hs])
    have h3 := valC_len s
    simp only [List.flatMap_cons, List.length_append, List.length_cons]
    omega

theorem namesC_len (i : Nat) : (namesC.getD i []).length ≤ 10 := by
  match i with
  | 0 | 1 | 2 | 3 | 4 | 5 | 6 | 7 => simp [namesC]
  | i + 8 => simp [namesC]

theorem Z11_inner (c : List (List Str)) (hc : c.length = 8) (i : Nat) (hi : i < c.length) (hv : c[i].length ≤ 1000) (hvv : ∀ v, v ∈ c[i] → v.length ≤ 100000) : ∀ (k j : Nat) (s : Str), j + k = c[i].length → s.length + k * 200003 ≤ 100000000000 →
    loopO (fun v : (List UInt8) × Int => Z11_b17 c (i : Int) v.1 v.2) (s, (j : Int)) = some (s ++ (c[i].drop j).flatMap valC)
  | 0, j, s, h, hs => by
    refine loopO_done ?_
    show Z11_b17 c (i : Int) s (j : Int) = _
    unfold Z11_b17
    rw [gd_pos (by omega), gd_pos hc, Int.toNat_natCast, getD_someZ hi, if_neg (by omega), List.drop_of_length_le (by omega)]
    simp
  | k + 1, j, s, h, hs => by
    have hj : j < c[i].length := by omega
    have hl := hvv _ (List.getElem_mem hj)
    have hd := dec_lenG c[i][j].length
    have hvl := valC_len c[i][j]
    rw [loopO_more (s' := (s ++ valC c[i][j], ((j + 1 : Nat) : Int))), Z11_inner c hc i hi hv hvv k (j + 1) _ (by omega) (by rw [List.length_append]; omega)]
    · rw [List.drop_eq_getElem_cons hj, List.flatMap_cons, List.append_assoc]
    · show Z11_b17 c (i : Int) s (j : Int) = _
      unfold Z11_b17
      rw [gd_pos (by omega), gd_pos hc, Int.toNat_natCast, getD_someZ hi, if_pos (by omega), gd_pos (by omega), Int.toNat_natCast, getD_someZ hj, Z33_eq _ (by omega)]
      simp only [Option.bind_some]
      rw [gd_pos (by omega), gd_pos (by simp only [List.length_append, List.length_cons, List.length_nil]; omega), gd_pos (by simp only [List.length_append, List.length_cons, List.length_nil]; omega), gd_pos (by simp only [List.length_append, List.length_cons, List.length_nil]; omega), wrap_nat (by omega)]
      simp [valC]

theorem add_bnd {a b : Nat} (h1 : a ≤ 10000000000) (h2 : b ≤ 1000) : a + b * 200003 ≤ 100000000000 := by omega

set_option maxRecDepth 8000 in
theorem Z11_outer (c : List (List Str)) (h : tinyC c) : ∀ (k i : Nat) (s : Str), i + k = 8 → s.length + k * 300000000 ≤ 10000000000 →
    loopO (fun v : (List UInt8) × Int => Z11_b5 c v.1 v.2) (s, (i : Int)) = some (s ++ textC c k i)
  | 0, i, s, hk, hs => by
    refine loopO_done ?_
    show Z11_b5 c s (i : Int) = _
    unfold Z11_b5
    rw [if_neg (by omega)]
    simp [textC]
  | k + 1, i, s, hk, hs => by
    have hi : i < c.length := by rw [h.1]; omega
    have hm := List.getElem_mem hi
    have h1 := (h.2 _ hm).1
    have h2 := (h.2 _ hm).2
    have h3 := valsC_len c[i] h2
    have h4 := dec_lenG c[i].length
    have h5 := namesC_len i
    have h6 : namesC.length = 8 := rfl
    have hg : c.getD i [] = c[i] := getD_someZ hi
    have hsb : s.length ≤ 10000000000 := by omega
    have hq2 : s.length + c[i].length * 200003 ≤ 100000000000 := add_bnd hsb h1
    have hfl : (fieldC i c[i]).length ≤ 300000000 := by
      unfold fieldC
      split
      · simp only [List.nil_append]; omega
      · simp only [List.length_append, List.length_cons, List.length_nil]; omega
    rw [loopO_more (s' := (s ++ fieldC i c[i], ((i + 1 : Nat) : Int))), Z11_outer c h k (i + 1) _ (by omega) (by rw [List.length_append]; omega)]
    · rw [textC, hg, List.append_assoc]
    · show Z11_b5 c s (i : Int) = _
      unfold Z11_b5
      rw [if_pos (by omega), gd_pos (by omega), gd_pos h.1, Int.toNat_natCast, hg]
      by_cases hz : c[i] = []
      · rw [if_neg (by rw [hz]; simp)]
        unfold Z11_k14
        have := Z11_inner c h.1 i hi h1 h2 c[i].length 0 s (Nat.zero_add _) hq2
        rw [show ((0 : Nat) : Int) = 0 from rfl, List.drop_zero] at this
        rw [this]
        simp only [Option.bind_some, Z11_k17]
        rw [wrap_nat (by omega)]
        simp [fieldC, hz]
      · have hp : 0 < c[i].length := List.length_pos_iff.2 hz
        rw [if_pos (by omega)]
        have e32 : Z32 = some namesC := rfl
        rw [e32]
        simp only [Option.bind_some]
        rw [gd_pos (by omega), gd_pos (by omega), gd_pos (by simp only [List.length_append, List.length_cons, List.length_nil]; omega), Z33_eq _ (by omega)]
        simp only [Option.bind_some]
        rw [gd_pos (by simp only [List.length_append, List.length_cons, List.length_nil]; omega), gd_pos (by simp only [List.length_append, List.length_cons, List.length_nil]; omega)]
        unfold Z11_k14
        have := Z11_inner c h.1 i hi h1 h2 c[i].length 0 (s ++ namesC.getD i [] ++ [32] ++ decDigits c[i].length ++ [10]) (by omega) (by simp only [List.length_append, List.length_cons, List.length_nil]; omega)
        rw [show ((0 : Nat) : Int) = 0 from rfl, List.drop_zero] at this
        rw [this]
        simp only [Option.bind_some, Z11_k17]
        rw [wrap_nat (by omega)]
        simp [fieldC, hz]

theorem fieldT_C (i : Nat) (l : List Str) : fieldT i l = fieldC i l := rfl

theorem textS_C (c : List (List Str)) (hc : c.length = 8) : textS c = textC c 8 0 := by
  match c, hc with
  | [a, b, d, e, f, g, h, i], _ => simp [textS, textC, fieldT_C, List.zipIdx]

theorem Z11_eq (c : List (List Str)) (h : tinyC c) : Z11 c = some (textS c) := by
  unfold Z11
  have := Z11_outer c h 8 0 [] (by omega) (by simp)
  rw [show ((0 : Nat) : Int) = 0 from rfl] at this
  rw [this, textS_C c h.1]
  simp [Z11_k5]

theorem check_vals {c : List (List Str)} (hc : c.length = 8) (h : checkS c = true) : (∀ l, l ∈ c → l.length ≤ 8) ∧ (∀ l, l ∈ c → ∀ v, v ∈ l → 1 ≤ v.length ∧ v.length ≤ 200) ∧ (c.getD 0 []).length = 1 := by
  have hi := (check_iff c hc).1 h
  have hv : ∀ l, l ∈ c → l.length ≤ 8 ∧ ∀ v, v ∈ l → 1 ≤ v.length ∧ v.length ≤ 200 := by
    intro l hl
    obtain ⟨i, h1, rfl⟩ := List.getElem_of_mem hl
    have := hi i h1
    unfold valuesR fieldOk at this
    simp only [Bool.and_eq_true, decide_eq_true_eq, Bool.not_eq_true', List.any_eq_false] at this
    refine ⟨?_, fun v hv => ?_⟩
    · have := this.1.1.1
      unfold mostS at this
      split at this <;> omega
    · have := this.1.1.2 v hv
      simp [valueS] at this
      exact ⟨by have := this.2.1; cases v with | nil => simp at * | cons a b => simp, this.2.2⟩
  refine ⟨fun l hl => (hv l hl).1, fun l hl => (hv l hl).2, ?_⟩
  unfold checkS at h
  simp only [Bool.and_eq_true, decide_eq_true_eq] at h
  exact h.2

theorem conT_text (c : List (List Str)) (hc : c.length = 8) (h : checkS c = true) : conT (textS c) = some c := by
  obtain ⟨h1, h2, h3⟩ := check_vals hc h
  unfold conT
  rw [textS_C c hc]
  refine conS_textC c hc h1 h2 8 0 _ 0 emptyC (by omega) ?_ (Nat.le_refl _) (by simp [emptyC]) (fun j hj => by omega) (fun j _ => ?_)
  · have hg : ∃ v, c.getD 0 [] = [v] := by
      match hq : c.getD 0 [], h3 with
      | [v], _ => exact ⟨v, rfl⟩
    obtain ⟨v, hv⟩ := hg
    have e : textC c 8 0 = fieldC 0 [v] ++ textC c 7 1 := by rw [textC, hv]
    have hd : 0 < (decDigits 1).length := List.length_pos_iff.2 (dec_ne 1)
    have hd2 : 0 < (decDigits v.length).length := List.length_pos_iff.2 (dec_ne _)
    rw [e]
    simp [fieldC, namesC, valC]
    omega
  · rw [emptyC, List.getD_eq_getElem?_getD, List.getElem?_replicate]
    split <;> rfl

theorem textC_len (c : List (List Str)) (hc : c.length = 8) (h : ∀ l, l ∈ c → l.length ≤ 20 ∧ ∀ s, s ∈ l → s.length ≤ 400) : ∀ (k i : Nat), i + k = 8 → (textC c k i).length ≤ k * 100000000
  | 0, i, _ => by simp [textC]
  | k + 1, i, hi => by
    have hic : i < c.length := by omega
    have hm := List.getElem_mem hic
    have h1 := (h _ hm).1
    have h3 := valsC_len c[i] (fun s hs => by have := (h _ hm).2 s hs; omega)
    have h4 := dec_lenG c[i].length
    have h5 := namesC_len i
    have hg : c.getD i [] = c[i] := getD_someZ hic
    have := textC_len c hc h k (i + 1) (by omega)
    rw [textC, hg]
    unfold fieldC
    split
    · simp only [List.nil_append, List.length_append]; omega
    · simp only [List.length_append, List.length_cons, List.length_nil]; omega

theorem textS_len (c : List (List Str)) (hc : c.length = 8) (h : ∀ l, l ∈ c → l.length ≤ 20 ∧ ∀ s, s ∈ l → s.length ≤ 400) : (textS c).length ≤ 800000000 := by
  rw [textS_C c hc]
  have := textC_len c hc h 8 0 (by omega)
  omega

theorem Y3_eq (c : List (List Str)) (hc : c.length = 8) : Y3 c = some true := by
  unfold Y3
  rw [gd_pos hc, F6_eq c hc]
  have eK : ZK = some true := rfl
  rw [eK]
  simp only [Option.bind_some]
  by_cases hl : lightS c = true
  · rw [if_neg (by simp [hl])]
    have hlt : ∀ l, l ∈ c → l.length ≤ 20 ∧ ∀ s, s ∈ l → s.length ≤ 400 := by
      intro l h
      unfold lightS at hl
      have := (of_decide_eq_true hl) l h
      unfold textsOk at this
      exact of_decide_eq_true this
    have ht : tinyC c := ⟨hc, fun l h => ⟨by have := (hlt l h).1; omega, fun s hs => by have := (hlt l h).2 s hs; omega⟩⟩
    have hsm : smallC c := ⟨hc, fun l h => ⟨by have := (hlt l h).1; omega, fun s hs => by have := (hlt l h).2 s hs; omega⟩⟩
    have eT : ZT c = some (if checkS c = true then textS c else [], if checkS c = true then 0 else 2) := gd_pos ht
    have eC : ZC c = some (if checkS c = true then 0 else 2) := gd_pos hsm
    rw [eT, eC, F10_eq c hsm]
    simp only [Option.bind_some]
    by_cases hk : checkS c = true
    · simp only [hk, if_true, not_true, if_false]
      have hlen := textS_len c hc hlt
      have eR : ZR (textS c) = some (c, 0) := by
        unfold ZR conR
        rw [gd_pos (by omega), conT_text c hc hk]
        simp [hk]
      rw [eR]
      simp only [Option.bind_some]
      rw [gd_pos hc]
      simp only [if_true]
      rw [Z11_eq c ht]
      simp only [Option.bind_some, if_true]
      rw [F11_eq c c hc hc (fun l h => (hsm.2 l h).1)]
      simp
    · simp [hk]
  · rw [if_pos (by simp [hl])]

end Go.Idl

namespace Go.Idl

open Go Go.RowKit Go.ChangeShapes Go.WideShapes

def g0 : Gs := { oth := fun _ => False, mu := fun _ => undef, sh := fun _ => none, nx := 0 }

def H0 : IHeap := { next := 0, obj := fun _ => none, sn := [] }

theorem ow0 (b : Nat) : ¬ g0.ow b := by
  rintro (h | ⟨k, h, _⟩)
  · exact h
  · cases h

theorem below_of_mono {w w' : World} {g' : Gs} (m : Mono w g0 w' g') : Below w.heap.size w w' :=
  ⟨m.os, m.tape, m.output, m.size, fun k hk => m.keep k hk fun ⟨i, h, _⟩ => by cases h⟩

variable {P : Program} {w : World} {Hh : Type} {enc : TypeId × Value → Hh}

def Rd (P : Program) (w : World) {Hh : Type} (enc : TypeId × Value → Hh) (t : TypeId) (S : List IV → Prop) : Prop :=
  ∀ (base : Nat) (spare : Nat → Bool) (held : Bool) (fuel : Nat) (cs : List Value) (x : DataW Hh × List MemPlace), DataW.trod enc P w base spare held fuel t cs = some x →
    ∃ is, S is ∧ is.length = cs.length ∧ ∀ (j : Nat) (c : Value) (i : IV), cs[j]? = some c → is[j]? = some i → c.oneCell' = true ∧ R w g0 c i

theorem rd_one {c : Value} {i : IV} (ho : c.oneCell' = true) (hr : R w g0 c i) : ∀ (j : Nat) (c' : Value) (i' : IV), [c][j]? = some c' → [i][j]? = some i' → c'.oneCell' = true ∧ R w g0 c' i' := by
  intro j c' i' h1 h2
  cases j with
  | zero => simp at h1 h2; subst h1; subst h2; exact ⟨ho, hr⟩
  | succ j => simp at h1

theorem Rd_string {t : TypeId} (hu : P.underlying t = some .string) : Rd P w enc t fun is => ∃ s : List UInt8, is = [.v (str s)] := by
  intro base spare held fuel cs x h
  obtain ⟨s, rfl, _, _⟩ := DataW.trod_string hu h
  refine ⟨_, ⟨bytes s, rfl⟩, rfl, rd_one rfl ?_⟩
  rw [show str (bytes s) = .string s by rw [str, mk_bytes]]
  exact .v _

theorem choose_list {E : Type} (Pr : Nat → E → Prop) : ∀ n : Nat, (∀ i, i < n → ∃ x, Pr i x) → ∃ l : List E, l.length = n ∧ ∀ (i : Nat) (x : E), l[i]? = some x → Pr i x
  | 0, _ => ⟨[], rfl, by simp⟩
  | n + 1, h => by
    obtain ⟨l, h1, h2⟩ := choose_list Pr n fun i hi => h i (by omega)
    obtain ⟨x, hx⟩ := h n (by omega)
    refine ⟨l ++ [x], by simp [h1], fun i y hy => ?_⟩
    rcases Nat.lt_or_ge i n with hi | hi
    · rw [List.getElem?_append_left (by omega)] at hy
      exact h2 i y hy
    · rw [List.getElem?_append_right (by omega)] at hy
      have e : i = n := by
        have := (List.getElem?_eq_some_iff.1 hy).1
        simp at this; omega
      subst e
      simp [h1] at hy
      subst hy
      exact hx

theorem cells_get {base : Nat} {a : Addr} : ∀ {n : Nat} {cs : List Value}, w.cells? base a n = some cs → cs.length = n ∧ ∀ j, j < n → w.cell? (a.add j) = cs[j]? := by
  intro n cs h
  unfold World.cells? at h
  split at h
  · refine ⟨?_, fun j hj => ?_⟩
    · have := mapM_some_length h
      simpa using this
    · exact mapM_some_get h j j (by simp [hj])
  · cases h

theorem Rd_slice {t e : TypeId} {E : Type} (cells : E → List IV) (hu : P.underlying t = some (.slice e)) (h0 : 0 < P.cellsOf e) (he : Rd P w enc e fun is => ∃ x : E, is = cells x) :
    Rd P w enc t fun is => ∃ l : List E, is = [.sl (P.cellsOf e) (l.map cells)] := by
  intro base spare held fuel cs x h
  rcases DataW.trod_slice hu h with ⟨rfl, _⟩ | ⟨a, len, cap, elems, rest, n, _, rfl, _, hb, hl, hm, hlen, hel, _, _⟩
  · exact ⟨_, ⟨[], rfl⟩, rfl, rd_one rfl (.sl0 _ _ _)⟩
  · obtain ⟨l, l1, l2⟩ := choose_list (fun i (y : E) => (cells y).length = P.cellsOf e ∧ ∀ (j : Nat) (i' : IV), (cells y)[j]? = some i' → ∃ c, w.cell? ((a.add (i * P.cellsOf e)).add j) = some c ∧ c.oneCell' = true ∧ R w g0 c i') len (fun i hi => by
      have hei := hel i hi
      have hne : elems[i]? = some elems[i] := List.getElem?_eq_getElem (by omega)
      rw [hne, Option.bind_eq_some_iff] at hei
      obtain ⟨ci, hc, ht⟩ := hei
      obtain ⟨q1, q2⟩ := cells_get hc
      obtain ⟨is, ⟨y, rfl⟩, q3, q4⟩ := he _ _ _ _ _ _ ht
      refine ⟨y, by rw [q3, q1], fun j i' hj => ?_⟩
      have hjl : j < ci.length := by rw [← q3]; exact (List.getElem?_eq_some_iff.1 hj).1
      have := q4 j ci[j] i' (List.getElem?_eq_getElem hjl) hj
      exact ⟨ci[j], by rw [q2 j (by omega)]; exact List.getElem?_eq_getElem hjl, this⟩)
    refine ⟨_, ⟨l, rfl⟩, rfl, rd_one rfl ?_⟩
    by_cases hz : len = 0
    · subst hz
      have : l = [] := List.eq_nil_of_length_eq_zero l1
      subst this
      exact .sl0 _ _ _
    · have hlm : (l.map cells).length = len := by simp [l1]
      have h0l : 0 < l.length := by omega
      obtain ⟨q1, q2⟩ := l2 0 l[0] (List.getElem?_eq_getElem h0l)
      have hpos : 0 < (cells l[0]).length := by omega
      obtain ⟨c0, q3, _⟩ := q2 0 _ (List.getElem?_eq_getElem hpos)
      obtain ⟨b, off, spot⟩ := a
      have hsp : spot = none ∧ b < w.heap.size := by
        have e0 : ((⟨b, off, spot⟩ : Addr).add (0 * P.cellsOf e)).add 0 = ⟨b, off, spot⟩ := by simp [Addr.add]
        rw [e0] at q3
        unfold World.cell? at q3
        split at q3
        · rename_i hh
          refine ⟨?_, (Array.getElem?_eq_some_iff.1 hh).1⟩
          split at q3
          · cases q3
          · rename_i hs
            simpa using hs
        · cases q3
      obtain ⟨rfl, hlt⟩ := hsp
      rw [← hlm]
      refine .sl b off cap _ _ (fun i j => (w.cell? ⟨b, off + i * P.cellsOf e + j, none⟩).getD undef) (ow0 b) hlt (by rw [hlm]; have hm' : cap ≤ 9223372036854775807 := hm; unfold maxN; omega) (by omega) ?_ ?_ ?_ ?_
      · intro c hc
        obtain ⟨y, hy, rfl⟩ := List.mem_map.1 hc
        obtain ⟨i, hi⟩ := List.getElem?_of_mem hy
        exact (l2 i y hi).1
      all_goals
        intro i ee j c h1 h2
        simp only [List.getElem?_map, Option.map_eq_some_iff] at h1
        obtain ⟨y, hy, rfl⟩ := h1
        obtain ⟨c', r1, r2, r3⟩ := (l2 i y hy).2 j c h2
        rw [addr_add, addr_add] at r1
        first | (rw [r1]; rfl) | (simp only [r1, Option.getD_some]; first | exact r2 | exact r3)

theorem Rd_array {t e : TypeId} {E : Type} {n : Nat} (cell : E → IV) (hu : P.underlying t = some (.array n e)) (hc : P.cellsOf e = 1) (hct : P.cellsOf t = n) (he : Rd P w enc e fun is => ∃ x : E, is = [cell x]) :
    Rd P w enc t fun is => ∃ l : List E, l.length = n ∧ is = l.map cell := by
  intro base spare held fuel cs x h
  obtain ⟨xs, m, _, _, h1, h2, h3⟩ := DataW.trod_array hu h
  rw [hct] at h1
  obtain ⟨l, l1, l2⟩ := choose_list (fun i (y : E) => ∃ c, cs[i]? = some c ∧ c.oneCell' = true ∧ R w g0 c (cell y)) n (fun i hi => by
    have := h3 i hi
    rw [hc, Nat.mul_one] at this
    have hci : cs[i]? = some cs[i] := List.getElem?_eq_getElem (by omega)
    have hd : (cs.drop i).take 1 = [cs[i]] := by rw [List.drop_eq_getElem_cons (by omega)]; rfl
    rw [hd, List.getElem?_eq_getElem (by omega)] at this
    obtain ⟨is, ⟨y, rfl⟩, _, q4⟩ := he _ _ _ _ _ _ this
    exact ⟨y, cs[i], hci, q4 0 _ _ rfl rfl⟩)
  refine ⟨_, ⟨l, l1, rfl⟩, by simp [l1, h1], fun j c i h4 h5 => ?_⟩
  simp only [List.getElem?_map, Option.map_eq_some_iff] at h5
  obtain ⟨y, hy, rfl⟩ := h5
  obtain ⟨c', r1, r2, r3⟩ := l2 j y hy
  rw [h4] at r1
  cases r1
  exact ⟨r2, r3⟩

theorem Rd.one {t : TypeId} {v : Value} {d : DataW Hh} {ps : List MemPlace} {S : List IV → Prop} {base : Nat} {spare : Nat → Bool} {held : Bool} (h : Rd P w enc t S) (hv : v.cells = #[v]) (hd : DataW.Trod enc P w base spare held t v d ps) : ∃ i, S [i] ∧ R w g0 v i := by
  obtain ⟨fuel, hf⟩ := hd
  obtain ⟨is, h1, h2, h3⟩ := h _ _ _ _ _ _ hf
  rw [hv] at h2 h3
  match is, h2, h1, h3 with
  | [i], _, h1, h3 => exact ⟨i, h1, (h3 0 v i rfl rfl).2⟩

theorem Rd.agg {t : TypeId} {cs : Array Value} {d : DataW Hh} {ps : List MemPlace} {S : List IV → Prop} {base : Nat} {spare : Nat → Bool} {held : Bool} (h : Rd P w enc t S) (hd : DataW.Trod enc P w base spare held t (.agg cs) d ps) : ∃ is, S is ∧ R w g0 (.agg cs) (.ag is) := by
  obtain ⟨fuel, hf⟩ := hd
  obtain ⟨is, h1, h2, h3⟩ := h _ _ _ _ _ _ hf
  have hcs : (Value.agg cs).cells.toList = cs.toList := rfl
  rw [hcs] at h2 h3
  refine ⟨is, h1, .ag cs is (by simpa using h2.symm) (fun j x hx => ?_) fun j x c hx hc => (h3 j x c (by simpa using hx) hc).2⟩
  have hlt : j < is.length := by
    have := (Array.getElem?_eq_some_iff.1 hx).1
    rw [h2]; simpa using this
  exact (h3 j x is[j] (by simpa using hx) (List.getElem?_eq_getElem hlt)).1

end Go.Idl

namespace Go.Idl

open Go Go.RowKit Go.ChangeShapes Go.WideShapes

def HV (vs : List (Nat × Array Value)) : IHeap := { next := 0, obj := fun _ => none, sn := [varsT vs] }

theorem simV (w : World) (vs : List (Nat × Array Value)) (h : ∀ p, p ∈ vs → ∃ el f, w.heap[p.1]? = some (.cells p.2 el f)) : Sim w g0 (HV vs) where
  nx := rfl
  sh := fun _ => rfl
  lt := fun k h => by cases h
  bk := fun k b h => by cases h
  inj := fun k k' b h => by cases h
  obj := fun k o h => by cases h
  old := fun b h => h.elim
  snap := fun p hp i hi => by
    obtain rfl : p = varsT vs := by simpa [HV] using hp
    have hl : i < vs.length := by simpa [varsT] using hi
    obtain ⟨el, f, h1⟩ := h _ (List.getElem_mem hl)
    simp only [varsT, List.getElem?_eq_getElem hl]
    exact .blk _ _ el f _ (ow0 _) h1

theorem of_var {P : Program} {w : World} {name : String} {b : Nat} {xs : Array Value} (hg : P.globalNamed name = some b) (h : w.var? P name = some xs) : ∃ el f, w.heap[b]? = some (.cells xs el f) := by
  unfold World.var? at h
  rw [hg] at h
  simp only [Option.bind_some] at h
  split at h
  · rename_i cs el f hc
    cases h
    exact ⟨el, f, hc⟩
  · cases h

theorem of_cell {w : World} {b i : Nat} {x : Value} (h : w.cell? ⟨b, i, none⟩ = some x) : ∃ xs el f, w.heap[b]? = some (.cells xs el f) ∧ xs[i]? = some x := by
  simp only [World.cell?] at h
  cases hb : w.heap[b]? with
  | none => rw [hb] at h; simp at h
  | some o =>
    rw [hb] at h
    cases o with
    | cells xs el f => exact ⟨xs, el, f, rfl, by simpa using h⟩
    | _ => simp at h

theorem door_laid_shaped {H : Type} {enc : TypeId × Value → H} {a : Assume} {C : Checked} {os : Os} {f : FuncId} {fn : Func} {s : ChangeSpec} {conds : List PathCond} {apart fresh handsOn again : Bool} {X : World → Array Value → Prop}
    (hX : ∀ (w w' : World) (args : Array Value), w.heap = w'.heap → X w args → X w' args)
    (own : ownKnob C.prog.godebug = none) (started : os.Started) (noInit : C.prog.inits.idxOf? f = none) (hfn : C.prog.funcs[f]? = some fn)
    (witness : ∃ (w : World) (tape : Tape) (i : Input), w.os = os ∧ (w.forCall tape i).Shaped C.prog ∧ i.vars = [] ∧ Input.okWide C.prog (w.forCall tape i) .any w.heap.size f i ∧
      ((s.pre enc C.prog fn conds apart (w.forCall tape i).memory i.args ∧ X (w.forCall tape i).memory i.args) ∧ sizedMet enc C.prog fn (OpenSpec.ofChange s) apart (w.forCall tape i).memory i.args) ∧ a.holds C.prog (lone (Frame.enter C.prog f i.args .normal) [] (w.forCall tape i)))
    (contract : ∀ (W : World) (base : Nat) (args : Array Value) (ds gs : List (DataW H)) (before : List MemPlace),
      (∀ (j : Nat) t v, fn.params[j]? = some t → args[j]? = some v → Value.okWide C.prog W .any base t v) →
      DataW.Whole enc C.prog fn.params.toList s.vars apart W args.toList ds gs before →
      (DataW.weightsEach C.prog (fn.params.toList ++ s.plain.varTypes C.prog) (ds ++ gs)).all (· ≤ reachBytes) = true → X W args → W.ShapedOpen C.prog →
      Calls C.prog f args W fun e W' => ∃ v, e = .returned v ∧ s.post enc C.prog fn apart fresh handsOn again W args v W') :
    ReturnsInHanded a C os f .any (fun w args => (s.pre enc C.prog fn conds apart w args ∧ X w args) ∧ sizedMet enc C.prog fn (OpenSpec.ofChange s) apart w args) (s.post enc C.prog fn apart fresh handsOn again) := by
  refine returnsInHanded_of_calls own started noInit witness ?_
  intro w tape i _ shape _ ok pre _
  obtain ⟨_, _, _, fn2, hfn2, _, _, _, _, val⟩ := ok
  have e := Option.some.inj (hfn2.symm.trans hfn)
  subst e
  obtain ⟨⟨⟨ds, gs, before, whole, _⟩, laid⟩, sized⟩ := pre
  refine Calls.mono (contract (w.forCall tape i) w.heap.size i.args ds gs before val (DataW.Whole.of_heap (by rfl) whole) (sized.weights whole) (hX _ _ _ (by rfl) laid) shape) ?_
  rintro _ W' ⟨v, rfl, post⟩
  exact ChangeSpec.post_blind post

end Go.Idl

namespace Go.Proofs.YtdmbcbdcabgifaaGreatDoor

open Go Go.ChangeShapes Go.WideShapes Go.ChangeAt Go.RowKit Go.Idl

theorem ownNone : ownKnob Tryz.prog.godebug = none := by kernel_rfl

theorem laidOutAll : laidOutB Tryz.prog = true := by kernel_rfl

section

variable {w : World} {Hh : Type} {enc : TypeId × Value → Hh}

theorem rd9 : Rd Tryz.prog w enc 9 fun is => ∃ s : List UInt8, is = [.v (str s)] := Rd_string Tryz.underlying9

theorem rd22 : Rd Tryz.prog w enc 22 fun is => ∃ l : List (List UInt8), is = [sS l] := by
  have h := Rd_slice (w := w) (enc := enc) (fun s : List UInt8 => [IV.v (str s)]) Tryz.underlying22 (Nat.lt_of_lt_of_eq Nat.one_pos cells9.symm) rd9
  rw [cells9] at h
  exact h

theorem rd24 : Rd Tryz.prog w enc 24 fun is => ∃ c : List (List (List UInt8)), c.length = 8 ∧ is = c.map sS := Rd_array sS Tryz.underlying24 cells22 cells24 rd22

end

def laidV : List (String × DataW Unit) := Rows.contactTextsRow.laid

theorem door_metV (os : Os) (args : Array Value) : laidMetH Tryz.prog laidV ((World.doorLaid Tryz.prog 400 os).forCall (fun _ _ => 0) ⟨#[], args, []⟩).memory :=
  laidMetH_of_parts3 (fuel := 8) (laidMet_of_run' 8 (by kernel_rfl) (by kernel_rfl)) (by kernel_rfl) (by kernel_rfl)

theorem starE : "*" ++ "errors.errorString" = "*errors.errorString" := by decide

theorem row139 (u : TypeId) (h : Tryz.prog.typeName? 3 u = some "*errors.errorString") : u = 139 :=
  typeName_ptr_named (nm := "errors.errorString") (by rw [starE]; kernel_rfl) (by kernel_rfl) (by decide) u (by rw [starE]; exact h)

theorem cells141 : Tryz.prog.cellsOf 141 = 1 := by kernel_rfl

theorem cellsN9 : Tryz.prog.cellsOf 9 = 1 := by kernel_rfl

theorem gTab : Tryz.prog.globalNamed "internal/strconv.uint64pow10" = some 0 := by kernel_rfl

theorem gMax : Tryz.prog.globalNamed "internal/bytealg.MaxLen" = some 1 := by kernel_rfl

theorem gSyn : Tryz.prog.globalNamed "strconv.ErrSyntax" = some 2 := by kernel_rfl

theorem gRng : Tryz.prog.globalNamed "strconv.ErrRange" = some 3 := by kernel_rfl

theorem vok_laid {W : World} (hL : laidMetH Tryz.prog laidV W) (hs : W.ShapedOpen Tryz.prog) : ∃ vs : List (Nat × Array Value), (∀ p, p ∈ vs → ∃ el f, W.heap[p.1]? = some (.cells p.2 el f)) ∧ VOK Tryz.prog (HV vs) := by
  have h0 : laidMet Tryz.prog laidV W := hL
  have h2 := h0.tail.tail
  have hT : Lib.TabIs Tryz.prog W "internal/strconv.uint64pow10" .u64 Lib.pow10Tab :=
    Lib.tabIs_of_head (t := 120) (e := 97) (n := 20) gTab (by kernel_rfl) Tryz.underlying120 Tryz.underlying97 (by kernel_rfl) (by kernel_rfl) h2
  obtain ⟨a3, s3, hv3, _, _, _⟩ := laid_sentinel h2.tail gRng (by kernel_rfl) Tryz.underlying45 row139 Tryz.underlying139 Tryz.underlying141 rfl rfl Tryz.underlying9 cells141 cellsN9
  obtain ⟨a2, s2, hv2, _, _, _⟩ := laid_sentinel h2.tail.tail gSyn (by kernel_rfl) Tryz.underlying45 row139 Tryz.underlying139 Tryz.underlying141 rfl rfl Tryz.underlying9 cells141 cellsN9
  obtain ⟨m, hm⟩ := Tryz.laysM145.s1_3 W hs
  obtain ⟨x4, el4, f4, hx4, hm4⟩ := of_cell hm
  refine ⟨[(0, (Lib.pow10Tab.map fun z => Value.int .u64 z).toArray), (2, #[.iface 139 (.pointer (some a2))]), (3, #[.iface 139 (.pointer (some a3))]), (1, x4)], ?_, ?_⟩
  · intro p hp
    simp only [List.mem_cons, List.not_mem_nil, or_false] at hp
    rcases hp with rfl | rfl | rfl | rfl
    · exact of_var gTab hT
    · exact of_var gSyn hv2
    · exact of_var gRng hv3
    · exact ⟨el4, f4, hx4⟩
  · exact ⟨0, 2, 3, 1, 139, 139, .pointer (some a2), .pointer (some a3), x4, m, gTab, gSyn, gRng, gMax, hm4, List.mem_singleton.2 rfl⟩

end Go.Proofs.YtdmbcbdcabgifaaGreatDoor

namespace Go.Proofs.YtdmbcbdcabgifaaGreatDoor

open Go Go.ChangeShapes Go.WideShapes Go.ChangeAt Go.RowKit Go.Idl

set_option maxRecDepth 100000 in
theorem contactTexts_lifted (os : Os) (started : os.Started) (H : Type) (enc : TypeId × Value → H) :
    ReturnsInHanded {} Tryz.checked os 3 .any (fun w args => (Rows.contactTextsSpec.pre enc Tryz.prog Tryz.f3 [] false w args ∧ laidMetH Tryz.prog laidV w) ∧ sizedMet enc Tryz.prog Tryz.f3 (OpenSpec.ofChange Rows.contactTextsSpec) false w args)
      (Rows.contactTextsSpec.post enc Tryz.prog Tryz.f3 false true false false) := by
  refine door_laid_shaped (C := Tryz.checked) (X := fun w _ => laidMetH Tryz.prog laidV w) (fun _ _ _ hh h => h.of_heap hh) ownNone started (by kernel_rfl) Tryz.func3
    (ChangeSpec.witness_shaped (enc := enc) (C := Tryz.checked) (os := os) (X := fun w _ => laidMetH Tryz.prog laidV w) false (World.doorLaid Tryz.prog 400 os) #[.agg #[.slice none 0 0, .slice none 0 0, .slice none 0 0, .slice none 0 0, .slice none 0 0, .slice none 0 0, .slice none 0 0, .slice none 0 0]] 8 rfl (World.shaped_of_RefB (by kernel_rfl) (by kernel_rfl)) (by kernel_rfl) (by kernel_rfl) (by kernel_rfl) (door_metV os _)) ?_
  intro W base args ds gs before hval0 hW hwt hL hshape
  have hval : ∀ (j : Nat) t v, Tryz.f3.params[j]? = some t → args[j]? = some v → Value.okWide Tryz.prog W .any base t v := hval0
  have hW' := hW
  obtain ⟨p, q, hA0, hV, rfl, hfz, hnd⟩ := hW
  have hA : DataW.TrodAll enc Tryz.prog W 0 (fun _ => true) true Tryz.f3.params.toList args.toList ds p := hA0
  rw [Tryz.params3] at hA hval
  obtain ⟨v0, d0, rfl, rfl, h0⟩ := trodAll_one hA
  obtain ⟨rfl, rfl⟩ := trodVars_none hV
  simp only [List.append_nil] at hW'
  have hlt := hW'.lt
  obtain ⟨cs, rfl, _⟩ : ∃ cs, v0 = .agg cs ∧ True := by
    have := hval 0 24 v0 rfl rfl
    simp only [Value.okWide, Tryz.underlying24] at this
    obtain ⟨cs, e, _⟩ := this
    exact ⟨cs, e, trivial⟩
  obtain ⟨is, ⟨x0, hc, rfl⟩, r0⟩ := rd24.agg h0
  obtain ⟨vs, hvs, hvok⟩ := vok_laid hL hshape
  have hcall := (Y3_ok (H := HV vs) (K := fun e _ => e = .ret (.v (.bool true))) x0 hvok (Y3_eq x0 hc) rfl).run W g0 #[.agg cs] (simV W vs hvs) ⟨rfl, fun j x i hx hi => by
    match j, hx, hi with
    | 0, hx, hi => simp at hx hi; subst hx; subst hi; exact r0
    | j + 1, hx, hi => simp at hx⟩
  refine hcall.mono ?_
  rintro e W' ⟨ie, g', H', hm, _, hre, rfl⟩
  have hb := below_of_mono hm
  obtain ⟨rfl⟩ : e = .returned (.bool true) := by
    cases hre with
    | ret x i h => rw [h.v_eq]
  refine ⟨_, rfl, ?_⟩
  refine ⟨_, _, _, [], p, [], hW', trodAll_mk1 (shut_bool Tryz.underlying4 _), ?_, ?_, hb.frame _, fun h => by cases h⟩
  · have hl0 : ∀ x ∈ p, x.block < W.heap.size := fun x hx => hlt x (by simp [hx])
    have k0 := Below.trod laidOutAll (by kernel_rfl) (of_decide_eq_true (by kernel_rfl)) h0 hb hl0
    exact ⟨p, [], k0, rfl, by simp⟩
  · rfl

theorem contactTexts_row : Rows.ContactTextsSaid :=
  OpenClaim.holds_of_wide 3 Tryz.f3 rfl rfl rfl rfl rfl rfl rfl ⟨rfl, rfl, rfl, rfl, rfl⟩ rfl rfl rfl rfl rfl (by kernel_rfl) Tryz.func3 (by kernel_rfl)
    (of_decide_eq_true (by kernel_rfl)) (by unfold Func.isWrapper; first | (rw [if_pos (by decide +kernel)]; kernel_rfl) | (rw [if_neg (by decide +kernel)]; exact ⟨rfl, rfl⟩))
    (fun os started H enc _ => contactTexts_lifted os started H enc)

theorem contactTexts_holds : Rows.ContactTextsCardSaid :=
  Claim7.holds_tied_plain_at .later [] [.data, .data, .data, .sentinel, .sentinel] true (true, "b3791b03f4b82cb8bc0f0747fd50807bb9d7122cc6775f3c6267ce213a76cb07") true
    contactTexts_row (fun _ h => by cases h) (by kernel_rfl) (fun _ h => by cases h) contactTexts_row_tie rfl ⟨rfl, rfl⟩ (by kernel_rfl) rfl
    (fun f fn hf hfn => by
      obtain rfl : f = 3 := Option.some.inj ((show Tryz.prog.funcNamed "cardcase/cardcaselaw16.ContactTexts" = some 3 by kernel_rfl).symm.trans hf) |>.symm
      obtain rfl : fn = Tryz.f3 := (Option.some.inj (Tryz.func3.symm.trans hfn)).symm
      exact ⟨by kernel_rfl, fun j t ht => by
        rw [Tryz.params3] at ht
        have hm : t ∈ [24] := by simpa using Array.mem_of_getElem? ht
        have hall : ([24].all fun u => !Tryz.prog.wantsStandIn u) = true := by kernel_rfl
        exact (show Tryz.prog.wantsStandIn t = false by simpa using List.all_eq_true.1 hall t hm)⟩)
    (by kernel_rfl)

end Go.Proofs.YtdmbcbdcabgifaaGreatDoor
