/- A small program logic over the model's fenced walk: ghost values, operations, named memory; general laws alone. Conditions: none. -/
import Derived.RangeFuncLeaves
import Derived.RangeFuncCalls
import Derived.Below
import Derived.WalkKit
import Derived.KernelRfl
import Derived.Laws.BytesArg
set_option linter.unusedSimpArgs false
set_option linter.unusedVariables false

namespace Go.Idl
open Go Go.RowKit

/-- Ghost values. -/
inductive IV where
  | v (x : Value)
  | sl (sz : Nat) (es : List (List IV))
  | cp (cs : List IV)
  | ag (cs : List IV)
  | tu (vs : List IV)
  | fn (f : Fn) (first cap : List IV)
  | ifc (t : TypeId) (x : IV)
  | p (k off : Nat)
  | mp (k : Nat)
  | os (k n : Nat)
  | pr (k n off : Nat)
  | bs (k off n : Nat)
  | any

instance : Inhabited IV := ⟨.any⟩

/-- What is known of a name: that it stays what it is, or a row that may grow. -/
inductive Sh where
  | fx
  | row (n : Nat)

/-- The block that a named thing lies in. -/
def blk : Value → Option Nat
  | .pointer (some a) => some a.block
  | .slice (some a) _ _ => some a.block
  | .map (some r) => some r
  | _ => none

structure Gs where
  oth : Nat → Prop
  mu : Nat → Value
  sh : Nat → Option Sh
  nx : Nat

def Gs.named (g : Gs) (b : Nat) : Prop := ∃ k, (g.sh k).isSome = true ∧ blk (g.mu k) = some b
def Gs.ow (g : Gs) (b : Nat) : Prop := g.oth b ∨ g.named b

/-- The most elements that a slice has. -/
def maxN : Nat := 9223372036854775807

/-- A value reads as a ghost value. -/
inductive R (w : World) (g : Gs) : Value → IV → Prop
  | v (x : Value) : R w g x (.v x)
  | any (x : Value) : R w g x .any
  | sl0 (a : Option Addr) (cap sz : Nat) : R w g (.slice a 0 cap) (.sl sz [])
  | sl (b off cap sz : Nat) (es : List (List IV)) (cv : Nat → Nat → Value) (hb : ¬ g.ow b) (hlt : b < w.heap.size) (hlen : es.length ≤ maxN) (hcap : es.length ≤ cap)
      (hsz : ∀ e, e ∈ es → e.length = sz)
      (hc : ∀ (i : Nat) (e : List IV) (j : Nat) (c : IV), es[i]? = some e → e[j]? = some c → w.cell? ⟨b, off + i * sz + j, none⟩ = some (cv i j))
      (ho : ∀ (i : Nat) (e : List IV) (j : Nat) (c : IV), es[i]? = some e → e[j]? = some c → (cv i j).oneCell' = true)
      (hr : ∀ (i : Nat) (e : List IV) (j : Nat) (c : IV), es[i]? = some e → e[j]? = some c → R w g (cv i j) c) :
      R w g (.slice (some ⟨b, off, none⟩) es.length cap) (.sl sz es)
  | cp (b off : Nat) (cs : List IV) (cv : Nat → Value) (hb : ¬ g.ow b) (hlt : b < w.heap.size)
      (hc : ∀ (j : Nat) (c : IV), cs[j]? = some c → w.cell? ⟨b, off + j, none⟩ = some (cv j))
      (ho : ∀ (j : Nat) (c : IV), cs[j]? = some c → (cv j).oneCell' = true)
      (hr : ∀ (j : Nat) (c : IV), cs[j]? = some c → R w g (cv j) c) :
      R w g (.pointer (some ⟨b, off, none⟩)) (.cp cs)
  | ag (xs : Array Value) (cs : List IV) (hl : xs.size = cs.length) (ho : ∀ (j : Nat) (x : Value), xs[j]? = some x → x.oneCell' = true)
      (hr : ∀ (j : Nat) (x : Value) (c : IV), xs[j]? = some x → cs[j]? = some c → R w g x c) : R w g (.agg xs) (.ag cs)
  | tu (xs : Array Value) (cs : List IV) (hl : xs.size = cs.length)
      (hr : ∀ (j : Nat) (x : Value) (c : IV), xs[j]? = some x → cs[j]? = some c → R w g x c) : R w g (.tuple xs) (.tu cs)
  | fn (f : Fn) (xs ys : Array Value) (fi ca : List IV) (hl : xs.size = fi.length) (hl' : ys.size = ca.length)
      (hr : ∀ (j : Nat) (x : Value) (c : IV), xs[j]? = some x → fi[j]? = some c → R w g x c)
      (hr' : ∀ (j : Nat) (x : Value) (c : IV), ys[j]? = some x → ca[j]? = some c → R w g x c) : R w g (.func f xs ys) (.fn f fi ca)
  | ifc (t : TypeId) (x : Value) (c : IV) (hr : R w g x c) : R w g (.iface t x) (.ifc t c)
  | p (k off : Nat) (x : Value) (hk : k < g.nx) (hx : ∃ a, x = .pointer (some a))
      (h : ∀ s, g.sh k = some s → s = .fx → ∃ b, g.mu k = .pointer (some ⟨b, 0, none⟩) ∧ x = .pointer (some ⟨b, off, none⟩)) : R w g x (.p k off)
  | mp (k : Nat) (x : Value) (hk : k < g.nx) (hx : ∃ a, x = .map (some a)) (h : ∀ s, g.sh k = some s → s = .fx → g.mu k = x) : R w g x (.mp k)
  | os (k n : Nat) (x : Value) (hk : k < g.nx) (h : ∀ m, g.sh k = some (.row m) → n ≤ m ∧ (n = m → x = g.mu k))
      (hx : ∃ a cap, x = .slice a n cap) : R w g x (.os k n)
  | pr (k n off : Nat) (x : Value) (hk : k < g.nx) (hx : ∃ a, x = .pointer (some a))
      (h : ∀ m, g.sh k = some (.row m) → n ≤ m ∧ (n = m → ∃ b cap, g.mu k = .slice (some ⟨b, 0, none⟩) m cap ∧ x = .pointer (some ⟨b, off, none⟩))) : R w g x (.pr k n off)
  | bs (k off n : Nat) (x : Value) (hk : k < g.nx) (hx : ∃ a cap, x = .slice (some a) n cap ∧ n ≤ cap)
      (h : ∀ s, g.sh k = some s → s = .fx → ∃ b cap, g.mu k = .pointer (some ⟨b, 0, none⟩) ∧ x = .slice (some ⟨b, off, none⟩) n cap) : R w g x (.bs k off n)

/-- How a world and its names may go on. -/
structure Mono (w : World) (g : Gs) (w' : World) (g' : Gs) : Prop where
  size : w.heap.size ≤ w'.heap.size
  os : w'.os = w.os
  tape : w'.tape = w.tape
  output : w'.output = w.output
  keep : ∀ b, b < w.heap.size → (g.named b → g.oth b) → w'.heap[b]? = w.heap[b]?
  own : ∀ b, b < w.heap.size → g'.ow b → g.ow b
  oth : g'.oth = g.oth
  nx : g.nx ≤ g'.nx
  fx : ∀ k, k < g.nx → g'.sh k = some .fx → g.sh k = some .fx ∧ g'.mu k = g.mu k
  row : ∀ k m', k < g.nx → g'.sh k = some (.row m') → ∃ m, g.sh k = some (.row m) ∧ m ≤ m' ∧ (m = m' → g'.mu k = g.mu k)

theorem Mono.refl (w : World) (g : Gs) : Mono w g w g :=
  ⟨Nat.le_refl _, rfl, rfl, rfl, fun _ _ _ => rfl, fun _ _ h => h, rfl, Nat.le_refl _, fun _ _ h => ⟨h, rfl⟩, fun k m' _ h => ⟨m', h, Nat.le_refl _, fun _ => rfl⟩⟩

theorem Mono.trans {w w1 w2 : World} {g g1 g2 : Gs} (h : Mono w g w1 g1) (k : Mono w1 g1 w2 g2) : Mono w g w2 g2 where
  size := Nat.le_trans h.size k.size
  os := k.os.trans h.os
  tape := k.tape.trans h.tape
  output := k.output.trans h.output
  keep := fun b hb hnb => (k.keep b (Nat.lt_of_lt_of_le hb h.size) (fun e => by rw [h.oth]; exact (h.own b hb (.inr e)).elim id hnb)).trans (h.keep b hb hnb)
  own := fun b hb e => h.own b hb (k.own b (Nat.lt_of_lt_of_le hb h.size) e)
  oth := k.oth.trans h.oth
  nx := Nat.le_trans h.nx k.nx
  fx := fun i hi e => by
    obtain ⟨e1, e2⟩ := k.fx i (Nat.lt_of_lt_of_le hi h.nx) e
    obtain ⟨e3, e4⟩ := h.fx i hi e1
    exact ⟨e3, e2.trans e4⟩
  row := fun i m' hi e => by
    obtain ⟨m1, e1, l1, q1⟩ := k.row i m' (Nat.lt_of_lt_of_le hi h.nx) e
    obtain ⟨m, e2, l2, q2⟩ := h.row i m1 hi e1
    exact ⟨m, e2, Nat.le_trans l2 l1, fun e => (q1 (by omega)).trans (q2 (by omega))⟩

theorem cell_of_heap {w w' : World} {b : Nat} (h : w'.heap[b]? = w.heap[b]?) (off : Nat) : w'.cell? ⟨b, off, none⟩ = w.cell? ⟨b, off, none⟩ := by
  simp only [World.cell?, h]

/-- As 'Mono', as far as readings go. -/
structure MonoR (w : World) (g : Gs) (w' : World) (g' : Gs) : Prop where
  size : w.heap.size ≤ w'.heap.size
  keep : ∀ b, b < w.heap.size → ¬ g.ow b → w'.heap[b]? = w.heap[b]?
  own : ∀ b, b < w.heap.size → g'.ow b → g.ow b
  nx : g.nx ≤ g'.nx
  fx : ∀ k, k < g.nx → g'.sh k = some .fx → g.sh k = some .fx ∧ g'.mu k = g.mu k
  row : ∀ k m', k < g.nx → g'.sh k = some (.row m') → ∃ m, g.sh k = some (.row m) ∧ m ≤ m' ∧ (m = m' → g'.mu k = g.mu k)

theorem Mono.toR {w w' : World} {g g' : Gs} (m : Mono w g w' g') : MonoR w g w' g' := ⟨m.size, fun b hb h => m.keep b hb fun e => absurd (.inr e) h, m.own, m.nx, m.fx, m.row⟩

theorem R.monoR {w w' : World} {g g' : Gs} (m : MonoR w g w' g') {x : Value} {i : IV} (h : R w g x i) : R w' g' x i := by
  induction h with
  | v x => exact .v x
  | any x => exact .any x
  | sl0 a cap sz => exact .sl0 a cap sz
  | sl b off cap sz es cv hb hlt hlen hcap hsz hc ho _ ih =>
    have hk := m.keep b hlt hb
    exact .sl b off cap sz es cv (fun e => hb (m.own b hlt e)) (Nat.lt_of_lt_of_le hlt m.size) hlen hcap hsz (fun i e j c h1 h2 => (cell_of_heap hk _).trans (hc i e j c h1 h2)) ho ih
  | cp b off cs cv hb hlt hc ho _ ih =>
    have hk := m.keep b hlt hb
    exact .cp b off cs cv (fun e => hb (m.own b hlt e)) (Nat.lt_of_lt_of_le hlt m.size) (fun j c h1 => (cell_of_heap hk _).trans (hc j c h1)) ho ih
  | ag xs cs hl ho _ ih => exact .ag xs cs hl ho ih
  | tu xs cs hl _ ih => exact .tu xs cs hl ih
  | fn f xs ys fi ca hl hl' _ _ ih ih' => exact .fn f xs ys fi ca hl hl' ih ih'
  | ifc t x c _ ih => exact .ifc t x c ih
  | p k off x hk hx h =>
    refine .p k off x (Nat.lt_of_lt_of_le hk m.nx) hx fun s hs e => ?_
    subst e
    obtain ⟨e1, e2⟩ := m.fx k hk hs
    rw [e2]
    exact h _ e1 rfl
  | bs k off n x hk hx h =>
    refine .bs k off n x (Nat.lt_of_lt_of_le hk m.nx) hx fun s hs e => ?_
    subst e
    obtain ⟨e1, e2⟩ := m.fx k hk hs
    rw [e2]
    exact h _ e1 rfl
  | mp k x hk hx h =>
    refine .mp k x (Nat.lt_of_lt_of_le hk m.nx) hx fun s hs e => ?_
    subst e
    obtain ⟨e1, e2⟩ := m.fx k hk hs
    rw [e2]
    exact h _ e1 rfl
  | os k n x hk h hx =>
    refine .os k n x (Nat.lt_of_lt_of_le hk m.nx) (fun m' hs => ?_) hx
    obtain ⟨m1, e1, l1, q1⟩ := m.row k m' hk hs
    obtain ⟨l2, q2⟩ := h m1 e1
    exact ⟨Nat.le_trans l2 l1, fun e => by rw [q1 (by omega)]; exact q2 (by omega)⟩
  | pr k n off x hk hx h =>
    refine .pr k n off x (Nat.lt_of_lt_of_le hk m.nx) hx (fun m' hs => ?_)
    obtain ⟨m1, e1, l1, q1⟩ := m.row k m' hk hs
    obtain ⟨l2, q2⟩ := h m1 e1
    refine ⟨Nat.le_trans l2 l1, fun e => ?_⟩
    obtain ⟨b, cap, q3, q4⟩ := q2 (by omega)
    have hm : m1 = m' := by omega
    subst hm
    exact ⟨b, cap, by rw [q1 rfl]; exact q3, q4⟩

theorem R.mono {w w' : World} {g g' : Gs} (m : Mono w g w' g') {x : Value} {i : IV} (h : R w g x i) : R w' g' x i := h.monoR m.toR

/-- Named things: cells, a row that grows, any other object. -/
inductive HO where
  | cells (cs : List IV)
  | row (sz : Nat) (es : List (List IV))
  | obj (o : Obj)
  | ty (t : TypeId) (o : HO)

def HO.sh : HO → Sh
  | .cells _ => .fx
  | .row _ es => .row es.length
  | .obj _ => .fx
  | .ty _ o => o.sh

structure IHeap where
  next : Nat
  obj : Nat → Option HO
  /-- Frames that are kept as they were: what they read as. -/
  sn : List (Array Value × (Nat → IV))

def IHeap.sh (H : IHeap) (k : Nat) : Option Sh := (H.obj k).map HO.sh

/-- A list of cells matches a list of ghost values. -/
def CellsR (w : World) (g : Gs) (xs : Array Value) (cs : List IV) : Prop :=
  cs.length ≤ xs.size ∧ ∀ (j : Nat) (c : IV), cs[j]? = some c → ∃ x, xs[j]? = some x ∧ x.oneCell' = true ∧ R w g x c

def FreeZ (n : Nat) (f : Nat × Nat) : Prop := ∀ i, i < n → ¬ (f.1 ≤ i ∧ i < f.2)

/-- The block that a value lies in is a row of a type, nothing of it frozen. -/
def Pin (w : World) (x : Value) (t : TypeId) (o : HO) : Prop := ∀ b, blk x = some b → ∃ xs, w.heap[b]? = some (.cells xs t (0, 0)) ∧ ∀ cs, o = .cells cs → xs.size = cs.length

theorem Pin.keep {w w' : World} {x : Value} {t : TypeId} {o : HO} (hb : ∀ b, blk x = some b → w'.heap[b]? = w.heap[b]?) (h : Pin w x t o) : Pin w' x t o := fun b e => by
  obtain ⟨xs, h1, h2⟩ := h b e
  exact ⟨xs, (hb b e).trans h1, h2⟩

def ObjR (w : World) (g : Gs) (x : Value) : HO → Prop
  | .cells cs => ∃ b xs el f, x = .pointer (some ⟨b, 0, none⟩) ∧ w.heap[b]? = some (.cells xs el f) ∧ FreeZ xs.size f ∧ CellsR w g xs cs
  | .row sz es => ∃ a cap, x = .slice a es.length cap ∧ es.length ≤ cap ∧ es.length ≤ maxN ∧ (∀ e, e ∈ es → e.length = sz) ∧ 0 < sz ∧
      ((a = none ∧ cap = 0) ∨ ∃ b xs el f, a = some ⟨b, 0, none⟩ ∧ w.heap[b]? = some (.cells xs el f) ∧ FreeZ xs.size f ∧ cap * sz ≤ xs.size ∧ CellsR w g xs es.flatten)
  | .obj o => ∃ b, x = .map (some b) ∧ w.heap[b]? = some o ∧ (∀ xs el f, o ≠ .cells xs el f)
  | .ty t o => ObjR w g x o ∧ Pin w x t o

structure Sim (w : World) (g : Gs) (H : IHeap) : Prop where
  nx : g.nx = H.next
  sh : ∀ k, g.sh k = H.sh k
  lt : ∀ k, (H.obj k).isSome = true → k < H.next
  bk : ∀ k b, (g.sh k).isSome = true → blk (g.mu k) = some b → ¬ g.oth b ∧ b < w.heap.size
  inj : ∀ k k' b, (g.sh k).isSome = true → (g.sh k').isSome = true → blk (g.mu k) = some b → blk (g.mu k') = some b → k = k'
  obj : ∀ k o, H.obj k = some o → ObjR w g (g.mu k) o
  old : ∀ b, g.oth b → b < w.heap.size
  snap : ∀ p, p ∈ H.sn → ∀ i, i < p.1.size → R w g (p.1.getD i undef) (p.2 i)

theorem Sim.named_lt {w : World} {g : Gs} {H : IHeap} (s : Sim w g H) {b : Nat} (h : g.named b) : b < w.heap.size := by
  obtain ⟨k, h1, h2⟩ := h
  exact (s.bk k b h1 h2).2

/-! ### Frames -/
abbrev Tm := Nat → IV

def RA (w : World) (g : Gs) (a : Act) (tm : Tm) : Prop := ∀ i, i < a.tmps.size → R w g (a.tmps.getD i undef) (tm i)

theorem RA.mono {w w' : World} {g g' : Gs} (m : Mono w g w' g') {a : Act} {tm : Tm} (h : RA w g a tm) : RA w' g' a tm := fun i hi => (h i hi).mono m

/-- The record of the loop whose round this is lies there, and nobody turns it. -/
def RRok (rr : Option Nat) (w : World) (g : Gs) : Prop := ∀ r, rr = some r → (∃ rec, w.heap[r]? = some (.loop rec)) ∧ g.oth r

theorem RRok.mono {rr : Option Nat} {w w' : World} {g g' : Gs} (m : Mono w g w' g') (h : RRok rr w g) : RRok rr w' g' := by
  intro r hr
  obtain ⟨⟨rec, h1⟩, h2⟩ := h r hr
  have hlt : r < w.heap.size := (Array.getElem?_eq_some_iff.1 h1).1
  exact ⟨⟨rec, (m.keep r hlt fun _ => h2).trans h1⟩, by rw [m.oth]; exact h2⟩

/-- The marks that ranges over functions have left among a frame's deferred calls. -/
def Marks (rr : Option Nat) (B : Nat) (w : World) (g : Gs) : List Deferred → Prop
  | [] => RRok rr w g
  | d :: ds => (∃ r, d = { target := .collected r, args := #[] } ∧ B ≤ r ∧ r < w.heap.size ∧ w.heap[r]? = some (.deferred (some [])) ∧ ¬ g.ow r ∧
      ∀ d', d' ∈ ds → d'.target ≠ .collected r) ∧ Marks rr B w g ds

theorem Marks.mono {rr : Option Nat} {B : Nat} {w w' : World} {g g' : Gs} (m : Mono w g w' g') : ∀ {ds : List Deferred}, Marks rr B w g ds → Marks rr B w' g' ds
  | [], h => RRok.mono m h
  | d :: ds, ⟨⟨r, h1, h2, h3, h4, h5, h6⟩, h7⟩ =>
    ⟨⟨r, h1, h2, Nat.lt_of_lt_of_le h3 m.size, (m.keep r h3 (fun e => absurd (.inr e) h5)).trans h4, fun e => h5 (m.own r h3 e), h6⟩, h7.mono m⟩

/-- The fence: none, but for the round. -/
def FR (r : Option Nat) : Fence := { fn := fun _ => True, depth := none, alive := false, round := r }

theorem callsFR {r : Option Nat} {n : Nat} {P : Program} {f : FuncId} {args : Array Value} {w : World} {Q : Ending → World → Prop} (h : Calls P f args w Q) : CallsIn (FR r) n P f args w Q := by
  have h1 := (callsIn_wide (n := n)).2 h
  cases r with
  | none => exact h1
  | some l => exact CallsIn.inRound l h1

theorem callsFR' {r : Option Nat} {n : Nat} {P : Program} {f : FuncId} {args : Array Value} {w : World} {Q : Ending → World → Prop} (h : CallsIn (FR r) n P f args w Q) : Calls P f args w Q := by
  cases r with
  | none => exact callsIn_wide.1 h
  | some l => exact callsIn_wide.1 (CallsIn.outOfRound (l := l) h)

/-! ### The triples -/
inductive IEnd where
  | ret (x : IV)
  | pan (ch : List PanicEntry)

inductive RE (w : World) (g : Gs) : Ending → IEnd → Prop
  | ret (x : Value) (i : IV) (h : R w g x i) : RE w g (.returned x) (.ret i)
  | pan (ch : List PanicEntry) : RE w g (.panicked ch) (.pan ch)

/-- A list of arguments reads as a list of ghost values. -/
def RL (w : World) (g : Gs) (xs : Array Value) (is : List IV) : Prop :=
  xs.size = is.length ∧ ∀ (j : Nat) (x : Value) (c : IV), xs[j]? = some x → is[j]? = some c → R w g x c

theorem RL.mono {w w' : World} {g g' : Gs} (m : Mono w g w' g') {xs : Array Value} {is : List IV} (h : RL w g xs is) : RL w' g' xs is :=
  ⟨h.1, fun j x c h1 h2 => (h.2 j x c h1 h2).mono m⟩

/-- A function that has a body. -/
def hasBody (P : Program) (f : FuncId) : Bool :=
  match P.funcs[f]? with
  | some fn => fn.body.isSome && !(fn.name == "runtime.NumGoroutine")
  | none => false

/-- A call of a function. -/
structure ICalls (P : Program) (f : FuncId) (args : List IV) (H : IHeap) (Q : IEnd → IHeap → Prop) : Prop where
  body : hasBody P f = true
  run : ∀ (w : World) (g : Gs) (vs : Array Value), Sim w g H → RL w g vs args →
    Calls P f vs w fun e w' => ∃ ie g' H', Mono w g w' g' ∧ Sim w' g' H' ∧ RE w' g' e ie ∧ Q ie H'

theorem ICalls.mono {P : Program} {f : FuncId} {args : List IV} {H : IHeap} {Q Q' : IEnd → IHeap → Prop} (h : ICalls P f args H Q) (hq : ∀ e H', Q e H' → Q' e H') : ICalls P f args H Q' :=
  ⟨h.body, fun w g vs s r => (h.run w g vs s r).mono fun e w' ⟨ie, g', H', h1, h2, h3, h4⟩ => ⟨ie, g', H', h1, h2, h3, hq _ _ h4⟩⟩

/-- A piece of code. -/
structure IWp (P : Program) (N : Nat) (c : Code) (Q : Exit → Tm → IHeap → Prop) (tm : Tm) (H : IHeap) : Prop where
  run : ∀ (rr : Option Nat) (B : Nat) (w : World) (g : Gs) (a : Act), Sim w g H → RA w g a tm → a.tmps.size = N → B ≤ w.heap.size → Marks rr B w g a.defers →
    c.wpIn (FR rr) 0 P (fun e a' w' => ∃ tm' g' H', Mono w g w' g' ∧ Sim w' g' H' ∧ RA w' g' a' tm' ∧ a'.tmps.size = N ∧ Marks rr B w' g' a'.defers ∧ e ≠ .outgrown ∧ Q e tm' H') a w

theorem IWp.mono {P : Program} {N : Nat} {c : Code} {Q Q' : Exit → Tm → IHeap → Prop} {tm : Tm} {H : IHeap} (h : IWp P N c Q tm H) (hq : ∀ e tm H, Q e tm H → Q' e tm H) : IWp P N c Q' tm H :=
  ⟨fun rr B w g a s r hN hB hm => wpIn_mono (h.run rr B w g a s r hN hB hm) fun e a' w' ⟨tm', g', H', h1, h2, h3, h4, h5, h6, h7⟩ => ⟨tm', g', H', h1, h2, h3, h4, h5, h6, hq _ _ _ h7⟩⟩

/-- Where names are as they were, memory that is named now and lay then was named then. -/
theorem Mono.named_old {w w' : World} {g g' : Gs} {H H' : IHeap} (m : Mono w g w' g') (s : Sim w g H) (s' : Sim w' g' H') : ∀ b, b < w.heap.size → g'.named b → g.named b := by
  intro b hb hn
  rcases m.own b hb (.inr hn) with h | h
  · obtain ⟨k, h1, h2⟩ := hn
    have := (s'.bk k b h1 h2).1
    rw [m.oth] at this
    exact absurd h this
  · exact h

theorem Mono.tr {w w1 w2 : World} {g g1 g2 : Gs} {H H1 : IHeap} (h : Mono w g w1 g1) (k : Mono w1 g1 w2 g2) (s : Sim w g H) (s1 : Sim w1 g1 H1) : Mono w g w2 g2 :=
  h.trans k
end Go.Idl

namespace Go.Idl
open Go Go.RowKit

variable {P : Program} {N : Nat} {Q : Exit → Tm → IHeap → Prop} {tm : Tm} {H : IHeap}

/-- What is asked of a triple's end, with the world where it began. -/
def Post (rr : Option Nat) (B N : Nat) (Q : Exit → Tm → IHeap → Prop) (w : World) (g : Gs) (e : Exit) (a' : Act) (w' : World) : Prop :=
  ∃ tm' g' H', Mono w g w' g' ∧ Sim w' g' H' ∧ RA w' g' a' tm' ∧ a'.tmps.size = N ∧ Marks rr B w' g' a'.defers ∧ e ≠ .outgrown ∧ Q e tm' H'

theorem Post.tr {rr : Option Nat} {B N : Nat} {w w1 : World} {g g1 : Gs} {H H1 : IHeap} {e : Exit} {a' : Act} {w' : World} (m : Mono w g w1 g1) (s : Sim w g H) (s1 : Sim w1 g1 H1) (h : Post rr B N Q w1 g1 e a' w') : Post rr B N Q w g e a' w' := by
  obtain ⟨tm', g', H', h1, h2, h3, h4, h5, h6, h7⟩ := h
  exact ⟨tm', g', H', m.tr h1 s s1, h2, h3, h4, h5, h6, h7⟩

theorem IWp_skip (h : Q .normal tm H) : IWp P N .skip Q tm H :=
  ⟨fun _ _ w g _ s r hN _ hm => wpIn_skip ⟨tm, g, H, .refl w g, s, r, hN, hm, by simp, h⟩⟩
theorem IWp_label {l : Nat} (h : Q .normal tm H) : IWp P N (.label l) Q tm H :=
  ⟨fun _ _ w g _ s r hN _ hm => wpIn_label ⟨tm, g, H, .refl w g, s, r, hN, hm, by simp, h⟩⟩
theorem IWp_exit {id : Nat} (h : Q (.exit id) tm H) : IWp P N (.exit id) Q tm H :=
  ⟨fun _ _ w g _ s r hN _ hm => wpIn_exit ⟨tm, g, H, .refl w g, s, r, hN, hm, by simp, h⟩⟩
theorem IWp_goto {l : Nat} (h : Q (.goto l) tm H) : IWp P N (.goto l) Q tm H :=
  ⟨fun _ _ w g _ s r hN _ hm => wpIn_goto ⟨tm, g, H, .refl w g, s, r, hN, hm, by simp, h⟩⟩
theorem IWp_ret (h : Q .ret tm H) : IWp P N .ret Q tm H :=
  ⟨fun _ _ w g _ s r hN _ hm => wpIn_ret ⟨tm, g, H, .refl w g, s, r, hN, hm, by simp, h⟩⟩

def thenQ (K : Tm → IHeap → Prop) (Q : Exit → Tm → IHeap → Prop) : Exit → Tm → IHeap → Prop
  | .normal, tm, H => K tm H
  | .exit id, tm, H => Q (.exit id) tm H
  | .goto l, tm, H => Q (.goto l) tm H
  | .ret, tm, H => Q .ret tm H
  | .panic ch, tm, H => Q (.panic ch) tm H
  | .outgrown, tm, H => Q .outgrown tm H

theorem IWp_seq {x y : Code} (h : IWp P N x (thenQ (fun tm H => IWp P N y Q tm H) Q) tm H) : IWp P N (.seq x y) Q tm H := by
  refine ⟨fun rr B w g a s r hN hB hm => wpIn_seq (wpIn_mono (h.run rr B w g a s r hN hB hm) ?_)⟩
  rintro e a1 w1 ⟨tm1, g1, H1, m1, s1, r1, n1, k1, ne, q⟩
  cases e with
  | normal => exact wpIn_mono (q.run rr B w1 g1 a1 s1 r1 n1 (Nat.le_trans hB m1.size) k1) fun e a' w' h => Post.tr m1 s s1 h
  | outgrown => exact absurd rfl ne
  | exit id => exact ⟨tm1, g1, H1, m1, s1, r1, n1, k1, ne, q⟩
  | goto id => exact ⟨tm1, g1, H1, m1, s1, r1, n1, k1, ne, q⟩
  | ret => exact ⟨tm1, g1, H1, m1, s1, r1, n1, k1, ne, q⟩
  | panic id => exact ⟨tm1, g1, H1, m1, s1, r1, n1, k1, ne, q⟩

def blockQ (id : Nat) (Q : Exit → Tm → IHeap → Prop) : Exit → Tm → IHeap → Prop
  | .normal, tm, H => Q .normal tm H
  | .exit id', tm, H => if id' = id then Q .normal tm H else Q (.exit id') tm H
  | .goto l, tm, H => Q (.goto l) tm H
  | .ret, tm, H => Q .ret tm H
  | .panic ch, tm, H => Q (.panic ch) tm H
  | .outgrown, tm, H => Q .outgrown tm H

theorem IWp_block {id : Nat} {c : Code} (h : IWp P N c (blockQ id Q) tm H) : IWp P N (.block id c) Q tm H := by
  refine ⟨fun rr B w g a s r hN hB hm => wpIn_block (wpIn_mono (h.run rr B w g a s r hN hB hm) ?_)⟩
  rintro e a1 w1 ⟨tm1, g1, H1, m1, s1, r1, n1, k1, ne, q⟩
  cases e with
  | exit id' =>
    simp only [Exit.inBlock]
    by_cases hid : id' = id
    · simp only [hid, if_true, blockQ] at q ⊢
      exact ⟨tm1, g1, H1, m1, s1, r1, n1, k1, by simp, q⟩
    · simp only [hid, if_false, blockQ] at q ⊢
      exact ⟨tm1, g1, H1, m1, s1, r1, n1, k1, by simp, q⟩
  | normal => exact ⟨tm1, g1, H1, m1, s1, r1, n1, k1, ne, q⟩
  | outgrown => exact absurd rfl ne
  | goto id => exact ⟨tm1, g1, H1, m1, s1, r1, n1, k1, ne, q⟩
  | ret => exact ⟨tm1, g1, H1, m1, s1, r1, n1, k1, ne, q⟩
  | panic id => exact ⟨tm1, g1, H1, m1, s1, r1, n1, k1, ne, q⟩

/-- A loop: an invariant, a measure that falls. -/
theorem IWp_loop {c : Code} (I : Tm → IHeap → Prop) (μ : Tm → IHeap → Nat) (h0 : I tm H)
    (round : ∀ tm H, I tm H → IWp P N c (thenQ (fun tm' H' => I tm' H' ∧ μ tm' H' < μ tm H) Q) tm H) : IWp P N (.loop c) Q tm H := by
  refine ⟨fun rr B w0 g0 a0 s0 r0 hN0 hB0 hm0 => ?_⟩
  intro b k cs hro hb hr
  have key : ∀ j tm H, μ tm H = j → I tm H → ∀ (w : World) (g : Gs) (a : Act), Mono w0 g0 w g → Sim w g H → RA w g a tm → a.tmps.size = N → Marks rr B w g a.defers →
      ∃ e a' w', Post rr B N Q w0 g0 e a' w' ∧ ArrivesIn (Machine.fenced P (FR rr)) P (lone (b.atR a (.code c :: .inLoop c :: k)) cs w) b k cs e a' w' := by
    intro j
    induction j using Nat.strongRecOn with
    | _ j ih =>
      intro tm H hn hI w g a m s r hN hm
      obtain ⟨e, a₁, w₁, ⟨tm1, g1, H1, m1, s1, r1, n1, k1, ne, q⟩, harr⟩ := (round tm H hI).run rr B w g a s r hN (Nat.le_trans hB0 m.size) hm b (.inLoop c :: k) cs hro hb hr
      have mm := m.tr m1 s0 s
      cases e with
      | normal =>
        obtain ⟨hI1, hlt⟩ := q
        obtain ⟨e₂, a₂, w₂, hq₂, harr₂⟩ := ih (μ tm1 H1) (hn ▸ hlt) tm1 H1 rfl hI1 w₁ g1 a₁ mm s1 r1 n1 k1
        exact ⟨e₂, a₂, w₂, hq₂, .of_steps (StepsIn.trans harr (.one (fenced_calm hb hr rfl) stepR_inLoop)) harr₂⟩
      | exit id => exact ⟨_, a₁, w₁, ⟨tm1, g1, H1, mm, s1, r1, n1, k1, ne, q⟩, .pass (x := .inLoop c) rfl (fun _ _ => .inl (by simp)) harr⟩
      | goto l => exact ⟨_, a₁, w₁, ⟨tm1, g1, H1, mm, s1, r1, n1, k1, ne, q⟩, .pass (x := .inLoop c) rfl (fun _ _ => .inl (by simp)) harr⟩
      | ret => exact ⟨_, a₁, w₁, ⟨tm1, g1, H1, mm, s1, r1, n1, k1, ne, q⟩, .pass (x := .inLoop c) rfl (fun _ _ => .inl (by simp)) harr⟩
      | panic ch => exact ⟨_, a₁, w₁, ⟨tm1, g1, H1, mm, s1, r1, n1, k1, ne, q⟩, .pass (x := .inLoop c) rfl (fun _ _ => .inl (by simp)) harr⟩
      | outgrown => exact absurd rfl ne
  obtain ⟨e, a', w', hq, harr⟩ := key _ tm H rfl h0 w0 g0 a0 (.refl _ _) s0 r0 hN0 hm0
  exact ⟨e, a', w', hq, .of_steps (.one (fenced_calm hb hr rfl) stepR_loop) harr⟩

/-! ### Operands -/
/-- An operand, as a ghost value. -/
def ev (tm : Tm) : Operand → IV
  | .tmp t => tm t
  | .const x => .v x
  | .global g => .v (.pointer (some ⟨g, 0, none⟩))
  | .func f => .v (.func (.func f) #[] #[])

/-- An operand names a slot that there is. -/
def opd (N : Nat) : Operand → Bool
  | .tmp t => decide (t < N)
  | _ => true

theorem RA.ev {w : World} {g : Gs} {a : Act} {tm : Tm} (h : RA w g a tm) {x : Operand} (hx : opd a.tmps.size x = true) : R w g (a.eval x) (ev tm x) := by
  cases x with
  | tmp t => exact h t (by simpa [opd] using hx)
  | const x => exact .v x
  | global x => exact .v _
  | func f => exact .v _

def upd (tm : Tm) (d : Nat) (x : IV) : Tm := fun i => if i = d then x else tm i

theorem upd_same (tm : Tm) (d : Nat) (x : IV) : upd tm d x d = x := by simp [upd]
theorem upd_ne (tm : Tm) {d i : Nat} (x : IV) (h : i ≠ d) : upd tm d x i = tm i := by simp [upd, h]

def updO (tm : Tm) (d : Option Nat) (x : IV) : Tm :=
  match d with
  | some d => upd tm d x
  | none => tm

theorem RA.put {w : World} {g : Gs} {a : Act} {tm : Tm} (h : RA w g a tm) {d : Option Nat} {x : Value} {i : IV} (hx : R w g x i) : RA w g (a.put d x) (updO tm d i) := by
  cases d with
  | none => exact h
  | some d =>
    intro j hj
    have hj' : j < a.tmps.size := by simpa [Act.put] using hj
    simp only [Act.put, updO, upd]
    by_cases e : j = d
    · subst e
      simp [hj', hx]
    · simp [e, Ne.symm e]
      have := h j hj'
      simpa using this

theorem put_size (a : Act) (d : Option Nat) (x : Value) : (a.put d x).tmps.size = a.tmps.size := by cases d <;> simp [Act.put]
theorem put_defers (a : Act) (d : Option Nat) (x : Value) : (a.put d x).defers = a.defers := by cases d <;> rfl

theorem IWp_cond {c : Operand} {x y : Code} {b : Bool} (hc : ev tm c = .v (.bool b)) (hN : opd N c = true) (ht : b = true → IWp P N x Q tm H) (hf : b = false → IWp P N y Q tm H) : IWp P N (.cond c x y) Q tm H := by
  refine ⟨fun rr B w g a s r hNa hB hm => ?_⟩
  have hR := r.ev (x := c) (by rw [hNa]; exact hN)
  rw [hc] at hR
  have hev : a.eval c = .bool b := by
    generalize a.eval c = x at hR
    cases hR
    rfl
  cases b with
  | true => exact wpIn_cond hev ((ht rfl).run rr B w g a s r hNa hB hm)
  | false => exact wpIn_cond hev ((hf rfl).run rr B w g a s r hNa hB hm)

/-! ### One operation -/
/-- How an operation goes on, and how it may end. -/
structure IOper (P : Program) (N : Nat) (o : Oper) (tm : Tm) (H : IHeap) (K : IV → IHeap → Prop) (Qp : List PanicEntry → IHeap → Prop) : Prop where
  nd : ∀ c, o.op ≠ .defer c
  run : ∀ (rr : Option Nat) (w : World) (g : Gs) (a : Act), Sim w g H → RA w g a tm → a.tmps.size = N →
    o.uponIn (FR rr) 0 P a
      (fun a' w' => ∃ x i g' H', a' = a.put o.dst x ∧ Mono w g w' g' ∧ Sim w' g' H' ∧ R w' g' x i ∧ K i H')
      (fun e a' w' => ∃ ch g' H', e = .panic ch ∧ a' = a ∧ Mono w g w' g' ∧ Sim w' g' H' ∧ Qp ch H') ((execOp a.eval o).run P w)

theorem uponIn_mono {F : Fence} {n : Nat} {o : Oper} {a : Act} {K K' : Act → World → Prop} {Q Q' : Exit → Act → World → Prop} (hk : ∀ a w, K a w → K' a w) (hq : ∀ e a w, Q e a w → Q' e a w)
    (hF : ∃ rr, F = FR rr) {res : Result Next} (h : o.uponIn F n P a K Q res) : o.uponIn F n P a K' Q' res := by
  obtain ⟨rr, rfl⟩ := hF
  have hL : LetsOut Q → LetsOut Q' := fun ⟨a, w, h⟩ => ⟨a, w, hq _ _ _ h⟩
  cases res with
  | ok x w' =>
    cases x <;> unfold Oper.uponIn at h ⊢ <;>
      first
        | exact hk _ _ h
        | exact ⟨h.1, (callsFR (callsFR' h.2 |>.mono (fun e w'' he => by cases e <;> first | exact hk _ _ he | exact hq _ _ _ he | exact hL he)))⟩
        | exact ⟨h.1, RowsIn.mono h.2 (fun _ _ he => hk _ _ he)⟩
        | exact ⟨h.1, RoundIn.mono h.2 (fun e w'' he => by cases e <;> first | exact hk _ _ he | exact hq _ _ _ he | exact hL he)⟩
        | exact h
  | halt x w' => cases x <;> unfold Oper.uponIn at h ⊢ <;> first | exact hq _ _ _ h | exact h

theorem IOper.mono {o : Oper} {K K' : IV → IHeap → Prop} {Qp Qp' : List PanicEntry → IHeap → Prop} (h : IOper P N o tm H K Qp) (hk : ∀ i H', K i H' → K' i H') (hq : ∀ c H', Qp c H' → Qp' c H') : IOper P N o tm H K' Qp' :=
  ⟨h.nd, fun rr w g a s r hN => uponIn_mono (fun a' w' ⟨x, i, g', H', h1, h2, h3, h4, h5⟩ => ⟨x, i, g', H', h1, h2, h3, h4, hk _ _ h5⟩)
    (fun e a' w' ⟨ch, g', H', h1, h2, h3, h4, h5⟩ => ⟨ch, g', H', h1, h2, h3, h4, hq _ _ h5⟩) ⟨rr, rfl⟩ (h.run rr w g a s r hN)⟩

/-! ### Operations in a row -/
/-- The guard of an operation, over ghost values: is it carried out? -/
def guardV (ops : Array Oper) (tm : Tm) (o : Oper) : Option IV :=
  match o.guard with
  | none => none
  | some (j, _) =>
    match (ops[j]?).bind (·.dst) with
    | some d => some (tm d)
    | none => some .any

structure IOps (P : Program) (N : Nat) (ops : Array Oper) (l : List Nat) (Q : Exit → Tm → IHeap → Prop) (tm : Tm) (H : IHeap) : Prop where
  run : ∀ (rr : Option Nat) (B : Nat) (w : World) (g : Gs) (a : Act), Sim w g H → RA w g a tm → a.tmps.size = N → B ≤ w.heap.size → Marks rr B w g a.defers →
    wpOpsIn (FR rr) 0 P ops (Post rr B N Q w g) l a w

theorem FR_about {rr : Option Nat} {P : Program} {w : World} {ρ : Operand → Value} {o : Oper} : ∀ f, o.about P w ρ = some f → (FR rr).fn f := fun _ _ => trivial

theorem wpOpsIn_mono {rr : Option Nat} {n : Nat} {ops : Array Oper} {Q Q' : Exit → Act → World → Prop} : ∀ (l : List Nat) (a : Act) (w : World), (∀ e a w, Q e a w → Q' e a w) → wpOpsIn (FR rr) n P ops Q l a w → wpOpsIn (FR rr) n P ops Q' l a w := by
  intro l
  induction l with
  | nil => exact fun a w hq h => hq _ _ _ h
  | cons i l ih =>
    intro a w hq h
    simp only [wpOpsIn] at h ⊢
    cases ho : ops[i]? with
    | none => simp only [ho] at h ⊢; exact ih _ _ hq h
    | some o =>
      simp only [ho] at h ⊢
      split
      · rename_i hw
        simp only [hw, if_true] at h
        exact ⟨h.1, uponIn_mono (fun a w h => ih a w hq h) hq ⟨rr, rfl⟩ h.2⟩
      · rename_i hw
        simp only [hw] at h
        exact ⟨h.1, ih _ _ hq h.2⟩

theorem IOps_nil {ops : Array Oper} (h : Q .normal tm H) : IOps P N ops [] Q tm H :=
  ⟨fun _ _ w g _ s r hN _ hm => ⟨tm, g, H, .refl w g, s, r, hN, hm, by simp, h⟩⟩

/-- An operation that is carried out. -/
theorem IOps_run {ops : Array Oper} {i : Nat} {l : List Nat} {o : Oper} (ho : ops[i]? = some o)
    (hg : ∀ (w : World) (g : Gs) (a : Act), RA w g a tm → a.tmps.size = N → Region.wanted o (yielded ops a.tmps) = true)
    (h : IOper P N o tm H (fun x H' => IOps P N ops l Q (updO tm o.dst x) H') (fun ch H' => Q (.panic ch) tm H')) : IOps P N ops (i :: l) Q tm H := by
  refine ⟨fun rr B w g a s r hN hB hm => ?_⟩
  simp only [wpOpsIn, ho, hg w g a r hN, if_true]
  refine ⟨FR_about, ?_⟩
  have hsem : o.semAt (FR rr).round a.eval = execOp a.eval o := Oper.semAt_eq _ _ _ h.nd
  rw [hsem]
  have hrun := h.run rr w g a s r hN
  refine uponIn_mono ?_ ?_ ⟨rr, rfl⟩ hrun
  · rintro a' w' ⟨x, i, g', H', rfl, m, s', hr, hk⟩
    have := hk.run rr B w' g' (a.put o.dst x) s' ((r.mono m).put hr) (by rw [put_size]; exact hN) (Nat.le_trans hB m.size) (by rw [put_defers]; exact hm.mono m)
    exact wpOpsIn_mono l _ _ (fun e a w h => Post.tr m s s' h) this
  · rintro e a' w' ⟨ch, g', H', rfl, rfl, m, s', hq⟩
    exact ⟨tm, g', H', m, s', r.mono m, hN, hm.mono m, by simp, hq⟩

/-- One that is not. -/
theorem IOps_skip {ops : Array Oper} {i : Nat} {l : List Nat} {o : Oper} (ho : ops[i]? = some o)
    (hg : ∀ (w : World) (g : Gs) (a : Act), RA w g a tm → a.tmps.size = N → Region.wanted o (yielded ops a.tmps) = false)
    (h : IOps P N ops l Q (updO tm o.dst (.v undef)) H) : IOps P N ops (i :: l) Q tm H := by
  refine ⟨fun rr B w g a s r hN hB hm => ?_⟩
  simp only [wpOpsIn, ho, hg w g a r hN, Bool.false_eq_true, if_false]
  refine ⟨FR_about, ?_⟩
  exact h.run rr B w g (a.put o.dst undef) s (r.put (.v _)) (by rw [put_size]; exact hN) hB (by rw [put_defers]; exact hm)

theorem IWp_region {id : Nat} {ops : Array Oper} (h : IOps P N ops (List.range ops.size) Q tm H) : IWp P N (.region id ops false) Q tm H :=
  ⟨fun rr B w g a s r hN hB hm => wpIn_region (h.run rr B w g a s r hN hB hm)⟩
end Go.Idl

namespace Go.Idl
open Go Go.RowKit

variable {P : Program}

def Side (p : Prop) : Prop := p
theorem Side_true {p : Prop} (h : p) : Side p = True := eq_true h

def bytes (s : ByteArray) : List UInt8 := s.data.toList
abbrev str (l : List UInt8) : Value := .string ⟨l.toArray⟩
theorem bytes_mk (l : List UInt8) : bytes ⟨l.toArray⟩ = l := by simp [bytes]
theorem bytes_size (s : ByteArray) : s.size = (bytes s).length := by simp [bytes]
theorem mk_bytes (s : ByteArray) : (⟨(bytes s).toArray⟩ : ByteArray) = s := by simp [bytes]
theorem bytes_inj {a b : ByteArray} (h : bytes a = bytes b) : a = b := by
  rw [← mk_bytes a, ← mk_bytes b, h]
theorem bytes_toList (s : ByteArray) : s.toList = bytes s := ByteArray.toList_eq s

/-! ### Comparisons and sums -/
def binI (op : BinOp) (k : IntKind) (a b : Int) : Option (Prop × Value) :=
  match op with
  | .add => some (True, .int k (k.wrap (a + b)))
  | .sub => some (True, .int k (k.wrap (a - b)))
  | .mul => some (True, .int k (k.wrap (a * b)))
  | .quo => some (Side (b ≠ 0), .int k (k.wrap (a.tdiv b)))
  | .rem => some (Side (b ≠ 0), .int k (a.tmod b))
  | .eql => some (True, .bool (decide (a = b)))
  | .neq => some (True, .bool (decide (¬ a = b)))
  | .lss => some (True, .bool (decide (a < b)))
  | .leq => some (True, .bool (decide (a ≤ b)))
  | .gtr => some (True, .bool (decide (b < a)))
  | .geq => some (True, .bool (decide (b ≤ a)))
  | _ => none

def binS (op : BinOp) (a b : List UInt8) : Option (Prop × Value) :=
  match op with
  | .add => some (Side ((a.length : Int) + b.length ≤ 9223372036854775807), str (a ++ b))
  | .eql => some (True, .bool (decide (a = b)))
  | .neq => some (True, .bool (decide (¬ a = b)))
  | .lss => some (True, .bool (Op.bytesLess a b))
  | .leq => some (True, .bool (Op.bytesLess a b || decide (a = b)))
  | .gtr => some (True, .bool (!(Op.bytesLess a b || decide (a = b))))
  | .geq => some (True, .bool (!Op.bytesLess a b))
  | _ => none

theorem binI_sound {op : BinOp} {k : IntKind} {a b : Int} {s : Prop} {v : Value} (h : binI op k a b = some (s, v)) (hs : s) (t : TypeId) (w : World) :
    (binOp op t (.int k a) (.int k b)).run P w = .ok v w := by
  cases op <;> simp only [binI, Option.some.injEq, Prod.mk.injEq, reduceCtorEq] at h <;> obtain ⟨rfl, rfl⟩ := h
  · simp [binOp, Op.intArith]
  · simp [binOp, Op.intArith]
  · simp [binOp, Op.intArith]
  · have hs' : ¬ b = 0 := hs
    simp [binOp, Op.intDiv, hs']
  · have hs' : ¬ b = 0 := hs
    simp [binOp, Op.intDiv, hs']
  · simp [binOp, Op.intCmp, BEq.beq]
  · simp [binOp, Op.intCmp, bne, BEq.beq]
  · simp [binOp, Op.intCmp]
  · simp [binOp, Op.intCmp]
  · simp [binOp, Op.intCmp]
  · simp [binOp, Op.intCmp]

theorem binS_sound {op : BinOp} {a b : ByteArray} {s : Prop} {v : Value} (h : binS op (bytes a) (bytes b) = some (s, v)) (hs : s) (t : TypeId) (w : World) :
    (binOp op t (.string a) (.string b)).run P w = .ok v w := by
  have e : ∀ x y : List UInt8, (x == y) = decide (x = y) := fun x y => by rw [Bool.eq_iff_iff]; simp only [beq_iff_eq, decide_eq_true_eq]
  cases op <;> simp only [binS, Option.some.injEq, Prod.mk.injEq, reduceCtorEq] at h <;> obtain ⟨rfl, rfl⟩ := h
  · have hs' : ((a.size + b.size : Nat) : Int) ≤ 9223372036854775807 := by
      have hs2 : ((bytes a).length : Int) + (bytes b).length ≤ 9223372036854775807 := hs
      have h1 := bytes_size a
      have h2 := bytes_size b
      omega
    have h2 : ¬ (((a.size + b.size : Nat) : Int) > IntKind.i64.max) := by
      have : IntKind.i64.max = 9223372036854775807 := by decide
      omega
    have h3 : (⟨(bytes a ++ bytes b).toArray⟩ : ByteArray) = a ++ b := by
      apply bytes_inj
      rw [bytes_mk]
      simp [bytes]
    simp only [binOp, Op.stringOp]
    rw [if_neg h2, str, h3]
    rfl
  all_goals simp only [binOp, Op.stringOp, bytes_toList, e, Sem.run_pure, decide_not]

def binV (P : Program) (op : BinOp) (t : TypeId) (x y : Value) : Option (Prop × Value) :=
  match x, y with
  | .int k a, .int k' b => if k = k' then binI op k a b else none
  | .string a, .string b => binS op (bytes a) (bytes b)
  | .bool a, .bool b =>
    match P.underlying t with
    | some .bool => match op with | .eql => some (True, .bool (decide (a = b))) | .neq => some (True, .bool (decide (¬ a = b))) | _ => none
    | _ => none
  | .pointer none, .pointer none =>
    match P.underlying t with
    | some (.pointer _) => match op with | .eql => some (True, .bool true) | .neq => some (True, .bool false) | _ => none
    | _ => none
  | .map none, .map none =>
    match P.underlying t with
    | some (.map _ _) => match op with | .eql => some (True, .bool true) | .neq => some (True, .bool false) | _ => none
    | _ => none
  | _, _ => none

theorem shift_guard {op : BinOp} {k k' : IntKind} {a b : Int} {s : Prop} {v : Value} (h : binI op k a b = some (s, v)) : op ≠ .shl ∧ op ≠ .shr := by
  cases op <;> simp [binI] at h <;> simp

theorem run_equal_of {t : TypeId} {x y : Value} {w : World} {b : Bool} (h : ∀ d, (Op.equalIn (d + 1) t x y).run P w = .ok b w) : (Op.equal t x y).run P w = .ok b w := h 9999

theorem binV_sound {op : BinOp} {t : TypeId} {x y : Value} {s : Prop} {v : Value} (h : binV P op t x y = some (s, v)) (hs : s) (ox oy : Operand) (w : World) :
    (do eqGuard op t ox oy x y; binOp op t x y : Sem Value).run P w = .ok v w := by
  unfold binV at h
  split at h
  · rename_i k a k' b
    split at h
    · rename_i hk
      subst hk
      have hg : (eqGuard op t ox oy (.int k a) (.int k b)).run P w = .ok () w := by
        unfold eqGuard; split <;> rfl
      rw [Sem.run_bind, hg]
      exact binI_sound h hs t w
    · cases h
  · rename_i a b
    have hg : (eqGuard op t ox oy (.string a) (.string b)).run P w = .ok () w := by
      unfold eqGuard; split <;> rfl
    rw [Sem.run_bind, hg]
    exact binS_sound h hs t w
  · rename_i a b
    have hg : (eqGuard op t ox oy (.bool a) (.bool b)).run P w = .ok () w := by
      unfold eqGuard; split <;> rfl
    rw [Sem.run_bind, hg]
    split at h
    · rename_i hu
      have hr : (Op.equal t (.bool a) (.bool b)).run P w = .ok (a == b) w := run_equal_of fun d => by
        simp [Op.equalIn, run_underlying hu]
      cases op <;> simp only [Option.some.injEq, Prod.mk.injEq, reduceCtorEq] at h <;> obtain ⟨rfl, rfl⟩ := h <;> simp [binOp, hr, BEq.beq]
    · cases h
  · have hg : (eqGuard op t ox oy (.pointer none) (.pointer none)).run P w = .ok () w := by
      unfold eqGuard; split <;> rfl
    rw [Sem.run_bind, hg]
    split at h
    · rename_i e hu
      have hr : (Op.equal t (.pointer none) (.pointer none)).run P w = .ok true w := run_equal_of fun d => by
        simp [Op.equalIn, run_underlying hu]
      cases op <;> simp only [Option.some.injEq, Prod.mk.injEq, reduceCtorEq] at h <;> obtain ⟨rfl, rfl⟩ := h <;> simp [binOp, hr]
    · cases h
  · have hg : (eqGuard op t ox oy (.map none) (.map none)).run P w = .ok () w := by
      unfold eqGuard; split <;> rfl
    rw [Sem.run_bind, hg]
    split at h
    · rename_i e1 e2 hu
      have hr : (Op.equal t (.map none) (.map none)).run P w = .ok true w := run_equal_of fun d => by
        simp [Op.equalIn, run_underlying hu]
      cases op <;> simp only [Option.some.injEq, Prod.mk.injEq, reduceCtorEq] at h <;> obtain ⟨rfl, rfl⟩ := h <;> simp [binOp, hr]
    · cases h
  · cases h
end Go.Idl

namespace Go.Idl
open Go Go.RowKit

variable {P : Program}

theorem run_sizeOf_pos {t : TypeId} (h : 0 < P.cellsOf t) (w : World) : (sizeOf t).run P w = .ok (P.cellsOf t) w := by
  unfold Program.cellsOf at h ⊢
  cases hi : P.info? t with
  | none => simp [hi] at h
  | some i => simp [sizeOf, typeInfo, hi]

theorem addr_add (b o n : Nat) : (⟨b, o, none⟩ : Addr).add n = ⟨b, o + n, none⟩ := by unfold Addr.add; split <;> simp_all

/-! ### Length -/
def lenP (d : Option TypeDesc) (x : IV) : Option (Prop × IV) :=
  match d, x with
  | some .string, .v (.string s) => some (True, .v (.int .i64 (bytes s).length))
  | some (.slice _), .sl _ es => some (True, .v (.int .i64 es.length))
  | some (.slice _), .os _ n => some (True, .v (.int .i64 n))
  | some (.slice _), .bs _ _ n => some (True, .v (.int .i64 n))
  | some (.slice _), .v (.slice _ n _) => some (True, .v (.int .i64 n))
  | some (.array n _), _ => some (True, .v (.int .i64 n))
  | some (.map _ _), .v (.map none) => some (True, .v (.int .i64 (0 : Nat)))
  | _, _ => none

theorem lenP_sound {t : TypeId} {x : Value} {i r : IV} {s : Prop} {w : World} {g : Gs} (hx : R w g x i) (h : lenP (P.underlying t) i = some (s, r)) (args : Array Value) (ats : Array TypeId) (ty : TypeId)
    (ha : args[0]? = some x) (hat : ats[0]? = some t) : ∃ v, (Builtin.len_ ats ty args).run P w = .ok v w ∧ R w g v r := by
  cases hu : P.underlying t with
  | none => simp [hu, lenP] at h
  | some d =>
    rw [hu] at h
    have key : ∀ v, (match d, x with
      | .string, .string s => pure (goInt s.size)
      | .array n _, _ => pure (goInt n)
      | .slice _, .slice _ n _ => pure (goInt n)
      | .map _ _, .map none => pure (goInt 0)
      | _, _ => stuck "" : Sem Value).run P w = .ok v w → (Builtin.len_ ats ty args).run P w = .ok v w := by
      intro v hv
      unfold Builtin.len_
      simp only [ha, hat, Sem.run_bind, run_underlying hu, Result.andThen_ok]
      cases d <;> cases x <;> first | exact hv | (simp at hv; done) | skip
      rename_i r
      cases r <;> first | exact hv | (simp at hv; done)
    cases d with
    | string =>
      cases i <;> simp only [lenP, reduceCtorEq] at h
      rename_i x'
      cases x' <;> simp only [Option.some.injEq, Prod.mk.injEq, reduceCtorEq] at h
      obtain ⟨rfl, rfl⟩ := h
      cases hx
      exact ⟨goInt _, key _ rfl, by rw [← bytes_size]; exact .v _⟩
    | slice e =>
      cases i <;> simp only [lenP, reduceCtorEq] at h
      case v x' =>
        cases x' <;> simp only [Option.some.injEq, Prod.mk.injEq, reduceCtorEq] at h
        obtain ⟨rfl, rfl⟩ := h
        cases hx
        exact ⟨_, key _ rfl, .v _⟩
      case sl sz es =>
        simp only [Option.some.injEq, Prod.mk.injEq] at h
        obtain ⟨rfl, rfl⟩ := h
        cases hx with
        | sl0 a cap => exact ⟨_, key _ rfl, .v _⟩
        | sl b off cap _ _ cv => exact ⟨_, key _ rfl, .v _⟩
      case os k n =>
        simp only [Option.some.injEq, Prod.mk.injEq] at h
        obtain ⟨rfl, rfl⟩ := h
        cases hx with
        | os _ _ _ _ _ hx' => obtain ⟨a, cap, rfl⟩ := hx'; exact ⟨_, key _ rfl, .v _⟩
      case bs k off n =>
        simp only [Option.some.injEq, Prod.mk.injEq] at h
        obtain ⟨rfl, rfl⟩ := h
        cases hx with
        | bs _ _ _ _ _ hx' => obtain ⟨a, cap, rfl, _⟩ := hx'; exact ⟨_, key _ rfl, .v _⟩
    | array n e =>
      simp only [lenP, Option.some.injEq, Prod.mk.injEq] at h
      obtain ⟨rfl, rfl⟩ := h
      exact ⟨_, key _ rfl, .v _⟩
    | map k e =>
      cases i <;> simp only [lenP, reduceCtorEq] at h
      rename_i x'
      cases x' <;> try (simp [lenP] at h; done)
      rename_i r'
      cases r' with
      | some q => simp [lenP] at h
      | none =>
        simp only [lenP, Option.some.injEq, Prod.mk.injEq] at h
        obtain ⟨rfl, rfl⟩ := h
        cases hx
        exact ⟨_, key _ rfl, .v _⟩
    | _ => simp [lenP] at h

/-! ### Addresses of elements and fields -/
theorem get_of_getD {α : Type} {l : List α} {i : Nat} (d : α) (h : i < l.length) : l[i]? = some (l.getD i d) := by
  simp [List.getD, List.getElem?_eq_getElem h]

theorem drop_get {α : Type} (l : List α) (n j : Nat) : (l.drop n)[j]? = l[n + j]? := by simp

/-- The cells of frozen memory from an offset on. -/
theorem R.cp_drop {w : World} {g : Gs} {b off : Nat} {cs : List IV} (h : R w g (.pointer (some ⟨b, off, none⟩)) (.cp cs)) (n : Nat) : R w g (.pointer (some ⟨b, off + n, none⟩)) (.cp (cs.drop n)) := by
  cases h with
  | cp _ _ _ cv hb hlt hc ho hr =>
    refine .cp b (off + n) _ (fun j => cv (n + j)) hb hlt (fun j c hj => ?_) (fun j c hj => ho _ _ (by rw [← drop_get]; exact hj)) (fun j c hj => hr _ _ (by rw [← drop_get]; exact hj))
    rw [Nat.add_assoc]
    exact hc _ _ (by rw [← drop_get]; exact hj)

theorem R.cp_addr {w : World} {g : Gs} {x : Value} {cs : List IV} (h : R w g x (.cp cs)) : ∃ b off, x = .pointer (some ⟨b, off, none⟩) := by
  cases h with
  | cp b off => exact ⟨b, off, rfl⟩

theorem R.sl_elem {w : World} {g : Gs} {b off len cap sz : Nat} {es : List (List IV)} (h : R w g (.slice (some ⟨b, off, none⟩) len cap) (.sl sz es)) (i : Nat) (hi : i < es.length) :
    R w g (.pointer (some ⟨b, off + i * sz, none⟩)) (.cp (es.getD i [])) := by
  cases h with
  | sl0 => simp at hi
  | sl _ _ _ _ _ cv hb hlt hlen hcap hsz hc ho hr =>
    have he := get_of_getD (l := es) [] hi
    exact .cp b _ _ (cv i) hb hlt (fun j c hj => hc i _ j c he hj) (fun j c hj => ho i _ j c he hj) (fun j c hj => hr i _ j c he hj)

theorem R.sl_form {w : World} {g : Gs} {x : Value} {sz : Nat} {es : List (List IV)} (h : R w g x (.sl sz es)) : ∃ a cap, x = .slice a es.length cap ∧ (0 < es.length → ∃ b off, a = some ⟨b, off, none⟩) := by
  cases h with
  | sl0 a cap => exact ⟨a, cap, rfl, fun h => by simp at h⟩
  | sl b off cap _ _ cv => exact ⟨_, cap, rfl, fun _ => ⟨b, off, rfl⟩⟩

def ixP (P : Program) (d : Option TypeDesc) (x i : IV) : Option (Prop × IV) :=
  match d, i with
  | some (.slice e), .v (.int _ n) =>
    match x with
    | .sl sz es => if P.cellsOf e = sz then some (Side (0 < sz) ∧ Side (0 ≤ n) ∧ Side (n < es.length), .cp (es.getD n.toNat [])) else none
    | .bs k off m => some (Side (0 < P.cellsOf e) ∧ Side (0 ≤ n) ∧ Side (n < m), .p k (off + n.toNat * P.cellsOf e))
    | _ => none
  | some (.array m e), .v (.int _ n) =>
    match x with
    | .p k off => some (Side (0 < P.cellsOf e) ∧ Side (0 ≤ n) ∧ Side (n < m), .p k (off + n.toNat * P.cellsOf e))
    | .pr k z off => some (Side (0 < P.cellsOf e) ∧ Side (0 ≤ n) ∧ Side (n < m), .pr k z (off + n.toNat * P.cellsOf e))
    | .cp cs => some (Side (0 < P.cellsOf e) ∧ Side (0 ≤ n) ∧ Side (n < m), .cp (cs.drop (n.toNat * P.cellsOf e)))
    | _ => none
  | _, _ => none

theorem run_indexAt_slice {t e : TypeId} (hu : P.underlying t = some (.slice e)) (hc : 0 < P.cellsOf e) (a : Addr) (len cap : Nat) (k : IntKind) (n : Int) (h0 : 0 ≤ n) (h1 : n < len) (w : World) :
    (Instr.indexAt t (.slice (some a) len cap) (.int k n)).run P w = .ok (.pointer (some (a.add (n.toNat * P.cellsOf e)))) w := by
  simp [Instr.indexAt, asIntOf, run_underlying hu, h0, h1, run_sizeOf_pos hc]

theorem run_indexAt_array {t e : TypeId} {len : Nat} (hu : P.underlying t = some (.array len e)) (hc : 0 < P.cellsOf e) (a : Addr) (k : IntKind) (n : Int) (h0 : 0 ≤ n) (h1 : n < len) (w : World) :
    (Instr.indexAt t (.pointer (some a)) (.int k n)).run P w = .ok (.pointer (some (a.add (n.toNat * P.cellsOf e)))) w := by
  simp [Instr.indexAt, asIntOf, run_underlying hu, h0, h1, run_sizeOf_pos hc, Instr.sureAddr]

theorem R.p_add {w : World} {g : Gs} {a : Addr} {k off : Nat} (h : R w g (.pointer (some a)) (.p k off)) (n : Nat) : R w g (.pointer (some (a.add n))) (.p k (off + n)) := by
  cases h with
  | p _ _ _ hk hx h =>
    refine .p k _ _ hk ⟨_, rfl⟩ fun s hs e => ?_
    obtain ⟨b, h1, h2⟩ := h s hs e
    simp only [Value.pointer.injEq, Option.some.injEq] at h2
    subst h2
    exact ⟨b, h1, by rw [addr_add]⟩

theorem R.pr_add {w : World} {g : Gs} {a : Addr} {k z off : Nat} (h : R w g (.pointer (some a)) (.pr k z off)) (n : Nat) : R w g (.pointer (some (a.add n))) (.pr k z (off + n)) := by
  cases h with
  | pr _ _ _ _ hk hx h =>
    refine .pr k z _ _ hk ⟨_, rfl⟩ fun m hm => ?_
    obtain ⟨h0, h⟩ := h m hm
    refine ⟨h0, fun e => ?_⟩
    obtain ⟨b, cap, h1, h2⟩ := h e
    simp only [Value.pointer.injEq, Option.some.injEq] at h2
    subst h2
    exact ⟨b, cap, h1, by rw [addr_add]⟩

theorem R.p_form {w : World} {g : Gs} {x : Value} {k off : Nat} (h : R w g x (.p k off)) : ∃ a, x = .pointer (some a) := by
  cases h with
  | p _ _ _ hk hx h => exact hx
theorem R.pr_form {w : World} {g : Gs} {x : Value} {k z off : Nat} (h : R w g x (.pr k z off)) : ∃ a, x = .pointer (some a) := by
  cases h with
  | pr _ _ _ _ hk hx h => exact hx

theorem R.v_eq {w : World} {g : Gs} {x y : Value} (h : R w g x (.v y)) : x = y := by
  cases h
  rfl

/-- An own slice's address of an element: the header has an address where there is an element; where it is stale nothing is claimed. -/
theorem R.os_elem {w : World} {g : Gs} {H : IHeap} {x : Value} {k m : Nat} (s : Sim w g H) (hx : R w g x (.os k m)) (hl : ∃ sz es, H.obj k = some (.row sz es) ∧ es.length = m) (n : Nat) (hn : n < m) (c : Nat) :
    ∃ a cap, x = .slice (some a) m cap ∧ R w g (.pointer (some (a.add (n * c)))) (.pr k m (n * c)) := by
  cases hx with
  | os _ _ _ hk h hx =>
    obtain ⟨sz, es, ho, rfl⟩ := hl
    have hsh : g.sh k = some (.row es.length) := by rw [s.sh, IHeap.sh, ho]; rfl
    obtain ⟨_, hq⟩ := h _ hsh
    have hmu := hq rfl
    obtain ⟨a, cap, h1, _, _, _, _, h2⟩ := s.obj k _ ho
    rcases h2 with ⟨rfl, rfl⟩ | ⟨b, xs, el, f, rfl, _⟩
    · have hz : es.length ≤ 0 := by assumption
      omega
    · refine ⟨⟨b, 0, none⟩, cap, hmu.trans h1, .pr k _ _ _ hk ⟨_, rfl⟩ fun m' hm' => ?_⟩
      rw [hsh] at hm'
      cases hm'
      exact ⟨Nat.le_refl _, fun _ => ⟨b, cap, h1, by rw [addr_add, Nat.zero_add]⟩⟩

theorem ixP_sound {t : TypeId} {x y : Value} {i j r : IV} {s : Prop} {w : World} {g : Gs} (hx : R w g x i) (hy : R w g y j) (h : ixP P (P.underlying t) i j = some (s, r)) (hs : s) :
    ∃ v, (Instr.indexAt t x y).run P w = .ok v w ∧ R w g v r := by
  cases hu : P.underlying t with
  | none => simp [hu, ixP] at h
  | some d =>
    rw [hu] at h
    cases j <;> try (cases d <;> simp [ixP] at h; done)
    rename_i y'
    cases y' <;> try (cases d <;> simp [ixP] at h; done)
    rename_i kk n
    obtain rfl := hy.v_eq
    cases d <;> try (simp [ixP] at h; done)
    case slice e =>
      cases i <;> simp only [ixP, reduceCtorEq] at h
      case sl sz es =>
        split at h
        · rename_i hz
          simp only [Option.some.injEq, Prod.mk.injEq] at h
          obtain ⟨rfl, rfl⟩ := h
          obtain ⟨h1, h2, h3⟩ := hs
          have h1' : 0 < sz := h1
          have h2' : 0 ≤ n := h2
          have h3' : n < es.length := h3
          obtain ⟨a, cap, rfl, ha⟩ := hx.sl_form
          obtain ⟨b, off, rfl⟩ := ha (by omega)
          refine ⟨_, run_indexAt_slice hu (by omega) _ _ _ _ _ h2' h3' w, ?_⟩
          rw [addr_add, hz]
          exact hx.sl_elem _ (by omega)
        · cases h
      case bs k off m =>
        simp only [Option.some.injEq, Prod.mk.injEq] at h
        obtain ⟨rfl, rfl⟩ := h
        obtain ⟨h1, h2, h3⟩ := hs
        cases hx with
        | bs _ _ _ _ hk hx' hq =>
          obtain ⟨a, cap, rfl, _⟩ := hx'
          refine ⟨_, run_indexAt_slice hu h1 _ _ _ _ _ h2 h3 w, .p k _ _ hk ⟨_, rfl⟩ fun s hs e => ?_⟩
          obtain ⟨b, cap', q1, q2⟩ := hq s hs e
          simp only [Value.slice.injEq, Option.some.injEq] at q2
          obtain ⟨rfl, _, _⟩ := q2
          exact ⟨b, q1, by rw [addr_add]⟩
    case array m e =>
      cases i <;> simp only [ixP, reduceCtorEq, Option.some.injEq, Prod.mk.injEq] at h <;> obtain ⟨rfl, rfl⟩ := h <;> obtain ⟨h1, h2, h3⟩ := hs
      case cp cs =>
        obtain ⟨b, off, rfl⟩ := hx.cp_addr
        refine ⟨_, run_indexAt_array hu h1 _ _ _ h2 h3 w, ?_⟩
        rw [addr_add]
        exact hx.cp_drop _
      case p k off =>
        obtain ⟨a, rfl⟩ := hx.p_form
        exact ⟨_, run_indexAt_array hu h1 _ _ _ h2 h3 w, hx.p_add _⟩
      case pr k z off =>
        obtain ⟨a, rfl⟩ := hx.pr_form
        exact ⟨_, run_indexAt_array hu h1 _ _ _ h2 h3 w, hx.pr_add _⟩

def fdP (P : Program) (d : Option TypeDesc) (x : IV) (f : Nat) : Option (Prop × IV) :=
  match d with
  | some (.struct fs) =>
    match fs[f]? with
    | some fd =>
      match x with
      | .p k off => some (Side (0 < P.cellsOf fd.type), .p k (off + fd.offset))
      | .pr k z off => some (Side (0 < P.cellsOf fd.type), .pr k z (off + fd.offset))
      | .cp cs => some (Side (0 < P.cellsOf fd.type), .cp (cs.drop fd.offset))
      | _ => none
    | none => none
  | _ => none

theorem run_fieldAt {t : TypeId} {fs : Array Field} (hu : P.underlying t = some (.struct fs)) {f : Nat} {fd : Field} (hf : fs[f]? = some fd) (hc : 0 < P.cellsOf fd.type) (a : Addr) (w : World) :
    (Instr.fieldAt t (.pointer (some a)) f).run P w = .ok (.pointer (some (a.add fd.offset))) w := by
  have hn : ¬ P.cellsOf fd.type = 0 := by omega
  simp [Instr.fieldAt, run_underlying hu, hf, Instr.sureAddr, fieldPlace, run_sizeOf_pos hc, hn]

theorem fdP_sound {t : TypeId} {x : Value} {i r : IV} {f : Nat} {s : Prop} {w : World} {g : Gs} (hx : R w g x i) (h : fdP P (P.underlying t) i f = some (s, r)) (hs : s) :
    ∃ v, (Instr.fieldAt t x f).run P w = .ok v w ∧ R w g v r := by
  unfold fdP at h
  split at h
  · rename_i fs hu
    split at h
    · rename_i fd hf
      cases i <;> simp only [reduceCtorEq, Option.some.injEq, Prod.mk.injEq] at h <;> obtain ⟨rfl, rfl⟩ := h
      case cp cs =>
        obtain ⟨b, off, rfl⟩ := hx.cp_addr
        refine ⟨_, run_fieldAt hu hf hs _ w, ?_⟩
        rw [addr_add]
        exact hx.cp_drop _
      case p k off =>
        obtain ⟨a, rfl⟩ := hx.p_form
        exact ⟨_, run_fieldAt hu hf hs _ w, hx.p_add _⟩
      case pr k z off =>
        obtain ⟨a, rfl⟩ := hx.pr_form
        exact ⟨_, run_fieldAt hu hf hs _ w, hx.pr_add _⟩
    · cases h
  · cases h

/-! ### Loads from frozen memory; parts of structs and arrays -/
def aggD : TypeDesc → Bool
  | .struct _ => true
  | .array _ _ => true
  | _ => false

theorem run_isAgg {t : TypeId} {d : TypeDesc} (hu : P.underlying t = some d) (w : World) : (isAgg t).run P w = .ok (aggD d) w := by
  cases d <;> simp [isAgg, run_underlying hu, aggD]

def ldP (P : Program) (t : TypeId) (x : IV) : Option (Prop × IV) :=
  match x with
  | .cp cs =>
    match P.underlying t with
    | some d => if aggD d = true then some (Side (0 < P.cellsOf t) ∧ Side (P.cellsOf t ≤ cs.length), .ag (cs.take (P.cellsOf t))) else some (Side (0 < cs.length), cs.getD 0 .any)
    | none => none
  | _ => none

theorem ldP_sound {t : TypeId} {x : Value} {i r : IV} {s : Prop} {w : World} {g : Gs} (hx : R w g x i) (h : ldP P t i = some (s, r)) (hs : s) :
    ∃ v, (Instr.loadAt t x).run P w = .ok v w ∧ R w g v r := by
  cases i <;> simp only [ldP, reduceCtorEq] at h
  rename_i cs
  cases hu : P.underlying t with
  | none => simp [hu] at h
  | some d =>
    simp only [hu] at h
    cases hx with
    | cp b off _ cv hb hlt hc ho hr =>
      split at h
      · rename_i hd
        simp only [Option.some.injEq, Prod.mk.injEq] at h
        obtain ⟨rfl, rfl⟩ := h
        obtain ⟨h1, h2⟩ := hs
        have h2' : P.cellsOf t ≤ cs.length := h2
        have hrun := run_loadCells (P := P) w ⟨b, off, none⟩ (P.cellsOf t) cv (fun j hj => by
          rw [addr_add]
          exact hc j (cs.getD j .any) (get_of_getD _ (by omega)))
        refine ⟨_, by simp [Instr.loadAt, Instr.sureAddr, loadVar, run_isAgg hu, hd, run_sizeOf_pos h1, hrun]; rfl, .ag _ _ ?_ ?_ ?_⟩
        · simp; omega
        · intro j y hy
          have hjl : j < P.cellsOf t := by
            have := (Array.getElem?_eq_some_iff.1 hy).1
            simpa using this
          simp [hjl] at hy
          subst hy
          exact ho j _ (get_of_getD .any (by omega))
        · intro j y c hy hj
          have hjl : j < P.cellsOf t := by
            by_cases e : j < P.cellsOf t
            · exact e
            · simp [List.getElem?_take, e] at hj
          simp [hjl] at hy
          subst hy
          exact hr j c (by simpa [List.getElem?_take, hjl] using hj)
      · rename_i hd
        simp only [Option.some.injEq, Prod.mk.injEq] at h
        obtain ⟨rfl, rfl⟩ := h
        have hs' : 0 < cs.length := hs
        have he := get_of_getD (l := cs) .any hs'
        have hcell := hc 0 _ he
        refine ⟨cv 0, ?_, hr 0 _ he⟩
        have hd' : aggD d = false := by simpa using hd
        simp only [Nat.add_zero] at hcell
        simp [Instr.loadAt, Instr.sureAddr, loadVar, run_isAgg hu, hd', hcell]

def partP (P : Program) (t : TypeId) (cs : List IV) (off : Nat) : Option (Prop × IV) :=
  match P.underlying t with
  | some d => if aggD d = true then some (Side (0 < P.cellsOf t) ∧ Side (off + P.cellsOf t ≤ cs.length), .ag ((cs.drop off).take (P.cellsOf t))) else some (Side (off < cs.length), cs.getD off .any)
  | none => none

theorem partP_sound {t : TypeId} {xs : Array Value} {cs : List IV} {r : IV} {off : Nat} {s : Prop} {w : World} {g : Gs} (hl : xs.size = cs.length) (ho : ∀ (j : Nat) (x : Value), xs[j]? = some x → x.oneCell' = true)
    (hr : ∀ (j : Nat) (x : Value) (c : IV), xs[j]? = some x → cs[j]? = some c → R w g x c) (h : partP P t cs off = some (s, r)) (hs : s) :
    ∃ v, (part t xs off).run P w = .ok v w ∧ R w g v r := by
  unfold partP at h
  split at h
  · rename_i d hu
    split at h
    · rename_i hd
      simp only [Option.some.injEq, Prod.mk.injEq] at h
      obtain ⟨rfl, rfl⟩ := h
      obtain ⟨h1, h2⟩ := hs
      have h2' : off + P.cellsOf t ≤ cs.length := h2
      refine ⟨_, by simp [part, run_isAgg hu, hd, run_sizeOf_pos h1]; rfl, .ag _ _ ?_ ?_ ?_⟩
      · simp; omega
      · intro j y hy
        rw [Array.getElem?_extract] at hy
        split at hy
        · exact ho _ _ hy
        · cases hy
      · intro j y c hy hj
        rw [Array.getElem?_extract] at hy
        have hjl : j < P.cellsOf t := by
          by_cases e : j < P.cellsOf t
          · exact e
          · simp [List.getElem?_take, e] at hj
        simp only [List.getElem?_take, hjl, if_true, List.getElem?_drop] at hj
        refine hr (off + j) y c ?_ hj
        split at hy
        · exact hy
        · cases hy
    · rename_i hd
      simp only [Option.some.injEq, Prod.mk.injEq] at h
      obtain ⟨rfl, rfl⟩ := h
      have hs' : off < cs.length := hs
      have he := get_of_getD (l := cs) .any hs'
      have hx : xs[off]? = some xs[off] := Array.getElem?_eq_getElem (by omega)
      have hd' : aggD d = false := by simpa using hd
      exact ⟨xs[off], by simp [part, run_isAgg hu, hd', hx], hr _ _ _ hx he⟩
  · cases h

/-- A field, an element of a value. -/
def fvP (P : Program) (d : Option TypeDesc) (x : IV) (f : Nat) : Option (Prop × IV) :=
  match d, x with
  | some (.struct fs), .ag cs => match fs[f]? with | some fd => partP P fd.type cs fd.offset | none => none
  | _, _ => none

theorem fvP_sound {t : TypeId} {x : Value} {i r : IV} {f : Nat} {s : Prop} {w : World} {g : Gs} (hx : R w g x i) (h : fvP P (P.underlying t) i f = some (s, r)) (hs : s) :
    ∃ v, (Instr.field t x f).run P w = .ok v w ∧ R w g v r := by
  unfold fvP at h
  split at h
  · rename_i fs cs hu
    split at h
    · rename_i fd hf
      cases hx with
      | ag xs _ hl ho hr =>
        obtain ⟨v, h1, h2⟩ := partP_sound hl ho hr h hs
        exact ⟨v, by simp [Instr.field, run_underlying hu, hf, asAgg, h1], h2⟩
    · cases h
  · cases h

def ivP (P : Program) (d : Option TypeDesc) (x i : IV) : Option (Prop × IV) :=
  match d, x, i with
  | some (.array m e), .ag cs, .v (.int _ n) =>
    match partP P e cs (n.toNat * P.cellsOf e) with
    | some (s, r) => some (Side (0 < P.cellsOf e) ∧ Side (0 ≤ n) ∧ Side (n < m) ∧ s, r)
    | none => none
  | some .string, .v (.string s), .v (.int _ n) => some (Side (0 ≤ n) ∧ Side (n < (bytes s).length), .v (.int .u8 ((bytes s).getD n.toNat 0).toNat))
  | _, _, _ => none

theorem ivP_sound {t : TypeId} {x y : Value} {i j r : IV} {s : Prop} {w : World} {g : Gs} (hx : R w g x i) (hy : R w g y j) (h : ivP P (P.underlying t) i j = some (s, r)) (hs : s) :
    ∃ v, (Instr.index t x y).run P w = .ok v w ∧ R w g v r := by
  unfold ivP at h
  split at h
  · rename_i m e cs kk n hu
    obtain rfl := hy.v_eq
    split at h
    · rename_i s' r' hp
      simp only [Option.some.injEq, Prod.mk.injEq] at h
      obtain ⟨rfl, rfl⟩ := h
      obtain ⟨h1, h2, h3, h4⟩ := hs
      have h2' : 0 ≤ n := h2
      have h3' : n < m := h3
      cases hx with
      | ag xs _ hl ho hr =>
        obtain ⟨v, q1, q2⟩ := partP_sound hl ho hr hp h4
        exact ⟨v, by simp [Instr.index, asIntOf, run_underlying hu, h2', h3', run_sizeOf_pos h1, q1], q2⟩
    · cases h
  · rename_i sb kk n hu
    obtain rfl := hy.v_eq
    obtain rfl := hx.v_eq
    simp only [Option.some.injEq, Prod.mk.injEq] at h
    obtain ⟨rfl, rfl⟩ := h
    obtain ⟨h1, h2⟩ := hs
    have h1' : 0 ≤ n := h1
    have h2' : n < (bytes sb).length := h2
    have hl : n.toNat < sb.size := by rw [bytes_size]; omega
    refine ⟨_, ?_, .v _⟩
    have hget : sb[n.toNat]? = some ((bytes sb).getD n.toNat 0) := by
      rw [getElem?_pos sb n.toNat hl]
      congr 1
      have hl2 : n.toNat < (bytes sb).length := by omega
      simp [List.getD, List.getElem?_eq_getElem hl2]
      rfl
    simp [Instr.index, asIntOf, run_underlying hu, h1', hget]
  · cases h
end Go.Idl

namespace Go.Idl
open Go Go.RowKit

variable {P : Program}

/-! ### Built values -/
def cellsI : IV → Option (List IV)
  | .ag cs => some cs
  | .v (.agg xs) => if xs.toList.all (·.oneCell') = true then some (xs.toList.map .v) else none
  | .v (.tuple _) => none
  | .tu _ => none
  | .any => none
  | i => some [i]

theorem cellsI_sound {x : Value} {i : IV} {cs : List IV} {w : World} {g : Gs} (hx : R w g x i) (h : cellsI i = some cs) :
    x.cells.size = cs.length ∧ (∀ (j : Nat) (y : Value), x.cells[j]? = some y → y.oneCell' = true) ∧ ∀ (j : Nat) (y : Value) (c : IV), x.cells[j]? = some y → cs[j]? = some c → R w g y c := by
  have one : ∀ {y : Value} {c : IV}, R w g y c → y.oneCell' = true → y.cells.size = [c].length ∧ (∀ (j : Nat) (z : Value), y.cells[j]? = some z → z.oneCell' = true) ∧ ∀ (j : Nat) (z : Value) (d : IV), y.cells[j]? = some z → [c][j]? = some d → R w g z d := by
    intro y c hr hy
    have e : y.cells = #[y] := by cases y <;> first | rfl | (simp [Value.oneCell'] at hy)
    rw [e]
    refine ⟨rfl, fun j z h1 => ?_, fun j z d h1 h2 => ?_⟩
    · cases j with
      | zero => simp at h1; subst h1; exact hy
      | succ j => simp at h1
    · cases j with
      | zero => simp at h1 h2; subst h1; subst h2; exact hr
      | succ j => simp at h1
  cases hx with
  | v x =>
    cases x <;> simp only [cellsI, Option.some.injEq, reduceCtorEq] at h <;> try (subst h; exact one (.v _) rfl)
    rename_i xs
    split at h
    · rename_i hall
      simp only [Option.some.injEq] at h
      subst h
      refine ⟨by simp [Value.cells], fun j y h1 => ?_, fun j y c h1 h2 => ?_⟩
      · simp only [Value.cells] at h1
        rw [List.all_eq_true] at hall
        exact hall y (by rw [Array.mem_toList_iff]; exact Array.mem_of_getElem? h1)
      · simp only [Value.cells] at h1
        simp only [List.getElem?_map, Array.getElem?_toList, h1, Option.map_some, Option.some.injEq] at h2
        subst h2
        exact .v _
    · cases h
  | any x => simp [cellsI] at h
  | sl0 a cap sz => simp only [cellsI, Option.some.injEq] at h; subst h; exact one (.sl0 a cap sz) rfl
  | sl b off cap sz es cv h1 h2 h3 h4 h5 h6 h7 h8 => simp only [cellsI, Option.some.injEq] at h; subst h; exact one (.sl b off cap sz es cv h1 h2 h3 h4 h5 h6 h7 h8) rfl
  | cp b off cs cv h1 h2 h3 h4 h5 => simp only [cellsI, Option.some.injEq] at h; subst h; exact one (.cp b off cs cv h1 h2 h3 h4 h5) rfl
  | ag xs cs' hl ho hr => simp only [cellsI, Option.some.injEq] at h; subst h; exact ⟨hl, ho, hr⟩
  | tu => simp [cellsI] at h
  | fn f xs ys fi ca h1 h2 h3 h4 => simp only [cellsI, Option.some.injEq] at h; subst h; exact one (.fn f xs ys fi ca h1 h2 h3 h4) rfl
  | ifc t x c hr => simp only [cellsI, Option.some.injEq] at h; subst h; exact one (.ifc t x c hr) rfl
  | p k off x hk hx h' => simp only [cellsI, Option.some.injEq] at h; subst h; exact one (.p k off x hk hx h') (by obtain ⟨a, rfl⟩ := hx; rfl)
  | mp k x hk hx h' => simp only [cellsI, Option.some.injEq] at h; subst h; exact one (.mp k x hk hx h') (by obtain ⟨a, rfl⟩ := hx; rfl)
  | os k n x hk h' hx => simp only [cellsI, Option.some.injEq] at h; subst h; exact one (.os k n x hk h' hx) (by obtain ⟨a, c, rfl⟩ := hx; rfl)
  | pr k n off x hk hx h' => simp only [cellsI, Option.some.injEq] at h; subst h; exact one (.pr k n off x hk hx h') (by obtain ⟨a, rfl⟩ := hx; rfl)
  | bs k off n x hk hx h' => simp only [cellsI, Option.some.injEq] at h; subst h; exact one (.bs k off n x hk hx h') (by obtain ⟨a, c, rfl, _⟩ := hx; rfl)

/-- Cells, some of them replaced. -/
def putL (cells vc : List IV) (off : Nat) : List IV := cells.take off ++ vc ++ cells.drop (off + vc.length)

def fillI (place : Nat → Option (Nat × Nat)) (cells : List IV) : List (Nat × IV) → Option (List IV)
  | [] => some cells
  | (i, v) :: rest =>
    match place i, cellsI v with
    | some (off, size), some vc => if vc.length = size ∧ off + vc.length ≤ cells.length then fillI place (putL cells vc off) rest else none
    | _, _ => none

theorem putL_get (cells vc : List IV) (off j : Nat) (h : off + vc.length ≤ cells.length) : (putL cells vc off)[j]? = if off ≤ j ∧ j < off + vc.length then vc[j - off]? else cells[j]? := by
  unfold putL
  rcases Nat.lt_or_ge j off with h1 | h1
  · rw [List.append_assoc, List.getElem?_append_left (by simp; omega), if_neg (by omega), List.getElem?_take, if_pos h1]
  · rcases Nat.lt_or_ge j (off + vc.length) with h2 | h2
    · rw [List.append_assoc, List.getElem?_append_right (by simp; omega), List.getElem?_append_left (by simp; omega), if_pos ⟨h1, h2⟩]
      congr 1
      simp; omega
    · rw [List.getElem?_append_right (by simp; omega), if_neg (by omega), List.getElem?_drop]
      congr 1
      simp; omega

theorem putL_length (cells vc : List IV) (off : Nat) (h : off + vc.length ≤ cells.length) : (putL cells vc off).length = cells.length := by
  simp [putL]; omega

theorem fold_get (vc : List Value) (off : Nat) : ∀ (n : Nat) (cs : Array Value) (j : Nat), off + n + vc.length ≤ cs.size →
    ((vc.zipIdx n).foldl (fun cs (p : Value × Nat) => cs.setIfInBounds (off + p.2) p.1) cs)[j]? = if off + n ≤ j ∧ j < off + n + vc.length then vc[j - (off + n)]? else cs[j]? := by
  induction vc with
  | nil => intro n cs j _; simp; omega
  | cons c vc ih =>
    intro n cs j h
    simp only [List.length_cons] at h
    rw [List.zipIdx_cons, List.foldl_cons, ih (n + 1) _ j (by simp; omega)]
    by_cases h1 : off + (n + 1) ≤ j ∧ j < off + (n + 1) + vc.length
    · rw [if_pos h1, if_pos (by simp only [List.length_cons]; omega)]
      have : j - (off + n) = (j - (off + (n + 1))) + 1 := by omega
      rw [this, List.getElem?_cons_succ]
    · rw [if_neg h1]
      by_cases h2 : j = off + n
      · subst h2
        rw [if_pos (by simp only [List.length_cons]; omega)]
        have hb : off + n < cs.size := by omega
        simp [hb]
      · rw [if_neg (by simp only [List.length_cons]; omega), Array.getElem?_setIfInBounds_ne (by omega)]

theorem fold_size (vc : List Value) (off : Nat) : ∀ (n : Nat) (cs : Array Value), ((vc.zipIdx n).foldl (fun cs (p : Value × Nat) => cs.setIfInBounds (off + p.2) p.1) cs).size = cs.size := by
  induction vc with
  | nil => intro n cs; rfl
  | cons c vc ih => intro n cs; rw [List.zipIdx_cons, List.foldl_cons, ih]; simp

/-- The parts of a built value, as values and as ghost values. -/
def PartsR (w : World) (g : Gs) : List (Nat × Value) → List (Nat × IV) → Prop
  | [], [] => True
  | (n, x) :: xs, (m, i) :: is => n = m ∧ R w g x i ∧ PartsR w g xs is
  | _, _ => False

theorem fill_sound {place : Nat → Option (Nat × Nat)} {w : World} {g : Gs} : ∀ {vs : List (Nat × Value)} {is : List (Nat × IV)} {cells : Array Value} {cs rs : List IV}, PartsR w g vs is →
    cells.size = cs.length → (∀ (j : Nat) (y : Value), cells[j]? = some y → y.oneCell' = true) → (∀ (j : Nat) (y : Value) (c : IV), cells[j]? = some y → cs[j]? = some c → R w g y c) → fillI place cs is = some rs →
    ∃ out, Instr.fill place cells vs = some out ∧ out.size = rs.length ∧ (∀ (j : Nat) (y : Value), out[j]? = some y → y.oneCell' = true) ∧ ∀ (j : Nat) (y : Value) (c : IV), out[j]? = some y → rs[j]? = some c → R w g y c
  | [], [], cells, cs, rs, _, hl, hone, hr, h => by
    simp only [fillI, Option.some.injEq] at h
    subst h
    exact ⟨cells, rfl, hl, hone, hr⟩
  | (n, x) :: vs, (m, i) :: is, cells, cs, rs, hp, hl, hone, hr, h => by
    obtain ⟨rfl, hx, hp⟩ := hp
    simp only [fillI] at h
    cases hpl : place n with
    | none => simp [hpl] at h
    | some os =>
      obtain ⟨off, size⟩ := os
      cases hc : cellsI i with
      | none => simp [hpl, hc] at h
      | some vc =>
        simp only [hpl, hc] at h
        split at h
        · rename_i hb
          obtain ⟨hb1, hb2⟩ := hb
          obtain ⟨h1, h1', h2⟩ := cellsI_sound hx hc
          have hsz : x.cells.size = size := h1.trans hb1
          have hfold := fun j => fold_get x.cells.toList off 0 cells j (by simp; omega)
          obtain ⟨out, e1, e2, e3', e3⟩ := fill_sound (cells := x.cells.toList.zipIdx.foldl (fun cs (p : Value × Nat) => cs.setIfInBounds (off + p.2) p.1) cells) hp (cs := putL cs vc off)
            (by rw [fold_size, putL_length _ _ _ hb2]; exact hl)
            (by
              intro j y hy
              have hf := hfold j
              simp only [Nat.add_zero] at hf
              rw [hf] at hy
              split at hy
              · exact h1' _ _ (by simpa using hy)
              · exact hone _ _ hy)
            (by
              intro j y c hy hj
              rw [putL_get _ _ _ _ hb2] at hj
              have hf := hfold j
              simp only [Nat.add_zero] at hf
              rw [hf] at hy
              have hlen : x.cells.toList.length = vc.length := by simp; exact h1
              rw [hlen] at hy
              split at hj
              · rename_i hin
                rw [if_pos hin] at hy
                exact h2 _ _ _ (by simpa using hy) hj
              · rename_i hin
                rw [if_neg hin] at hy
                exact hr _ _ _ hy hj) h
          refine ⟨out, ?_, e2, e3', e3⟩
          simp only [Instr.fill, hpl]
          rw [if_neg (by simp [hsz]; omega)]
          rw [← Array.foldl_toList, Array.toList_zipIdx]
          exact e1
        · cases h
  | [], _ :: _, _, _, _, hp, _, _, _, _ => hp.elim
  | _ :: _, [], _, _, _, hp, _, _, _, _ => hp.elim

def zeroOf (P : Program) (t : TypeId) : Option Value := (P.info? t).bind (·.zero)

theorem run_zeroValue {t : TypeId} {z : Value} (h : zeroOf P t = some z) (w : World) : (zeroValue t).run P w = .ok z w := by
  unfold zeroOf at h
  cases hi : P.info? t with
  | none => simp [hi] at h
  | some i =>
    simp only [hi, Option.bind_some] at h
    simp [zeroValue, typeInfo, hi, h]

def bdP (P : Program) (t : TypeId) (parts : List (Nat × IV)) : Option (Prop × IV) :=
  match P.underlying t, zeroOf P t with
  | some (.struct fs), some z =>
    if fs.toList.all (fun f => decide (0 < P.cellsOf f.type)) = true ∧ z.cells.toList.all (·.oneCell') = true then
      match fillI (fun i => (fs[i]?).map fun f => (f.offset, P.cellsOf f.type)) (z.cells.toList.map .v) parts with
      | some rs => some (True, .ag rs)
      | none => none
    else none
  | some (.array _ e), some z =>
    if 0 < P.cellsOf e ∧ z.cells.toList.all (·.oneCell') = true then
      match fillI (fun i => some (i * P.cellsOf e, P.cellsOf e)) (z.cells.toList.map .v) parts with
      | some rs => some (True, .ag rs)
      | none => none
    else none
  | _, _ => none

theorem run_places_pos (w : World) : ∀ (fs : List Field), fs.all (fun f => decide (0 < P.cellsOf f.type)) = true →
    (fs.mapM fun f => do pure (f.offset, ← sizeOf f.type) : Sem (List (Nat × Nat))).run P w = .ok (fs.map fun f => (f.offset, P.cellsOf f.type)) w
  | [], _ => by simp
  | f :: fs, h => by
    simp only [List.all_cons, Bool.and_eq_true, decide_eq_true_eq] at h
    have ih := run_places_pos w fs h.2
    simp only [bind_pure_comp] at ih
    simp [List.mapM_cons, run_sizeOf_pos h.1, ih]

theorem bdP_sound {t : TypeId} {vs : Array (Nat × Value)} {is : List (Nat × IV)} {r : IV} {s : Prop} {w : World} {g : Gs} (hp : PartsR w g vs.toList is) (h : bdP P t is = some (s, r)) (hs : s) :
    ∃ v, (Instr.build t vs).run P w = .ok v w ∧ R w g v r := by
  have hzo : ∀ z : Value, z.cells.toList.all (·.oneCell') = true → ∀ (j : Nat) (y : Value), z.cells[j]? = some y → y.oneCell' = true := by
    intro z hall j y h1
    rw [List.all_eq_true] at hall
    exact hall y (by rw [Array.mem_toList_iff]; exact Array.mem_of_getElem? h1)
  have hz : ∀ z : Value, z.cells.size = (z.cells.toList.map IV.v).length ∧ ∀ (j : Nat) (y : Value) (c : IV), z.cells[j]? = some y → (z.cells.toList.map IV.v)[j]? = some c → R w g y c := by
    intro z
    refine ⟨by simp, fun j y c h1 h2 => ?_⟩
    simp only [List.getElem?_map, Array.getElem?_toList, h1, Option.map_some, Option.some.injEq] at h2
    subst h2
    exact .v _
  unfold bdP at h
  split at h
  · rename_i fs z hu hzero
    split at h
    · rename_i hall
      split at h
      · rename_i rs hf
        simp only [Option.some.injEq, Prod.mk.injEq] at h
        obtain ⟨rfl, rfl⟩ := h
        obtain ⟨out, e1, e2, e3', e3⟩ := fill_sound hp (hz z).1 (hzo z hall.2) (hz z).2 hf
        refine ⟨.agg out, ?_, .ag _ _ e2 e3' e3⟩
        have hpl := run_places_pos (P := P) w fs.toList hall.1
        have hm : (fs.mapM fun f => do pure (f.offset, ← sizeOf f.type) : Sem (Array (Nat × Nat))).run P w = .ok (fs.toList.map fun f => (f.offset, P.cellsOf f.type)).toArray w := by
          rw [← Array.toArray_toList (xs := fs), List.mapM_toArray, Sem.run_map, hpl]
          rfl
        have hpl2 : (fun i : Nat => ((fs.toList.map fun f : Field => (f.offset, P.cellsOf f.type)).toArray)[i]?) = (fun i : Nat => (fs[i]?).map fun f : Field => (f.offset, P.cellsOf f.type)) := by
          funext i
          simp
        simp only [Instr.build, Sem.run_bind, run_zeroValue hzero, run_underlying hu, Result.andThen_ok, hm, hpl2, e1]
        rfl
      · cases h
    · cases h
  · rename_i e z hu hzero
    split at h
    · rename_i hpos
      split at h
      · rename_i rs hf
        simp only [Option.some.injEq, Prod.mk.injEq] at h
        obtain ⟨rfl, rfl⟩ := h
        obtain ⟨out, e1, e2, e3', e3⟩ := fill_sound hp (hz z).1 (hzo z hpos.2) (hz z).2 hf
        refine ⟨.agg out, ?_, .ag _ _ e2 e3' e3⟩
        simp only [Instr.build, Sem.run_bind, run_zeroValue hzero, run_underlying hu, Result.andThen_ok, run_sizeOf_pos hpos.1, e1]
        rfl
      · cases h
    · cases h
  · cases h
end Go.Idl

namespace Go.Idl
open Go Go.RowKit

variable {P : Program}

/-- A bound of a slice. -/
def bndP (d : Int) : Option IV → Option Int
  | none => some d
  | some (.v (.int _ n)) => some n
  | some _ => none

def slP (P : Program) (d : Option TypeDesc) (x : IV) (lo hi mx : Option IV) : Option (Prop × IV) :=
  match d, x with
  | some .string, .v (.string s) =>
    match bndP 0 lo, bndP ((bytes s).length) hi, mx with
    | some l, some h, none => some (Side (0 ≤ l) ∧ Side (l ≤ h) ∧ Side (h ≤ (bytes s).length), .v (str (((bytes s).take h.toNat).drop l.toNat)))
    | _, _, _ => none
  | some (.slice e), .sl sz es =>
    if P.cellsOf e = sz then
      match bndP 0 lo, bndP es.length hi, bndP es.length mx with
      | some l, some h, some m =>
        if hi.isNone && mx.isSome then none else
        some (Side (0 < sz) ∧ Side (0 ≤ l) ∧ Side (l ≤ h) ∧ Side (h ≤ m) ∧ Side (m ≤ es.length), .sl sz ((es.take h.toNat).drop l.toNat))
      | _, _, _ => none
    else none
  | some (.slice e), .v (.slice none 0 0) =>
    match bndP 0 lo, bndP 0 hi, mx with
    | some l, some h, none => some (Side (0 < P.cellsOf e) ∧ Side (l = 0) ∧ Side (h = 0), .v (.slice none 0 0))
    | _, _, _ => none
  | some (.slice e), .bs k off n =>
    match bndP 0 lo, bndP n hi, mx with
    | some l, some h, none => some (Side (0 < P.cellsOf e) ∧ Side (0 ≤ l) ∧ Side (l ≤ h) ∧ Side (h ≤ n) ∧ Side (l < n), .bs k (off + l.toNat * P.cellsOf e) (h - l).toNat)
    | _, _, _ => none
  | some (.array n e), .p k off =>
    match bndP 0 lo, bndP n hi, mx with
    | some l, some h, none => some (Side (0 < P.cellsOf e) ∧ Side (0 ≤ l) ∧ Side (l ≤ h) ∧ Side (h ≤ n) ∧ Side (l < n), .bs k (off + l.toNat * P.cellsOf e) (h - l).toNat)
    | _, _, _ => none
  | _, _ => none

/-- An optional operand. -/
def RO (w : World) (g : Gs) : Option Value → Option IV → Prop
  | none, none => True
  | some x, some i => R w g x i
  | _, _ => False

theorem RO.bnd {w : World} {g : Gs} {x : Option Value} {i : Option IV} {d n : Int} (hx : RO w g x i) (h : bndP d i = some n) : (x = none ∧ i = none ∧ n = d) ∨ ∃ k, x = some (.int k n) ∧ ∃ j, i = some j := by
  cases i with
  | none =>
    cases x with
    | none => simp only [bndP, Option.some.injEq] at h; exact .inl ⟨rfl, rfl, h.symm⟩
    | some x => exact hx.elim
  | some i =>
    cases x with
    | none => exact hx.elim
    | some x =>
      cases i <;> simp only [bndP, reduceCtorEq] at h
      rename_i y
      cases y <;> simp only [bndP, reduceCtorEq, Option.some.injEq] at h
      subst h
      have := R.v_eq hx
      subst this
      exact .inr ⟨_, rfl, _, rfl⟩

theorem run_sliceBounds_of {isSlice : Bool} {len cap : Nat} {lo hi mx : Option Value} {l h m : Int} {w : World}
    (hl : (lo = none ∧ l = 0) ∨ ∃ k, lo = some (.int k l)) (hh : (hi = none ∧ h = len ∧ mx = none) ∨ ∃ k, hi = some (.int k h)) (hm : (mx = none ∧ m = cap) ∨ ∃ k, mx = some (.int k m))
    (h0 : 0 ≤ l) (h1 : l ≤ h) (h2 : h ≤ m) (h3 : m ≤ cap) :
    (Instr.sliceBounds isSlice len cap lo hi mx).run P w = .ok (l.toNat, h.toNat, m.toNat) w := by
  have hb : ∀ (k : IntKind) (i : Int) (y : Nat) (c : BoundsCode), 0 ≤ i → i ≤ y → (Instr.sliceBound (.int k i) y c).run P w = .ok i.toNat w := by
    intro k i y c q1 q2
    simp [Instr.sliceBound, asIntOf, q1, q2]
  have e1 : (m.toNat : Int) = m := Int.toNat_of_nonneg (by omega)
  have e2 : (h.toNat : Int) = h := Int.toNat_of_nonneg (by omega)
  unfold Instr.sliceBounds
  rcases hm with ⟨rfl, rfl⟩ | ⟨km, rfl⟩
  · rcases hh with ⟨rfl, rfl, _⟩ | ⟨kh, rfl⟩
    · rcases hl with ⟨rfl, rfl⟩ | ⟨kl, rfl⟩
      · simp
      · simp [hb _ _ _ _ h0 h1]
    · rcases hl with ⟨rfl, rfl⟩ | ⟨kl, rfl⟩
      · simp [hb _ _ _ _ (show 0 ≤ h by omega) h2]
      · simp [hb _ _ _ _ (show 0 ≤ h by omega) h2, hb kl l h.toNat _ h0 (by omega)]
  · rcases hh with ⟨_, _, hmx⟩ | ⟨kh, rfl⟩
    · cases hmx
    · rcases hl with ⟨rfl, rfl⟩ | ⟨kl, rfl⟩
      · simp [hb _ _ _ _ (show 0 ≤ m by omega) h3, hb kh h m.toNat _ (by omega) (by omega)]
      · simp [hb _ _ _ _ (show 0 ≤ m by omega) h3, hb kh h m.toNat _ (by omega) (by omega), hb kl l h.toNat _ h0 (by omega)]

theorem R.sl_inv {w : World} {g : Gs} {x : Value} {sz : Nat} {es : List (List IV)} (h : R w g x (.sl sz es)) : (es = [] ∧ ∃ a cap, x = .slice a 0 cap) ∨
    ∃ (b off cap : Nat) (cv : Nat → Nat → Value), x = .slice (some ⟨b, off, none⟩) es.length cap ∧ ¬ g.ow b ∧ b < w.heap.size ∧ es.length ≤ maxN ∧ es.length ≤ cap ∧ (∀ e, e ∈ es → e.length = sz) ∧
      (∀ (i : Nat) (e : List IV) (j : Nat) (c : IV), es[i]? = some e → e[j]? = some c → w.cell? ⟨b, off + i * sz + j, none⟩ = some (cv i j)) ∧
      (∀ (i : Nat) (e : List IV) (j : Nat) (c : IV), es[i]? = some e → e[j]? = some c → (cv i j).oneCell' = true) ∧
      (∀ (i : Nat) (e : List IV) (j : Nat) (c : IV), es[i]? = some e → e[j]? = some c → R w g (cv i j) c) := by
  cases h with
  | sl0 a cap => exact .inl ⟨rfl, a, cap, rfl⟩
  | sl b off cap _ _ cv hb hlt hlen hcap hsz hc ho hr => exact .inr ⟨b, off, cap, cv, rfl, hb, hlt, hlen, hcap, hsz, hc, ho, hr⟩

theorem R.p_inv {w : World} {g : Gs} {x : Value} {k off : Nat} (h : R w g x (.p k off)) : k < g.nx ∧ (∃ a, x = .pointer (some a)) ∧
    (∀ s, g.sh k = some s → s = .fx → ∃ b, g.mu k = .pointer (some ⟨b, 0, none⟩) ∧ x = .pointer (some ⟨b, off, none⟩)) := by
  cases h with
  | p _ _ _ hk hx h => exact ⟨hk, hx, h⟩

theorem R.sl_sub {w : World} {g : Gs} {a : Option Addr} {cap sz : Nat} {es : List (List IV)} (hx : R w g (.slice a es.length cap) (.sl sz es)) (l h m : Nat) (h1 : l ≤ h) (h2 : h ≤ es.length) (h3 : h ≤ m) :
    R w g (.slice (if m = l then a else a.map (·.add (l * sz))) (h - l) (m - l)) (.sl sz ((es.take h).drop l)) := by
  by_cases hz : h - l = 0
  · have : (es.take h).drop l = [] := by simp; omega
    rw [this, hz]
    exact .sl0 _ _ _
  · rw [if_neg (by omega)]
    rcases hx.sl_inv with ⟨rfl, _⟩ | ⟨b, off, cap', cv, hxe, hb, hlt, hlen, hcap', hsz, hc, ho, hr⟩
    · simp at h2; omega
    · simp only [Value.slice.injEq] at hxe
      obtain ⟨rfl, _, rfl⟩ := hxe
      have hlen' : ((es.take h).drop l).length = h - l := by simp; omega
      have hget : ∀ i, ((es.take h).drop l)[i]? = if l + i < h then es[l + i]? else none := by
        intro i
        simp [List.getElem?_take]
      rw [← hlen']
      simp only [Option.map_some, addr_add]
      refine .sl b _ _ sz _ (fun i => cv (l + i)) hb hlt (by rw [hlen']; unfold maxN at hlen ⊢; omega) (by rw [hlen']; exact Nat.sub_le_sub_right h3 l) (fun e he => hsz e (List.mem_of_mem_take (List.mem_of_mem_drop he))) ?_ ?_ ?_
      · intro i e j c he hj
        rw [hget] at he
        split at he
        · have := hc (l + i) e j c he hj
          rw [← this]
          congr 2
          rw [Nat.add_mul]
          omega
        · cases he
      · intro i e j c he hj
        rw [hget] at he
        split at he
        · exact ho (l + i) e j c he hj
        · cases he
      · intro i e j c he hj
        rw [hget] at he
        split at he
        · exact hr (l + i) e j c he hj
        · cases he

theorem slP_sound {t : TypeId} {x : Value} {i r : IV} {lo hi mx : Option Value} {jl jh jm : Option IV} {s : Prop} {w : World} {g : Gs} (hx : R w g x i) (hl : RO w g lo jl) (hh : RO w g hi jh) (hm : RO w g mx jm)
    (h : slP P (P.underlying t) i jl jh jm = some (s, r)) (hs : s) : ∃ v, (Instr.sliceAt t x lo hi mx).run P w = .ok v w ∧ R w g v r := by
  unfold slP at h
  split at h
  · rename_i sb hu
    obtain rfl := hx.v_eq
    split at h
    · rename_i l hh' e1 e2
      simp only [Option.some.injEq, Prod.mk.injEq] at h
      obtain ⟨rfl, rfl⟩ := h
      obtain ⟨s1, s2, s3⟩ := hs
      have s1' : 0 ≤ l := s1
      have s2' : l ≤ hh' := s2
      have s3' : hh' ≤ ((bytes sb).length : Int) := s3
      have hmx : mx = none := by cases mx with | none => rfl | some _ => exact hm.elim
      subst hmx
      have hb := run_sliceBounds_of (P := P) (isSlice := false) (len := sb.size) (cap := sb.size) (lo := lo) (hi := hi) (mx := none) (l := l) (h := hh') (m := sb.size) (w := w)
        (by rcases hl.bnd e1 with ⟨q1, _, q2⟩ | ⟨k, q, _⟩; exact .inl ⟨q1, q2⟩; exact .inr ⟨k, q⟩)
        (by rcases hh.bnd e2 with ⟨q1, _, q2⟩ | ⟨k, q, _⟩; exact .inl ⟨q1, by rw [q2, bytes_size], rfl⟩; exact .inr ⟨k, q⟩)
        (.inl ⟨rfl, rfl⟩) s1' s2' (by rw [bytes_size]; exact s3') (Int.le_refl _)
      have hext : (⟨(((bytes sb).take hh'.toNat).drop l.toNat).toArray⟩ : ByteArray) = sb.extract l.toNat hh'.toNat := by
        apply bytes_inj
        rw [bytes_mk]
        simp [bytes, ByteArray.data_extract, List.drop_take]
      refine ⟨_, ?_, .v _⟩
      rw [str, hext]
      simp [Instr.sliceAt, Instr.slice, run_underlying hu, hb]
    · cases h
  · rename_i e sz es hu
    split at h
    · rename_i hz
      split at h
      · rename_i l hh' m e1 e2 e3
        split at h
        · cases h
        · rename_i hnm
          simp only [Option.some.injEq, Prod.mk.injEq] at h
          obtain ⟨rfl, rfl⟩ := h
          obtain ⟨s0, s1, s2, s3, s4⟩ := hs
          have s0' : 0 < sz := s0
          have s1' : 0 ≤ l := s1
          have s2' : l ≤ hh' := s2
          have s3' : hh' ≤ m := s3
          have s4' : m ≤ (es.length : Int) := s4
          obtain ⟨a, cap, rfl, ha⟩ := hx.sl_form
          have hcap : es.length ≤ cap := by
            rcases hx.sl_inv with ⟨rfl, _⟩ | ⟨_, _, _, _, hxe, _, _, _, hcap', _⟩
            · simp
            · simp only [Value.slice.injEq] at hxe
              obtain ⟨_, _, rfl⟩ := hxe
              exact hcap'
          have key : ∃ m' : Nat, hh'.toNat ≤ m' ∧ (Instr.sliceBounds true es.length cap lo hi mx).run P w = .ok (l.toNat, hh'.toNat, m') w := by
            rcases hm.bnd e3 with ⟨q1, _, q2⟩ | ⟨km, q, qj⟩
            · refine ⟨cap, by omega, ?_⟩
              have := run_sliceBounds_of (P := P) (isSlice := true) (len := es.length) (cap := cap) (lo := lo) (hi := hi) (mx := mx) (l := l) (h := hh') (m := cap) (w := w)
                (by rcases hl.bnd e1 with ⟨q1, _, q2⟩ | ⟨k, q, _⟩; exact .inl ⟨q1, q2⟩; exact .inr ⟨k, q⟩)
                (by rcases hh.bnd e2 with ⟨q3, _, q4⟩ | ⟨k, q, _⟩; exact .inl ⟨q3, q4, q1⟩; exact .inr ⟨k, q⟩)
                (.inl ⟨q1, rfl⟩) s1' s2' (by omega) (Int.le_refl _)
              simpa using this
            · refine ⟨m.toNat, by omega, ?_⟩
              obtain ⟨j, rfl⟩ := qj
              exact run_sliceBounds_of (by rcases hl.bnd e1 with ⟨q1, _, q2⟩ | ⟨k, q, _⟩; exact .inl ⟨q1, q2⟩; exact .inr ⟨k, q⟩)
                (by rcases hh.bnd e2 with ⟨q3, q5, q4⟩ | ⟨k, q, _⟩; exact absurd (by simp [q5]) hnm; exact .inr ⟨k, q⟩)
                (.inr ⟨km, q⟩) s1' s2' s3' (by omega)
          obtain ⟨m', hm1, hrun⟩ := key
          refine ⟨_, ?_, hx.sl_sub l.toNat hh'.toNat m' (by omega) (by omega) hm1⟩
          simp [Instr.sliceAt, Instr.slice, run_underlying hu, hrun, run_sizeOf_pos (P := P) (t := e) (by omega), hz]
      · cases h
    · cases h
  · rename_i e hu
    obtain rfl := hx.v_eq
    split at h
    · rename_i l hh' e1 e2
      simp only [Option.some.injEq, Prod.mk.injEq] at h
      obtain ⟨rfl, rfl⟩ := h
      obtain ⟨s0, s1, s2⟩ := hs
      have s1' : l = 0 := s1
      have s2' : hh' = 0 := s2
      subst s1' s2'
      have hmx : mx = none := by cases mx with | none => rfl | some _ => exact hm.elim
      subst hmx
      have hb := run_sliceBounds_of (P := P) (isSlice := true) (len := 0) (cap := 0) (lo := lo) (hi := hi) (mx := none) (l := 0) (h := 0) (m := 0) (w := w)
        (by rcases hl.bnd e1 with ⟨q1, _, q2⟩ | ⟨k, q, _⟩; exact .inl ⟨q1, q2⟩; exact .inr ⟨k, q⟩)
        (by rcases hh.bnd e2 with ⟨q1, _, q2⟩ | ⟨k, q, _⟩; exact .inl ⟨q1, by simp, rfl⟩; exact .inr ⟨k, q⟩)
        (.inl ⟨rfl, rfl⟩) (by omega) (by omega) (by omega) (by omega)
      exact ⟨.slice none 0 0, by simp [Instr.sliceAt, Instr.slice, run_underlying hu, hb, run_sizeOf_pos s0], .v _⟩
    · cases h
  · rename_i e k off n hu
    split at h
    · rename_i l hh' e1 e2
      simp only [Option.some.injEq, Prod.mk.injEq] at h
      obtain ⟨rfl, rfl⟩ := h
      obtain ⟨s0, s1, s2, s3, s4⟩ := hs
      have s0' : 0 < P.cellsOf e := s0
      have s1' : 0 ≤ l := s1
      have s2' : l ≤ hh' := s2
      have s3' : hh' ≤ (n : Int) := s3
      have s4' : l < (n : Int) := s4
      have hmx : mx = none := by cases mx with | none => rfl | some _ => exact hm.elim
      subst hmx
      cases hx with
      | bs _ _ _ _ hk hx' hq =>
        obtain ⟨a, cap, rfl, hcap⟩ := hx'
        have hb := run_sliceBounds_of (P := P) (isSlice := true) (len := n) (cap := cap) (lo := lo) (hi := hi) (mx := none) (l := l) (h := hh') (m := cap) (w := w)
          (by rcases hl.bnd e1 with ⟨q1, _, q2⟩ | ⟨k, q, _⟩; exact .inl ⟨q1, q2⟩; exact .inr ⟨k, q⟩)
          (by rcases hh.bnd e2 with ⟨q1, _, q2⟩ | ⟨k, q, _⟩; exact .inl ⟨q1, q2, rfl⟩; exact .inr ⟨k, q⟩)
          (.inl ⟨rfl, rfl⟩) s1' s2' (by omega) (Int.le_refl _)
        have hne : ¬ (cap = l.toNat) := by omega
        have hsub : hh'.toNat - l.toNat = (hh' - l).toNat := by omega
        refine ⟨.slice (some (a.add (l.toNat * P.cellsOf e))) (hh' - l).toNat (cap - l.toNat), ?_, .bs k _ _ _ hk ⟨_, _, rfl, by omega⟩ fun s hs e => ?_⟩
        · simp [Instr.sliceAt, Instr.slice, run_underlying hu, hb, run_sizeOf_pos s0', hne, hsub]
        · obtain ⟨b, cap', q1, q2⟩ := hq s hs e
          simp only [Value.slice.injEq, Option.some.injEq] at q2
          obtain ⟨q2, _, _⟩ := q2
          exact ⟨b, _, q1, by rw [q2, addr_add]⟩
    · cases h
  · rename_i n e k off hu
    split at h
    · rename_i l hh' e1 e2
      simp only [Option.some.injEq, Prod.mk.injEq] at h
      obtain ⟨rfl, rfl⟩ := h
      obtain ⟨s0, s1, s2, s3, s4⟩ := hs
      have s1' : 0 ≤ l := s1
      have s2' : l ≤ hh' := s2
      have s3' : hh' ≤ (n : Int) := s3
      have s4' : l < (n : Int) := s4
      have hmx : mx = none := by cases mx with | none => rfl | some _ => exact hm.elim
      subst hmx
      obtain ⟨a, rfl⟩ := hx.p_form
      have hb := run_sliceBounds_of (P := P) (isSlice := false) (len := n) (cap := n) (lo := lo) (hi := hi) (mx := none) (l := l) (h := hh') (m := n) (w := w)
        (by rcases hl.bnd e1 with ⟨q1, _, q2⟩ | ⟨k, q, _⟩; exact .inl ⟨q1, q2⟩; exact .inr ⟨k, q⟩)
        (by rcases hh.bnd e2 with ⟨q1, _, q2⟩ | ⟨k, q, _⟩; exact .inl ⟨q1, q2, rfl⟩; exact .inr ⟨k, q⟩)
        (.inl ⟨rfl, rfl⟩) s1' s2' s3' (Int.le_refl _)
      have hne : ¬ (n = l.toNat) := by omega
      have hsub : hh'.toNat - l.toNat = (hh' - l).toNat := by omega
      refine ⟨.slice (some (a.add (l.toNat * P.cellsOf e))) (hh' - l).toNat (n - l.toNat), ?_, ?_⟩
      · simp [Instr.sliceAt, Instr.sureAddr, run_underlying hu, hb, run_sizeOf_pos s0, hne, hsub]
      · obtain ⟨hk, _, hq⟩ := (hx.p_add (l.toNat * P.cellsOf e)).p_inv
        refine .bs k _ _ _ hk ⟨_, _, rfl, by omega⟩ fun s hs e => ?_
        obtain ⟨b, q1, q2⟩ := hq s hs e
        simp only [Value.pointer.injEq, Option.some.injEq] at q2
        exact ⟨b, _, q1, by rw [q2]⟩
    · cases h
  · cases h
end Go.Idl

namespace Go.Idl
open Go Go.RowKit

variable {P : Program} {N : Nat} {tm : Tm} {H : IHeap}

def oneB (e : List IV) : Option Int :=
  match e with
  | [.v (.int .u8 n)] => some n
  | _ => none

def cvP (P : Program) (src dst : TypeId) (x : IV) : Option (Prop × IV) :=
  match P.underlying src, P.underlying dst, x with
  | some _, some (.int k), .v (.int _ n) => some (True, .v (.int k (k.wrap n)))
  | some _, some .string, .v (.string s) => some (True, .v (.string s))
  | some (.slice e), some .string, .sl 1 es =>
    match P.underlying e with
    | some (.int .u8) => some (Side (∀ e, e ∈ es → (oneB e).isSome = true), .v (str (es.map fun e => UInt8.ofNat ((oneB e).getD 0).toNat)))
    | _ => none
  | some (.slice e), some .string, .v (.slice none 0 0) =>
    match P.underlying e with
    | some (.int .u8) => some (True, .v (str []))
    | _ => none
  | _, _, _ => none

theorem oneB_some {e : List IV} {n : Int} (h : oneB e = some n) : e = [.v (.int .u8 n)] := by
  unfold oneB at h
  split at h
  · cases h; rfl
  · cases h

theorem cvP_sound {src dst : TypeId} {x : Value} {i r : IV} {s : Prop} {w : World} {g : Gs} (hx : R w g x i) (h : cvP P src dst i = some (s, r)) (hs : s) :
    ∃ v, (convert src dst x).run P w = .ok v w ∧ R w g v r := by
  unfold cvP at h
  split at h
  · rename_i d k kk n h1 h2
    obtain rfl := hx.v_eq
    simp only [Option.some.injEq, Prod.mk.injEq] at h
    obtain ⟨rfl, rfl⟩ := h
    exact ⟨_, by simp [convert, run_underlying h1, run_underlying h2, Conv.intToInt]; try rfl, .v _⟩
  · rename_i d sb h1 h2
    obtain rfl := hx.v_eq
    simp only [Option.some.injEq, Prod.mk.injEq] at h
    obtain ⟨rfl, rfl⟩ := h
    exact ⟨.string sb, by simp [convert, run_underlying h1, run_underlying h2], .v _⟩
  · rename_i e es h1 h2
    split at h
    · rename_i he
      simp only [Option.some.injEq, Prod.mk.injEq] at h
      obtain ⟨rfl, rfl⟩ := h
      have hs' : ∀ e, e ∈ es → (oneB e).isSome = true := hs
      rcases hx.sl_inv with ⟨rfl, a, cap, rfl⟩ | ⟨b, off, cap, cv, rfl, hb, hlt, hlen, hcap, hsz, hc, ho, hr⟩
      · refine ⟨_, ?_, .v _⟩
        rw [run_convert_bytes_string w src dst e _ _ _ h1 he h2]
        cases a with
        | none => simp [Conv.bytesToString]; try rfl
        | some a =>
          rw [run_bytesToString w a 0 cap [] (by simp [loadCells, loadCellsFrom])]
          rfl
      · have hall : ∀ i (hi : i < es.length), ∃ n, es[i] = [.v (.int .u8 n)] ∧ (oneB es[i]).getD 0 = n ∧ cv i 0 = .int .u8 n := by
          intro i hi
          have hm := hs' es[i] (List.getElem_mem hi)
          obtain ⟨n, hn⟩ := Option.isSome_iff_exists.1 hm
          have he' := oneB_some hn
          have h0 := hr i es[i] 0 (.v (.int .u8 n)) (List.getElem?_eq_getElem hi) (by rw [he']; rfl)
          exact ⟨n, he', by rw [hn]; rfl, h0.v_eq⟩
        refine ⟨.string (strOfNums (es.map fun e => (oneB e).getD 0)), ?_, ?_⟩
        · refine run_convert_bytes_arg w src e h1 he b off es.length cap _ (by simp) (fun i hi => ?_) dst h2
          obtain ⟨n, q1, q2, q3⟩ := hall i hi
          have := hc i es[i] 0 (.v (.int .u8 n)) (List.getElem?_eq_getElem hi) (by rw [q1]; rfl)
          simp only [Nat.mul_one, Nat.add_zero] at this
          rw [this, q3]
          simp [List.getD, List.getElem?_eq_getElem hi, q2]
        · have : strOfNums (es.map fun e => (oneB e).getD 0) = ⟨(es.map fun e => UInt8.ofNat ((oneB e).getD 0).toNat).toArray⟩ := by
            simp [strOfNums, List.map_map, Function.comp_def]
          rw [this]
          exact .v _
    · cases h
  · rename_i e h1 h2
    obtain rfl := hx.v_eq
    split at h
    · rename_i he
      simp only [Option.some.injEq, Prod.mk.injEq] at h
      obtain ⟨rfl, rfl⟩ := h
      refine ⟨_, ?_, .v _⟩
      rw [run_convert_bytes_string w src dst e _ _ _ h1 he h2]
      simp [Conv.bytesToString]
      rfl
    · cases h
  · cases h

def ncP (x : IV) : Option (Prop × IV) :=
  match x with
  | .p k off => some (True, .p k off)
  | .pr k n off => some (True, .pr k n off)
  | .cp cs => some (True, .cp cs)
  | .fn (.func f) a b => some (True, .fn (.func f) a b)
  | .v (.func (.func f) a b) => some (True, .v (.func (.func f) a b))
  | .v (.func (.yield f) a b) => some (True, .v (.func (.yield f) a b))
  | _ => none

def unP (op : UnOp) (x : IV) : Option (Prop × IV) :=
  match op, x with
  | .not, .v (.bool b) => some (True, .v (.bool (!b)))
  | .neg, .v (.int k n) => some (True, .v (.int k (k.wrap (0 - n))))
  | _, _ => none

def exP (x : IV) (n : Nat) : Option (Prop × IV) :=
  match x with
  | .tu vs => match vs[n]? with | some y => some (True, y) | none => none
  | _ => none

def mkP (P : Program) (t : TypeId) (x : IV) : Option (Prop × IV) :=
  match P.underlying t with
  | some (.interface _) => none
  | some _ => match x with | .v y => some (True, .v (.iface t y)) | y => some (True, .ifc t y)
  | none => none

def bin2 (P : Program) (op : BinOp) (t : TypeId) (x y : IV) : Option (Prop × IV) :=
  match x, y with
  | .v a, .v b => match binV P op t a b with | some (s, r) => some (s, .v r) | none => none
  | .p _ _, .v (.pointer none) =>
    match P.underlying t with
    | some (.pointer _) => match op with | .eql => some (True, .v (.bool false)) | .neq => some (True, .v (.bool true)) | _ => none
    | _ => none
  | .cp _, .v (.pointer none) =>
    match P.underlying t with
    | some (.pointer _) => match op with | .eql => some (True, .v (.bool false)) | .neq => some (True, .v (.bool true)) | _ => none
    | _ => none
  | .mp _, .v (.map none) =>
    match P.underlying t with
    | some (.map _ _) => match op with | .eql => some (True, .v (.bool false)) | .neq => some (True, .v (.bool true)) | _ => none
    | _ => none
  | .fn _ _ _, .v .nilFunc =>
    match P.underlying t with
    | some (.func _ _ _) => match op with | .eql => some (True, .v (.bool false)) | .neq => some (True, .v (.bool true)) | _ => none
    | _ => none
  | _, _ => none

theorem bin_nil {op : BinOp} {t : TypeId} {x y : Value} {r : Value} {w : World} (hg : ∀ ox oy, (eqGuard op t ox oy x y).run P w = .ok () w) (hb : (binOp op t x y).run P w = .ok r w) (ox oy : Operand) :
    (do eqGuard op t ox oy x y; binOp op t x y : Sem Value).run P w = .ok r w := by
  rw [Sem.run_bind, hg]
  exact hb

theorem bin2_sound {op : BinOp} {t : TypeId} {x y : Value} {i j r : IV} {s : Prop} {w : World} {g : Gs} (hx : R w g x i) (hy : R w g y j) (h : bin2 P op t i j = some (s, r)) (hs : s) (ox oy : Operand) :
    ∃ v, (do eqGuard op t ox oy x y; binOp op t x y : Sem Value).run P w = .ok v w ∧ R w g v r := by
  unfold bin2 at h
  split at h
  · rename_i a b
    obtain rfl := hx.v_eq
    obtain rfl := hy.v_eq
    split at h
    · rename_i s' r' hb
      simp only [Option.some.injEq, Prod.mk.injEq] at h
      obtain ⟨rfl, rfl⟩ := h
      exact ⟨_, binV_sound hb hs ox oy w, .v _⟩
    · cases h
  · obtain rfl := hy.v_eq
    obtain ⟨a, rfl⟩ := hx.p_form
    split at h
    · rename_i e hu
      have hr : (Op.equal t (.pointer (some a)) (.pointer none)).run P w = .ok false w := run_equal_of fun d => by
        simp [Op.equalIn, run_underlying hu]
      cases op <;> simp only [Option.some.injEq, Prod.mk.injEq, reduceCtorEq] at h <;> obtain ⟨rfl, rfl⟩ := h <;>
        exact ⟨_, bin_nil (fun _ _ => by unfold eqGuard; split <;> rfl) (by simp [binOp, hr]; try rfl) ox oy, .v _⟩
    · cases h
  · obtain rfl := hy.v_eq
    obtain ⟨b, off, rfl⟩ := hx.cp_addr
    split at h
    · rename_i e hu
      have hr : (Op.equal t (.pointer (some ⟨b, off, none⟩)) (.pointer none)).run P w = .ok false w := run_equal_of fun d => by
        simp [Op.equalIn, run_underlying hu]
      cases op <;> simp only [Option.some.injEq, Prod.mk.injEq, reduceCtorEq] at h <;> obtain ⟨rfl, rfl⟩ := h <;>
        exact ⟨_, bin_nil (fun _ _ => by unfold eqGuard; split <;> rfl) (by simp [binOp, hr]; try rfl) ox oy, .v _⟩
    · cases h
  · obtain rfl := hy.v_eq
    have ⟨a, hxa⟩ : ∃ a, x = .map (some a) := by
      cases hx with
      | mp _ _ _ hx' => exact hx'
    subst hxa
    split at h
    · rename_i e1 e2 hu
      have hr : (Op.equal t (.map (some a)) (.map none)).run P w = .ok false w := run_equal_of fun d => by
        simp [Op.equalIn, run_underlying hu]
      cases op <;> simp only [Option.some.injEq, Prod.mk.injEq, reduceCtorEq] at h <;> obtain ⟨rfl, rfl⟩ := h <;>
        exact ⟨_, bin_nil (fun _ _ => by unfold eqGuard; split <;> rfl) (by simp [binOp, hr]; try rfl) ox oy, .v _⟩
    · cases h
  · obtain rfl := hy.v_eq
    have ⟨f, a, b, hxa⟩ : ∃ f a b, x = .func f a b := by
      cases hx with
      | fn f' xs ys => exact ⟨_, xs, ys, rfl⟩
    subst hxa
    split at h
    · rename_i e1 e2 e3 hu
      have hr : (Op.equal t (.func f a b) .nilFunc).run P w = .ok false w := run_equal_of fun d => by
        simp [Op.equalIn, run_underlying hu]
      cases op <;> simp only [Option.some.injEq, Prod.mk.injEq, reduceCtorEq] at h <;> obtain ⟨rfl, rfl⟩ := h <;>
        exact ⟨_, bin_nil (fun _ _ => by unfold eqGuard; split <;> rfl) (by simp [binOp, hr]; try rfl) ox oy, .v _⟩
    · cases h
  · cases h

/-- The pure operations: what must hold, and what comes out. -/
def evP (P : Program) (tm : Tm) (op : Op) : Option (Prop × IV) :=
  match op with
  | .move x => some (True, ev tm x)
  | .assign x => some (True, ev tm x)
  | .pick c a b => match ev tm c with | .v (.bool q) => some (True, if q = true then ev tm a else ev tm b) | _ => none
  | .binOp op t x y _ => bin2 P op t (ev tm x) (ev tm y)
  | .unOp op _ x => unP op (ev tm x)
  | .build t parts => bdP P t (parts.toList.map fun q => (q.1, ev tm q.2))
  | .load t x => ldP P t (ev tm x)
  | .nilCheck x => ncP (ev tm x)
  | .convert a b x => cvP P a b (ev tm x)
  | .makeInterface t x => mkP P t (ev tm x)
  | .makeFunc f a b => some (True, .fn f (a.toList.map (ev tm)) (b.toList.map (ev tm)))
  | .slice t x lo hi mx => slP P (P.underlying t) (ev tm x) (lo.map (ev tm)) (hi.map (ev tm)) (mx.map (ev tm))
  | .fieldAddr t x f => fdP P (P.underlying t) (ev tm x) f
  | .field t x f => fvP P (P.underlying t) (ev tm x) f
  | .indexAddr t x i => ixP P (P.underlying t) (ev tm x) (ev tm i)
  | .index t x i => ivP P (P.underlying t) (ev tm x) (ev tm i)
  | .extract x n => exP (ev tm x) n
  | .call c =>
    match c.callee with
    | .builtin .len => match c.args.toList, c.argTypes.toList with | [x], [t] => lenP (P.underlying t) (ev tm x) | _, _ => none
    | _ => none
  | _ => none

/-- The slots that an operation names are there. -/
def okO (N : Nat) (o : Oper) : Bool := o.op.operands.toList.all (opd N) && (match o.dst with | some d => decide (d < N) | none => true)

theorem IOper_pure {o : Oper} {K : IV → IHeap → Prop} {Qp : List PanicEntry → IHeap → Prop} {i : IV} (hnd : ∀ c, o.op ≠ .defer c)
    (h : ∀ (w : World) (g : Gs) (a : Act), RA w g a tm → a.tmps.size = N → ∃ x, (execOp a.eval o).run P w = .ok (.value x) w ∧ R w g x i) (hk : K i H) : IOper P N o tm H K Qp := by
  refine ⟨hnd, fun rr w g a s r hN => ?_⟩
  obtain ⟨x, h1, h2⟩ := h w g a r hN
  rw [h1]
  exact ⟨x, i, g, H, rfl, .refl w g, s, h2, hk⟩

theorem partsR_map {w : World} {g : Gs} {a : Act} (r : RA w g a tm) : ∀ (l : List (Nat × Operand)), (∀ q, q ∈ l → opd a.tmps.size q.2 = true) → PartsR w g (l.map fun q => (q.1, a.eval q.2)) (l.map fun q => (q.1, ev tm q.2))
  | [], _ => trivial
  | q :: l, h => ⟨rfl, r.ev (h q (by simp)), partsR_map r l (fun q' hq => h q' (List.mem_cons_of_mem _ hq))⟩

theorem IOper_evP {o : Oper} {K : IV → IHeap → Prop} {Qp : List PanicEntry → IHeap → Prop} {i : IV} {s : Prop} (hok : okO N o = true) (h : evP P tm o.op = some (s, i)) (hs : s) (hk : K i H) : IOper P N o tm H K Qp := by
  obtain ⟨dst, op, type, pos, after, guard⟩ := o
  simp only [okO, Bool.and_eq_true, List.all_eq_true] at hok
  obtain ⟨hok, _⟩ := hok
  refine IOper_pure (i := i) ?_ ?_ hk
  · intro c e
    simp only at e h
    rw [e] at h
    simp [evP] at h
  · intro w g a r hN
    subst hN
    simp only at h hok
    have val : ∀ {s : Sem Value} {v : Value}, s.run P w = .ok v w → (do pure (.value (← s)) : Sem Next).run P w = .ok (.value v) w := by
      intro s v hv
      simp [hv]
    cases op with
    | move x =>
      simp only [evP, Option.some.injEq, Prod.mk.injEq] at h
      obtain ⟨rfl, rfl⟩ := h
      exact ⟨a.eval x, by simp [execOp], r.ev (hok x (by simp [Op.operands]))⟩
    | assign x =>
      simp only [evP, Option.some.injEq, Prod.mk.injEq] at h
      obtain ⟨rfl, rfl⟩ := h
      exact ⟨a.eval x, by simp [execOp], r.ev (hok x (by simp [Op.operands]))⟩
    | pick c x y =>
      simp only [evP] at h
      have hc := r.ev (hok c (by simp [Op.operands]))
      split at h
      · rename_i q hq
        simp only [Option.some.injEq, Prod.mk.injEq] at h
        obtain ⟨rfl, rfl⟩ := h
        rw [hq] at hc
        have hc' := hc.v_eq
        refine ⟨if q = true then a.eval x else a.eval y, by simp [execOp, hc', asBool], ?_⟩
        split
        · exact r.ev (hok x (by simp [Op.operands]))
        · exact r.ev (hok y (by simp [Op.operands]))
      · cases h
    | binOp op t x y t' =>
      obtain ⟨v, h1, h2⟩ := bin2_sound (r.ev (hok x (by simp [Op.operands]))) (r.ev (hok y (by simp [Op.operands]))) h hs x y
      exact ⟨v, val h1, h2⟩
    | unOp op t x =>
      have hx := r.ev (hok x (by simp [Op.operands]))
      simp only [evP, unP] at h
      split at h
      · rename_i b hb
        simp only [Option.some.injEq, Prod.mk.injEq] at h
        obtain ⟨rfl, rfl⟩ := h
        rw [hb] at hx
        exact ⟨.bool (!b), val (by simp [hx.v_eq, Op.unary]), .v _⟩
      · rename_i k n hb
        simp only [Option.some.injEq, Prod.mk.injEq] at h
        obtain ⟨rfl, rfl⟩ := h
        rw [hb] at hx
        exact ⟨_, val (by simp only [hx.v_eq, Op.unary, Op.intArith]; rfl), .v _⟩
      · cases h
    | build t parts =>
      have hp : PartsR w g (parts.map fun q => (q.1, a.eval q.2)).toList (parts.toList.map fun q => (q.1, ev tm q.2)) := by
        rw [Array.toList_map]
        refine partsR_map r _ fun q hq => hok _ ?_
        simp only [Op.operands, List.toList_toArray, List.mem_map]
        exact ⟨q, hq, rfl⟩
      obtain ⟨v, h1, h2⟩ := bdP_sound hp h hs
      exact ⟨v, val h1, h2⟩
    | load t x =>
      obtain ⟨v, h1, h2⟩ := ldP_sound (r.ev (hok x (by simp [Op.operands]))) h hs
      exact ⟨v, val h1, h2⟩
    | nilCheck x =>
      have hx := r.ev (hok x (by simp [Op.operands]))
      simp only [evP] at h
      generalize ev tm x = ix at h hx
      unfold ncP at h
      split at h <;> simp only [Option.some.injEq, Prod.mk.injEq, reduceCtorEq] at h <;> obtain ⟨rfl, rfl⟩ := h
      · obtain ⟨b, hb⟩ := hx.p_form
        exact ⟨_, by simp [execOp, hb]; rfl, by rw [← hb]; exact hx⟩
      · obtain ⟨b, hb⟩ := hx.pr_form
        exact ⟨_, by simp [execOp, hb]; rfl, by rw [← hb]; exact hx⟩
      · obtain ⟨b, off, hb⟩ := hx.cp_addr
        exact ⟨_, by simp [execOp, hb]; rfl, by rw [← hb]; exact hx⟩
      · rename_i f p q
        have ⟨xs, ys, hxa⟩ : ∃ xs ys, a.eval x = .func (.func f) xs ys := by
          generalize a.eval x = z at hx
          cases hx with
          | fn _ xs ys => exact ⟨xs, ys, rfl⟩
        exact ⟨_, by simp [execOp, hxa]; rfl, by rw [← hxa]; exact hx⟩
      · have := hx.v_eq
        exact ⟨_, by simp [execOp, this]; try rfl, .v _⟩
      · have := hx.v_eq
        exact ⟨_, by simp [execOp, this]; try rfl, .v _⟩
    | convert s1 s2 x =>
      obtain ⟨v, h1, h2⟩ := cvP_sound (r.ev (hok x (by simp [Op.operands]))) h hs
      exact ⟨v, val h1, h2⟩
    | makeInterface t x =>
      have hx := r.ev (hok x (by simp [Op.operands]))
      simp only [evP, mkP] at h
      split at h
      · cases h
      · rename_i d hd hu
        have hrun : (Instr.makeInterface t (a.eval x)).run P w = .ok (.iface t (a.eval x)) w := by
          cases d <;> first | (exact absurd rfl (hd _)) | simp [Instr.makeInterface, run_underlying hu]
        split at h
        · rename_i y hy
          simp only [Option.some.injEq, Prod.mk.injEq] at h
          obtain ⟨rfl, rfl⟩ := h
          rw [hy] at hx
          rw [hx.v_eq] at hrun
          exact ⟨_, val (by rw [hx.v_eq]; exact hrun), .v _⟩
        · simp only [Option.some.injEq, Prod.mk.injEq] at h
          obtain ⟨rfl, rfl⟩ := h
          exact ⟨_, val hrun, .ifc _ _ _ hx⟩
      · cases h
    | makeFunc f x y =>
      simp only [evP, Option.some.injEq, Prod.mk.injEq] at h
      obtain ⟨rfl, rfl⟩ := h
      refine ⟨.func f (x.map a.eval) (y.map a.eval), val (by simp [Instr.makeFunc]), .fn _ _ _ _ _ (by simp) (by simp) ?_ ?_⟩
      · intro j z c h1 h2
        simp only [Array.getElem?_map, Option.map_eq_some_iff] at h1
        obtain ⟨q, hq, rfl⟩ := h1
        simp only [List.getElem?_map, Array.getElem?_toList, hq, Option.map_some, Option.some.injEq] at h2
        subst h2
        exact r.ev (hok q (by simp only [Op.operands, Array.toList_append, List.mem_append, Array.mem_toList_iff]; exact .inl (Array.mem_of_getElem? hq)))
      · intro j z c h1 h2
        simp only [Array.getElem?_map, Option.map_eq_some_iff] at h1
        obtain ⟨q, hq, rfl⟩ := h1
        simp only [List.getElem?_map, Array.getElem?_toList, hq, Option.map_some, Option.some.injEq] at h2
        subst h2
        exact r.ev (hok q (by simp only [Op.operands, Array.toList_append, List.mem_append, Array.mem_toList_iff]; exact .inr (Array.mem_of_getElem? hq)))
    | slice t x lo hi mx =>
      have ro : ∀ (q : Option Operand), (∀ y, q = some y → opd a.tmps.size y = true) → RO w g (q.map a.eval) (q.map (ev tm)) := by
        intro q hq
        cases q with
        | none => trivial
        | some y => exact r.ev (hq y rfl)
      obtain ⟨v, h1, h2⟩ := slP_sound (r.ev (hok x (by simp [Op.operands]))) (ro lo (fun y e => hok y (by simp [Op.operands, e]))) (ro hi (fun y e => hok y (by simp [Op.operands, e]))) (ro mx (fun y e => hok y (by simp [Op.operands, e]))) h hs
      exact ⟨v, val h1, h2⟩
    | fieldAddr t x f =>
      obtain ⟨v, h1, h2⟩ := fdP_sound (r.ev (hok x (by simp [Op.operands]))) h hs
      exact ⟨v, val h1, h2⟩
    | field t x f =>
      obtain ⟨v, h1, h2⟩ := fvP_sound (r.ev (hok x (by simp [Op.operands]))) h hs
      exact ⟨v, val h1, h2⟩
    | indexAddr t x i =>
      obtain ⟨v, h1, h2⟩ := ixP_sound (r.ev (hok x (by simp [Op.operands]))) (r.ev (hok i (by simp [Op.operands]))) h hs
      exact ⟨v, val h1, h2⟩
    | index t x i =>
      obtain ⟨v, h1, h2⟩ := ivP_sound (r.ev (hok x (by simp [Op.operands]))) (r.ev (hok i (by simp [Op.operands]))) h hs
      exact ⟨v, val h1, h2⟩
    | extract x n =>
      have hx := r.ev (hok x (by simp [Op.operands]))
      simp only [evP, exP] at h
      split at h
      · rename_i vs hv
        split at h
        · rename_i y hy
          simp only [Option.some.injEq, Prod.mk.injEq] at h
          obtain ⟨rfl, rfl⟩ := h
          rw [hv] at hx
          generalize hz : a.eval x = z at hx
          cases hx with
          | tu xs _ hl hr =>
            have hn : n < xs.size := by
              have := (List.getElem?_eq_some_iff.1 hy).1
              omega
            have hxn := Array.getElem?_eq_getElem hn
            exact ⟨xs[n], val (by simp [hz, Instr.extract, hxn]), hr _ _ _ hxn hy⟩
        · cases h
      · cases h
    | call c =>
      obtain ⟨callee, args, ats⟩ := c
      simp only [evP] at h
      split at h
      · split at h
        · rename_i x t h1 h2
          have hargs : args = #[x] := by rw [← Array.toArray_toList (xs := args), h1]
          have hats : ats = #[t] := by rw [← Array.toArray_toList (xs := ats), h2]
          subst hargs hats
          obtain ⟨v, q1, q2⟩ := lenP_sound (r.ev (hok x (by simp [Op.operands, Call.operands]))) h #[a.eval x] #[t] type rfl rfl
          exact ⟨v, by simp [execOp, resolve, invoke, builtin, q1], q2⟩
        · cases h
      · cases h
    | _ => simp [evP] at h
end Go.Idl

namespace Go.Idl
open Go Go.RowKit

variable {P : Program}

theorem CellsR.mono {w w' : World} {g g' : Gs} (m : Mono w g w' g') {xs : Array Value} {cs : List IV} (h : CellsR w g xs cs) : CellsR w' g' xs cs :=
  ⟨h.1, fun j c hj => let ⟨x, h1, h2, h3⟩ := h.2 j c hj; ⟨x, h1, h2, h3.mono m⟩⟩

theorem ObjR.mono {w w' : World} {g g' : Gs} (m : Mono w g w' g') {x : Value} {o : HO} (hb : ∀ b, blk x = some b → w'.heap[b]? = w.heap[b]?) (h : ObjR w g x o) : ObjR w' g' x o := by
  induction o with
  | cells cs =>
    obtain ⟨b, xs, el, f, rfl, h2, h3, h4⟩ := h
    exact ⟨b, xs, el, f, rfl, (hb b rfl).trans h2, h3, h4.mono m⟩
  | row sz es =>
    obtain ⟨a, cap, rfl, h1, h2, h3, h4, h5⟩ := h
    refine ⟨a, cap, rfl, h1, h2, h3, h4, ?_⟩
    rcases h5 with h5 | ⟨b, xs, el, f, rfl, h6, h7, h8, h9⟩
    · exact .inl h5
    · exact .inr ⟨b, xs, el, f, rfl, (hb b rfl).trans h6, h7, h8, h9.mono m⟩
  | obj o =>
    obtain ⟨b, rfl, h2, h3⟩ := h
    exact ⟨b, rfl, (hb b rfl).trans h2, h3⟩
  | ty t o ih => exact ⟨ih h.1, h.2.keep hb⟩

def IHeap.set (H : IHeap) (k : Nat) (o : HO) : IHeap := { H with obj := fun i => if i = k then some o else H.obj i }
def IHeap.new (H : IHeap) (o : HO) : IHeap := { next := H.next + 1, obj := fun i => if i = H.next then some o else H.obj i, sn := H.sn }
def IHeap.del (H : IHeap) (k : Nat) : IHeap := { H with obj := fun i => if i = k then none else H.obj i }

def Gs.put (g : Gs) (k : Nat) (x : Value) (s : Sh) (n : Nat) : Gs :=
  { g with mu := fun i => if i = k then x else g.mu i, sh := fun i => if i = k then some s else g.sh i, nx := n }

/-- One name is laid, or turns. -/
theorem Sim.upd {w w' : World} {g : Gs} {H H' : IHeap} (s : Sim w g H) (k : Nat) (x : Value) (o' : HO)
    (hH : H'.obj = fun i => if i = k then some o' else H.obj i) (hn : H.next ≤ H'.next) (hk : k < H'.next)
    (size : w.heap.size ≤ w'.heap.size) (os : w'.os = w.os) (tape : w'.tape = w.tape) (output : w'.output = w.output)
    (same : ∀ b, b < w.heap.size → ((g.sh k).isSome = true ∧ blk (g.mu k) = some b) ∨ w'.heap[b]? = w.heap[b]?)
    (hx : ∀ b, blk x = some b → b < w'.heap.size ∧ (w.heap.size ≤ b ∨ ((g.sh k).isSome = true ∧ blk (g.mu k) = some b)))
    (hs : k = H.next ∨ (g.sh k = some .fx ∧ o'.sh = .fx ∧ x = g.mu k) ∨ (∃ n n', g.sh k = some (.row n) ∧ o'.sh = .row n' ∧ n ≤ n' ∧ (n = n' → x = g.mu k)))
    (ho : ∀ g', Mono w g w' g' → g' = g.put k x o'.sh H'.next → ObjR w' g' x o') (hsn : H'.sn = H.sn := by rfl) :
    Sim w' (g.put k x o'.sh H'.next) H' ∧ Mono w g w' (g.put k x o'.sh H'.next) := by
  have hkl : k = H.next → (g.sh k) = none := by
    intro e
    rw [s.sh, IHeap.sh]
    cases hh : H.obj k with
    | none => rfl
    | some o => have := s.lt k (by rw [hh]; rfl); omega
  have hnamed : ∀ b, (g.put k x o'.sh H'.next).named b → b < w.heap.size → g.named b := by
    rintro b ⟨i, h1, h2⟩ hb
    simp only [Gs.put] at h1 h2
    by_cases e : i = k
    · simp only [e, if_true] at h2
      rcases (hx b h2).2 with h | ⟨h3, h4⟩
      · omega
      · exact ⟨k, h3, h4⟩
    · simp only [e, if_false] at h1 h2
      exact ⟨i, h1, h2⟩
  have m : Mono w g w' (g.put k x o'.sh H'.next) := by
    refine ⟨size, os, tape, output, ?_, ?_, rfl, ?_, ?_, ?_⟩
    · intro b hb hnb
      rcases same b hb with ⟨h1, h2⟩ | h
      · exact absurd (hnb ⟨k, h1, h2⟩) (s.bk k b h1 h2).1
      · exact h
    · intro b hb how
      rcases how with h | h
      · exact .inl h
      · exact .inr (hnamed b h hb)
    · show g.nx ≤ H'.next
      rw [s.nx]; exact hn
    · intro i hi hfx
      simp only [Gs.put] at hfx ⊢
      by_cases e : i = k
      · subst e
        simp only [if_true] at hfx ⊢
        rcases hs with h | ⟨h1, h2, h3⟩ | ⟨n, n', h1, h2, _⟩
        · rw [s.nx] at hi; omega
        · exact ⟨h1, h3⟩
        · rw [h2] at hfx; cases hfx
      · simp only [e, if_false] at hfx ⊢
        exact ⟨hfx, trivial⟩
    · intro i m' hi hr
      simp only [Gs.put] at hr ⊢
      by_cases e : i = k
      · subst e
        simp only [if_true] at hr ⊢
        rcases hs with h | ⟨h1, h2, h3⟩ | ⟨n, n', h1, h2, h3, h4⟩
        · rw [s.nx] at hi; omega
        · rw [h2] at hr; cases hr
        · rw [h2] at hr; cases hr
          exact ⟨n, h1, h3, h4⟩
      · simp only [e, if_false] at hr ⊢
        exact ⟨m', hr, Nat.le_refl _, fun _ => trivial⟩
  have hsh : ∀ i, (g.put k x o'.sh H'.next).sh i = H'.sh i := by
    intro i
    simp only [Gs.put, IHeap.sh, hH]
    by_cases e : i = k
    · simp [e]
    · simp only [e, if_false]; exact s.sh i
  refine ⟨⟨rfl, hsh, ?_, ?_, ?_, ?_, ?_, fun p hp i hi => (s.snap p (by rw [← hsn]; exact hp) i hi).mono m⟩, m⟩
  · intro i hi
    rw [hH] at hi
    by_cases e : i = k
    · rw [e]; exact hk
    · simp only [e, if_false] at hi
      exact Nat.lt_of_lt_of_le (s.lt i hi) hn
  · intro i b h1 h2
    simp only [Gs.put] at h1 h2
    by_cases e : i = k
    · simp only [e, if_true] at h2
      obtain ⟨h3, h4⟩ := hx b h2
      refine ⟨?_, h3⟩
      rcases h4 with h4 | ⟨h4, h5⟩
      · intro ho'
        have := s.old b ho'
        omega
      · exact (s.bk k b h4 h5).1
    · simp only [e, if_false] at h1 h2
      have := s.bk i b h1 h2
      exact ⟨this.1, Nat.lt_of_lt_of_le this.2 size⟩
  · intro i j b h1 h2 h3 h4
    simp only [Gs.put] at h1 h2 h3 h4
    by_cases e : i = k <;> by_cases e' : j = k
    · rw [e, e']
    · simp only [e, e', if_true, if_false] at h1 h2 h3 h4
      rcases (hx b h3).2 with h | ⟨h5, h6⟩
      · have := (s.bk j b h2 h4).2; omega
      · rw [e]; exact s.inj k j b h5 h2 h6 h4
    · simp only [e, e', if_true, if_false] at h1 h2 h3 h4
      rcases (hx b h4).2 with h | ⟨h5, h6⟩
      · have := (s.bk i b h1 h3).2; omega
      · rw [e']; exact s.inj i k b h1 h5 h3 h6
    · simp only [e, e', if_false] at h1 h2 h3 h4
      exact s.inj i j b h1 h2 h3 h4
  · intro i o hi
    rw [hH] at hi
    by_cases e : i = k
    · simp only [e, if_true, Option.some.injEq] at hi
      subst hi
      have := ho _ m rfl
      simp only [Gs.put, e, if_true] at this ⊢
      exact this
    · simp only [e, if_false] at hi
      have hmu : (g.put k x o'.sh H'.next).mu i = g.mu i := by simp [Gs.put, e]
      rw [hmu]
      refine (s.obj i o hi).mono m fun b hb => ?_
      have hi' : (g.sh i).isSome = true := by rw [s.sh, IHeap.sh, hi]; rfl
      rcases same b (s.bk i b hi' hb).2 with ⟨h1, h2⟩ | h
      · exact absurd (s.inj i k b hi' h1 hb h2) e
      · exact h
  · intro b hb
    exact Nat.lt_of_lt_of_le (s.old b hb) size

/-- A new name. -/
theorem Sim.new {w w' : World} {g : Gs} {H : IHeap} (s : Sim w g H) (x : Value) (o' : HO)
    (size : w.heap.size ≤ w'.heap.size) (os : w'.os = w.os) (tape : w'.tape = w.tape) (output : w'.output = w.output)
    (same : ∀ b, b < w.heap.size → w'.heap[b]? = w.heap[b]?)
    (hx : ∀ b, blk x = some b → b < w'.heap.size ∧ w.heap.size ≤ b)
    (ho : ∀ g', Mono w g w' g' → g' = g.put H.next x o'.sh (H.next + 1) → ObjR w' g' x o') :
    Sim w' (g.put H.next x o'.sh (H.next + 1)) (H.new o') ∧ Mono w g w' (g.put H.next x o'.sh (H.next + 1)) :=
  s.upd (H' := H.new o') H.next x o' rfl (Nat.le_succ _) (Nat.lt_succ_self _) size os tape output (fun b hb => .inr (same b hb)) (fun b hb => ⟨(hx b hb).1, .inl (hx b hb).2⟩) (.inl rfl) ho

theorem Gs.put_self (g : Gs) (k : Nat) (s : Sh) (h : g.sh k = some s) : g.put k (g.mu k) s g.nx = g := by
  have e1 : (fun i => if i = k then g.mu k else g.mu i) = g.mu := by funext i; split <;> simp_all
  have e2 : (fun i => if i = k then some s else g.sh i) = g.sh := by funext i; split <;> simp_all
  unfold Gs.put
  rw [e1, e2]

/-- What is in a named thing turns. -/
theorem Sim.put {w w' : World} {g : Gs} {H : IHeap} (s : Sim w g H) (k b : Nat) (o o' : HO) (hk : H.obj k = some o) (hsh : o'.sh = o.sh) (hb : blk (g.mu k) = some b)
    (size : w.heap.size = w'.heap.size) (os : w'.os = w.os) (tape : w'.tape = w.tape) (output : w'.output = w.output)
    (same : ∀ i, i ≠ b → w'.heap[i]? = w.heap[i]?) (ho : Mono w g w' g → ObjR w' g (g.mu k) o') :
    Sim w' g (H.set k o') ∧ Mono w g w' g := by
  have hs : g.sh k = some o.sh := by rw [s.sh, IHeap.sh, hk]; rfl
  have hg : g.put k (g.mu k) o'.sh (H.set k o').next = g := by
    rw [hsh]
    show g.put k (g.mu k) o.sh H.next = g
    rw [← s.nx]
    exact g.put_self k _ hs
  have := s.upd (H' := H.set k o') (w' := w') k (g.mu k) o' rfl (Nat.le_refl _) (s.lt k (by rw [hk]; rfl)) (Nat.le_of_eq size) os tape output
    (fun i hi => by
      by_cases e : i = b
      · exact .inl ⟨by rw [hs]; rfl, by rw [e]; exact hb⟩
      · exact .inr (same i e))
    (fun i hi => by
      rw [hb] at hi
      cases hi
      exact ⟨by rw [← size]; exact (s.bk k b (by rw [hs]; rfl) hb).2, .inr ⟨by rw [hs]; rfl, hb⟩⟩)
    (.inr (by
      rw [hs, hsh]
      cases o.sh with
      | fx => exact .inl ⟨rfl, rfl, rfl⟩
      | row n => exact .inr ⟨n, n, rfl, rfl, Nat.le_refl _, fun _ => rfl⟩))
    (fun g' m e => by rw [hg] at e; subst e; exact ho m)
  rw [hg] at this
  exact this

/-- Draws turn nothing. -/
theorem Sim.same {w w' : World} {g : Gs} {H : IHeap} (s : Sim w g H) (hh : w'.heap = w.heap) (os : w'.os = w.os) (tape : w'.tape = w.tape) (output : w'.output = w.output) : Sim w' g H ∧ Mono w g w' g := by
  have m : Mono w g w' g := ⟨by rw [hh]; exact Nat.le_refl _, os, tape, output, fun _ _ _ => by rw [hh], fun _ _ h => h, rfl, Nat.le_refl _, fun _ _ h => ⟨h, rfl⟩, fun _ m' _ h => ⟨m', h, Nat.le_refl _, fun _ => rfl⟩⟩
  exact ⟨⟨s.nx, s.sh, s.lt, fun k b h1 h2 => by rw [hh]; exact s.bk k b h1 h2, s.inj, fun k o h => (s.obj k o h).mono m fun _ _ => by rw [hh], fun b hb => by rw [hh]; exact s.old b hb, fun p hp i hi => (s.snap p hp i hi).mono m⟩, m⟩

/-- The world grows by blocks that nobody names. -/
theorem Sim.grow {w w' : World} {g : Gs} {H : IHeap} (s : Sim w g H) (size : w.heap.size ≤ w'.heap.size) (os : w'.os = w.os) (tape : w'.tape = w.tape) (output : w'.output = w.output)
    (same : ∀ b, b < w.heap.size → w'.heap[b]? = w.heap[b]?) : Sim w' g H ∧ Mono w g w' g := by
  have m : Mono w g w' g := ⟨size, os, tape, output, fun b hb _ => same b hb, fun _ _ h => h, rfl, Nat.le_refl _, fun _ _ h => ⟨h, rfl⟩, fun _ m' _ h => ⟨m', h, Nat.le_refl _, fun _ => rfl⟩⟩
  exact ⟨⟨s.nx, s.sh, s.lt, fun k b h1 h2 => ⟨(s.bk k b h1 h2).1, Nat.lt_of_lt_of_le (s.bk k b h1 h2).2 size⟩, s.inj,
    fun k o h => (s.obj k o h).mono m fun b hb => same b (s.bk k b (by rw [s.sh, IHeap.sh, h]; rfl) hb).2, fun b hb => Nat.lt_of_lt_of_le (s.old b hb) size, fun p hp i hi => (s.snap p hp i hi).mono m⟩, m⟩

/-- A block that nobody names is nobody's. -/
theorem Sim.fresh {w : World} {g : Gs} {H : IHeap} (s : Sim w g H) {b : Nat} (h : w.heap.size ≤ b) : ¬ g.ow b := by
  rintro (h1 | h1)
  · have := s.old b h1; omega
  · have := s.named_lt h1; omega
end Go.Idl

namespace Go.Idl
open Go Go.RowKit

variable {P : Program} {N : Nat} {tm : Tm} {H : IHeap}

theorem putObj_get (w : World) (b : Nat) (o : Obj) (hb : b < w.heap.size) (i : Nat) : (w.putObj b o).heap[i]? = if i = b then some o else w.heap[i]? := by
  by_cases e : i = b
  · subst e
    rw [if_pos rfl]
    exact World.putObj_heap_same hb
  · rw [if_neg e]
    exact World.putObj_heap_other e

theorem heap_lt {w : World} {b : Nat} {o : Obj} (h : w.heap[b]? = some o) : b < w.heap.size := (Array.getElem?_eq_some_iff.1 h).1

/-- An operation whose run and whose end are told. -/
theorem IOper_of {o : Oper} {K : IV → IHeap → Prop} {Qp : List PanicEntry → IHeap → Prop} (hnd : ∀ c, o.op ≠ .defer c)
    (h : ∀ (w : World) (g : Gs) (a : Act), Sim w g H → RA w g a tm → a.tmps.size = N → ∃ x w' g' H' i, ((execOp a.eval o).run P w = .ok (.value x) w' ∨ ((execOp a.eval o).run P w = .ok .skip w' ∧ x = undef)) ∧
      Mono w g w' g' ∧ Sim w' g' H' ∧ R w' g' x i ∧ K i H') : IOper P N o tm H K Qp := by
  refine ⟨hnd, fun rr w g a s r hN => ?_⟩
  obtain ⟨x, w', g', H', i, h1, h2, h3, h4, h5⟩ := h w g a s r hN
  rcases h1 with h1 | ⟨h1, rfl⟩
  · rw [h1]
    exact ⟨x, i, g', H', rfl, h2, h3, h4, h5⟩
  · rw [h1]
    exact ⟨undef, i, g', H', rfl, h2, h3, h4, h5⟩

/-! ### A new block of cells -/
theorem run_newVar (t : TypeId) (v : Value) (w : World) : (newVar t v).run P w = .ok ⟨w.heap.size, 0, none⟩ (w.alloc (.cells v.cells t)) := by
  simp [newVar, newRow]

theorem alloc_get (w : World) (o : Obj) (i : Nat) : (w.alloc o).heap[i]? = if i = w.heap.size then some o else w.heap[i]? := by
  show (w.heap.push o)[i]? = _
  rw [Array.getElem?_push]

theorem freeZ_zero (n : Nat) : FreeZ n (0, 0) := fun i _ h => by simp at h

theorem Sim.newCellsT {w : World} {g : Gs} (s : Sim w g H) (xs : Array Value) (el : TypeId) (cs : List IV) (o : HO) (hoo : o = .cells cs ∨ o = .ty el (.cells cs)) (hl : xs.size = cs.length) (ho : ∀ (j : Nat) (y : Value), xs[j]? = some y → y.oneCell' = true)
    (hr : ∀ (j : Nat) (y : Value) (c : IV), xs[j]? = some y → cs[j]? = some c → R w g y c) :
    ∃ g', Sim (w.alloc (.cells xs el)) g' (H.new o) ∧ Mono w g (w.alloc (.cells xs el)) g' ∧ R (w.alloc (.cells xs el)) g' (.pointer (some ⟨w.heap.size, 0, none⟩)) (.p H.next 0) := by
  have hb : (w.alloc (.cells xs el)).heap[w.heap.size]? = some (.cells xs el (0, 0)) := by rw [alloc_get, if_pos rfl]
  have hobj : ∀ g', Mono w g (w.alloc (.cells xs el)) g' → ObjR (w.alloc (.cells xs el)) g' (.pointer (some ⟨w.heap.size, 0, none⟩)) (.cells cs) := fun g' m => ⟨_, xs, el, (0, 0), rfl, hb, freeZ_zero _, by omega, fun j c hj => by
      have hj' : j < xs.size := by rw [hl]; exact (List.getElem?_eq_some_iff.1 hj).1
      exact ⟨xs[j], Array.getElem?_eq_getElem hj', ho j _ (Array.getElem?_eq_getElem hj'), (hr j _ c (Array.getElem?_eq_getElem hj') hj).mono m⟩⟩
  have hfx : o.sh = .fx := by rcases hoo with rfl | rfl <;> rfl
  have := s.new (w' := w.alloc (.cells xs el)) (.pointer (some ⟨w.heap.size, 0, none⟩)) o (by simp) rfl rfl rfl (fun b hb => by rw [alloc_get, if_neg (by omega)])
    (fun b hb => by simp only [blk, Option.some.injEq] at hb; subst hb; simp)
    (fun g' m _ => by
      rcases hoo with rfl | rfl
      · exact hobj g' m
      · exact ⟨hobj g' m, fun b hb' => by simp only [blk, Option.some.injEq] at hb'; subst hb'; exact ⟨_, hb, fun _ e => by cases e; exact hl⟩⟩)
  refine ⟨_, this.1, this.2, .p _ _ _ (by simp [Gs.put]) ⟨_, rfl⟩ fun sh hs _ => ?_⟩
  exact ⟨w.heap.size, by simp [Gs.put], rfl⟩

theorem Sim.newCells {w : World} {g : Gs} (s : Sim w g H) (xs : Array Value) (el : TypeId) (cs : List IV) (hl : xs.size = cs.length) (ho : ∀ (j : Nat) (y : Value), xs[j]? = some y → y.oneCell' = true)
    (hr : ∀ (j : Nat) (y : Value) (c : IV), xs[j]? = some y → cs[j]? = some c → R w g y c) :
    ∃ g', Sim (w.alloc (.cells xs el)) g' (H.new (.cells cs)) ∧ Mono w g (w.alloc (.cells xs el)) g' ∧ R (w.alloc (.cells xs el)) g' (.pointer (some ⟨w.heap.size, 0, none⟩)) (.p H.next 0) := by
  have hb : (w.alloc (.cells xs el)).heap[w.heap.size]? = some (.cells xs el (0, 0)) := by rw [alloc_get, if_pos rfl]
  have := s.new (w' := w.alloc (.cells xs el)) (.pointer (some ⟨w.heap.size, 0, none⟩)) (.cells cs) (by simp) rfl rfl rfl (fun b hb => by rw [alloc_get, if_neg (by omega)])
    (fun b hb => by simp only [blk, Option.some.injEq] at hb; subst hb; simp)
    (fun g' m _ => ⟨_, xs, el, (0, 0), rfl, hb, freeZ_zero _, by omega, fun j c hj => by
      have hj' : j < xs.size := by rw [hl]; exact (List.getElem?_eq_some_iff.1 hj).1
      exact ⟨xs[j], Array.getElem?_eq_getElem hj', ho j _ (Array.getElem?_eq_getElem hj'), (hr j _ c (Array.getElem?_eq_getElem hj') hj).mono m⟩⟩)
  refine ⟨_, this.1, this.2, .p _ _ _ (by simp [Gs.put]) ⟨_, rfl⟩ fun sh hs _ => ?_⟩
  exact ⟨w.heap.size, by simp [Gs.put], rfl⟩

/-- Is a type a strings.Builder's? -/
def isBld (P : Program) (t : TypeId) : Bool :=
  match P.underlying t with
  | some (.struct fs) => match fs.toList with | [a, b] => decide (a.name = "addr" ∧ b.name = "buf") | _ => false
  | _ => false
def tyB (P : Program) (t : TypeId) (o : HO) : HO := if isBld P t = true then .ty t o else o

theorem IOper_alloc {o : Oper} {K : IV → IHeap → Prop} {Qp : List PanicEntry → IHeap → Prop} {t : TypeId} {z : Value} (ho : o.op = .alloc t) (hz : zeroOf P t = some z) (hone : z.cells.toList.all (·.oneCell') = true)
    (hk : K (.p H.next 0) (H.new (tyB P t (.cells (z.cells.toList.map .v))))) : IOper P N o tm H K Qp := by
  obtain ⟨dst, op, type, pos, after, guard⟩ := o
  simp only at ho
  subst ho
  refine IOper_of (by simp) fun w g a s r hN => ?_
  obtain ⟨g', h1, h2, h3⟩ := s.newCellsT (z.cells) t (z.cells.toList.map .v) (tyB P t (.cells (z.cells.toList.map .v))) (by unfold tyB; split <;> simp) (by simp) (fun j y h1 => by
    rw [List.all_eq_true] at hone
    exact hone y (by rw [Array.mem_toList_iff]; exact Array.mem_of_getElem? h1)) (fun j y c h1 h2 => by
    simp only [List.getElem?_map, Array.getElem?_toList, h1, Option.map_some, Option.some.injEq] at h2
    subst h2
    exact .v _)
  refine ⟨_, _, g', _, _, .inl ?_, h2, h1, h3, hk⟩
  simp [execOp, Instr.alloc, run_zeroValue hz, run_newVar]

theorem IOper_box {o : Oper} {K : IV → IHeap → Prop} {Qp : List PanicEntry → IHeap → Prop} {t : TypeId} {x : Operand} {cs : List IV} (ho : o.op = .box t x) (hok : okO N o = true) (hc : cellsI (ev tm x) = some cs)
    (hk : K (.p H.next 0) (H.new (.cells cs))) : IOper P N o tm H K Qp := by
  obtain ⟨dst, op, type, pos, after, guard⟩ := o
  simp only at ho
  subst ho
  refine IOper_of (by simp) fun w g a s r hN => ?_
  subst hN
  have hx := r.ev (x := x) (by simp [okO, Op.operands] at hok; exact hok.1)
  obtain ⟨c1, c1', c2⟩ := cellsI_sound hx hc
  obtain ⟨g', h1, h2, h3⟩ := s.newCells _ t cs c1 c1' c2
  refine ⟨_, _, g', _, _, .inl ?_, h2, h1, h3, hk⟩
  simp [execOp, Instr.box, run_newVar]

/-! ### Loads -/
def ldH (P : Program) (t : TypeId) (cs : List IV) (off : Nat) : Option (Prop × IV) :=
  match P.underlying t with
  | some d => if aggD d = true then some (Side (0 < P.cellsOf t) ∧ Side (off + P.cellsOf t ≤ cs.length), .ag ((cs.drop off).take (P.cellsOf t))) else some (Side (off < cs.length), cs.getD off .any)
  | none => none

theorem ldH_sound {t : TypeId} {cs : List IV} {off b : Nat} {r : IV} {s : Prop} {w : World} {g : Gs} {xs : Array Value} {el : TypeId} {f : Nat × Nat} (hb : w.heap[b]? = some (.cells xs el f)) (hc : CellsR w g xs cs)
    (h : ldH P t cs off = some (s, r)) (hs : s) : ∃ v, (Instr.loadAt t (.pointer (some ⟨b, off, none⟩))).run P w = .ok v w ∧ R w g v r := by
  have hcell : ∀ j, w.cell? ⟨b, j, none⟩ = xs[j]? := by intro j; simp [World.cell?, hb]
  unfold ldH at h
  split at h
  · rename_i d hu
    split at h
    · rename_i hd
      simp only [Option.some.injEq, Prod.mk.injEq] at h
      obtain ⟨rfl, rfl⟩ := h
      obtain ⟨h1, h2⟩ := hs
      have h2' : off + P.cellsOf t ≤ cs.length := h2
      have hle := hc.1
      have hrun := run_loadCells (P := P) w ⟨b, off, none⟩ (P.cellsOf t) (fun j => xs.getD (off + j) undef) (fun j hj => by
        rw [addr_add, hcell]
        have hlt : off + j < xs.size := by omega
        simp [hlt])
      refine ⟨_, by simp [Instr.loadAt, Instr.sureAddr, loadVar, run_isAgg hu, hd, run_sizeOf_pos h1, hrun]; rfl, .ag _ _ ?_ ?_ ?_⟩
      · simp; omega
      · intro j y hy
        have hjl : j < P.cellsOf t := by
          have := (Array.getElem?_eq_some_iff.1 hy).1
          simpa using this
        obtain ⟨x, q1, q2, _⟩ := hc.2 (off + j) _ (get_of_getD .any (by omega))
        simp [hjl, q1] at hy
        subst hy
        exact q2
      · intro j y c hy hj
        have hjl : j < P.cellsOf t := by
          by_cases e : j < P.cellsOf t
          · exact e
          · simp [List.getElem?_take, e] at hj
        simp only [List.getElem?_take, hjl, if_true, List.getElem?_drop] at hj
        obtain ⟨x, q1, _, q2⟩ := hc.2 _ _ hj
        simp [hjl, q1] at hy
        subst hy
        exact q2
    · rename_i hd
      simp only [Option.some.injEq, Prod.mk.injEq] at h
      obtain ⟨rfl, rfl⟩ := h
      have hs' : off < cs.length := hs
      obtain ⟨x, q1, _, q2⟩ := hc.2 off _ (get_of_getD .any hs')
      have hd' : aggD d = false := by simpa using hd
      exact ⟨x, by simp [Instr.loadAt, Instr.sureAddr, loadVar, run_isAgg hu, hd', hcell, q1], q2⟩
  · cases h

/-- What is named by k: its cells. -/
theorem Sim.cells_at {w : World} {g : Gs} (s : Sim w g H) {k off : Nat} {cs : List IV} (hk : H.obj k = some (.cells cs)) {x : Value} (hx : R w g x (.p k off)) :
    ∃ b xs el f, g.mu k = .pointer (some ⟨b, 0, none⟩) ∧ x = .pointer (some ⟨b, off, none⟩) ∧ w.heap[b]? = some (.cells xs el f) ∧ FreeZ xs.size f ∧ CellsR w g xs cs := by
  obtain ⟨b, xs, el, f, h1, h2, h3, h4⟩ := s.obj k _ hk
  obtain ⟨_, _, hq⟩ := hx.p_inv
  obtain ⟨b', q1, q2⟩ := hq .fx (by rw [s.sh, IHeap.sh, hk]; rfl) rfl
  rw [h1] at q1
  cases q1
  exact ⟨b, xs, el, f, h1, q2, h2, h3, h4⟩

theorem Sim.row_at {w : World} {g : Gs} (s : Sim w g H) {k n off sz : Nat} {es : List (List IV)} (hk : H.obj k = some (.row sz es)) (hn : es.length = n) {x : Value} (hx : R w g x (.pr k n off)) :
    ∃ b xs el f cap, g.mu k = .slice (some ⟨b, 0, none⟩) n cap ∧ x = .pointer (some ⟨b, off, none⟩) ∧ w.heap[b]? = some (.cells xs el f) ∧ FreeZ xs.size f ∧ CellsR w g xs es.flatten ∧ (∀ e, e ∈ es → e.length = sz) ∧
      es.length ≤ cap ∧ es.length ≤ maxN ∧ 0 < sz ∧ cap * sz ≤ xs.size := by
  obtain ⟨a, cap, h1, h2, h3, h4, h5, h6⟩ := s.obj k _ hk
  have hsh : g.sh k = some (.row es.length) := by rw [s.sh, IHeap.sh, hk]; rfl
  have ⟨b', cap', q1, q2⟩ : ∃ b cap, g.mu k = .slice (some ⟨b, 0, none⟩) es.length cap ∧ x = .pointer (some ⟨b, off, none⟩) := by
    cases hx with
    | pr _ _ _ _ _ _ h => exact (h _ hsh).2 hn.symm
  rw [h1] at q1
  cases q1
  rcases h6 with ⟨h6, _⟩ | ⟨b, xs, el, f, e, h7, h8, h9, h10⟩
  · cases h6
  · cases e
    subst hn
    exact ⟨_, xs, el, f, _, h1, q2, h7, h8, h10, h4, h2, h3, h5, h9⟩

/-- What is known of a thing's type may be forgotten. -/
theorem Sim.untype {w : World} {g : Gs} (s : Sim w g H) {k : Nat} {t : TypeId} {o : HO} (hk : H.obj k = some (.ty t o)) : Sim w g (H.set k o) := by
  have hsh : ∀ i, (H.set k o).sh i = H.sh i := fun i => by
    simp only [IHeap.sh, IHeap.set]
    split
    · rename_i e; subst e; rw [hk]; rfl
    · rfl
  refine ⟨s.nx, fun i => (s.sh i).trans (hsh i).symm, fun i hi => ?_, s.bk, s.inj, fun i o' ho => ?_, s.old, s.snap⟩
  · refine s.lt i ?_
    simp only [IHeap.set] at hi
    split at hi
    · rename_i e; subst e; rw [hk]; rfl
    · exact hi
  · simp only [IHeap.set] at ho
    split at ho
    · rename_i e
      subst e
      cases ho
      exact (s.obj _ _ hk).1
    · exact s.obj i o' ho

/-- A cells thing of a known type. -/
theorem Sim.ty_at {w : World} {g : Gs} (s : Sim w g H) {k off : Nat} {T : TypeId} {cs : List IV} (hk : H.obj k = some (.ty T (.cells cs))) {x : Value} (hx : R w g x (.p k off)) :
    ∃ b xs, g.mu k = .pointer (some ⟨b, 0, none⟩) ∧ x = .pointer (some ⟨b, off, none⟩) ∧ w.heap[b]? = some (.cells xs T (0, 0)) ∧ xs.size = cs.length ∧ CellsR w g xs cs := by
  obtain ⟨⟨b, xs, el, f, h1, h2, h3, h4⟩, hp⟩ := s.obj k _ hk
  obtain ⟨_, _, hq⟩ := hx.p_inv
  obtain ⟨b', q1, q2⟩ := hq .fx (by rw [s.sh, IHeap.sh, hk]; rfl) rfl
  rw [h1] at q1
  cases q1
  obtain ⟨xs', h5, h6⟩ := hp b (by rw [h1]; rfl)
  rw [h2] at h5
  cases h5
  exact ⟨b, xs, h1, q2, h2, h6 _ rfl, h4⟩

/-- A load through a name. -/
def ldN (P : Program) (H : IHeap) (t : TypeId) (x : IV) : Option (Prop × IV) :=
  match x with
  | .p k off => match H.obj k with | some (.cells cs) => ldH P t cs off | some (.ty _ (.cells cs)) => ldH P t cs off | _ => none
  | .pr k n off =>
    match H.obj k with
    | some (.row _ es) => match ldH P t es.flatten off with | some (s, r) => some (Side (es.length = n) ∧ s, r) | none => none
    | some (.ty _ (.row _ es)) => match ldH P t es.flatten off with | some (s, r) => some (Side (es.length = n) ∧ s, r) | none => none
    | _ => none
  | _ => none

theorem ldN_sound {t : TypeId} {x : Value} {i r : IV} {s : Prop} {w : World} {g : Gs} (sm : Sim w g H) (hx : R w g x i) (h : ldN P H t i = some (s, r)) (hs : s) :
    ∃ v, (Instr.loadAt t x).run P w = .ok v w ∧ R w g v r := by
  unfold ldN at h
  split at h
  · rename_i k off
    split at h
    · rename_i cs hk
      obtain ⟨b, xs, el, f, _, rfl, hb, _, hc⟩ := sm.cells_at hk hx
      exact ldH_sound hb hc h hs
    · rename_i hk
      obtain ⟨b, xs, _, rfl, hb, _, hc⟩ := sm.ty_at hk hx
      exact ldH_sound hb hc h hs
    · cases h
  · rename_i k n off
    split at h
    · rename_i sz es hk
      split at h
      · rename_i s' r' hl
        simp only [Option.some.injEq, Prod.mk.injEq] at h
        obtain ⟨rfl, rfl⟩ := h
        obtain ⟨b, xs, el, f, cap, _, rfl, hb, _, hc, _⟩ := sm.row_at hk hs.1 hx
        exact ldH_sound hb hc hl hs.2
      · cases h
    · rename_i tt sz es hk
      split at h
      · rename_i s' r' hl
        simp only [Option.some.injEq, Prod.mk.injEq] at h
        obtain ⟨rfl, rfl⟩ := h
        obtain ⟨b, xs, el, f, cap, _, rfl, hb, _, hc, _⟩ := (sm.untype hk).row_at (sz := sz) (es := es) (by simp [IHeap.set]) hs.1 hx
        exact ldH_sound hb hc hl hs.2
      · cases h
    · cases h
  · cases h

theorem IOper_load {o : Oper} {K : IV → IHeap → Prop} {Qp : List PanicEntry → IHeap → Prop} {t : TypeId} {x : Operand} {s : Prop} {r : IV} (ho : o.op = .load t x) (hok : okO N o = true)
    (h : ldN P H t (ev tm x) = some (s, r)) (hs : s) (hk : K r H) : IOper P N o tm H K Qp := by
  obtain ⟨dst, op, type, pos, after, guard⟩ := o
  simp only at ho
  subst ho
  refine IOper_of (by simp) fun w g a sm ra hN => ?_
  subst hN
  have hx := ra.ev (x := x) (by simp [okO, Op.operands] at hok; exact hok.1)
  obtain ⟨v, h1, h2⟩ := ldN_sound sm hx h hs
  exact ⟨v, w, g, H, r, .inl (by simp [execOp, h1]), .refl w g, sm, h2, hk⟩

/-! ### Stores -/
/-- Cells, some of them replaced. -/
def putA (xs : Array Value) : List Value → Nat → Array Value
  | [], _ => xs
  | v :: vs, off => putA (xs.setIfInBounds off v) vs (off + 1)

theorem putA_size : ∀ (vs : List Value) (xs : Array Value) (off : Nat), (putA xs vs off).size = xs.size
  | [], _, _ => rfl
  | v :: vs, xs, off => by rw [putA, putA_size vs]; simp

theorem putA_get : ∀ (vs : List Value) (xs : Array Value) (off j : Nat), off + vs.length ≤ xs.size → (putA xs vs off)[j]? = if off ≤ j ∧ j < off + vs.length then vs[j - off]? else xs[j]?
  | [], xs, off, j, _ => by rw [putA, if_neg (by simp only [List.length_nil]; omega)]
  | v :: vs, xs, off, j, h => by
    simp only [List.length_cons] at h
    rw [putA, putA_get vs _ _ _ (by simp; omega)]
    by_cases h1 : off + 1 ≤ j ∧ j < off + 1 + vs.length
    · rw [if_pos h1, if_pos (by simp only [List.length_cons]; omega)]
      have : j - off = (j - (off + 1)) + 1 := by omega
      rw [this, List.getElem?_cons_succ]
    · rw [if_neg h1]
      by_cases h2 : j = off
      · subst h2
        rw [if_pos (by simp only [List.length_cons]; omega)]
        have hb : j < xs.size := by omega
        simp [hb]
      · rw [if_neg (by simp only [List.length_cons]; omega), Array.getElem?_setIfInBounds_ne (by omega)]

theorem setCell_put {w : World} {b : Nat} {xs : Array Value} {el : TypeId} {f : Nat × Nat} (hb : w.heap[b]? = some (.cells xs el f)) (off : Nat) (v : Value) :
    w.setCell ⟨b, off, none⟩ v = w.putObj b (.cells (xs.setIfInBounds off v) el f) := by
  have hlt := heap_lt hb
  have hbe : w.heap[b] = .cells xs el f := by
    have := Array.getElem?_eq_getElem hlt
    rw [hb] at this
    exact (Option.some.inj this).symm
  unfold World.setCell World.putObj
  congr 1
  apply Array.ext_getElem?
  intro i
  rw [Array.getElem?_modify, Array.getElem?_setIfInBounds]
  by_cases e : b = i
  · subst e
    simp [hlt, hbe]
  · simp [e]

theorem putObj_putObj (w : World) (b : Nat) (o o' : Obj) : (w.putObj b o).putObj b o' = w.putObj b o' := by
  simp [World.putObj]

theorem putObj_self {w : World} {b : Nat} {o : Obj} (h : w.heap[b]? = some o) : w.putObj b o = w := by
  have hlt := heap_lt h
  unfold World.putObj
  have : w.heap.setIfInBounds b o = w.heap := by
    apply Array.ext_getElem?
    intro i
    rw [Array.getElem?_setIfInBounds]
    by_cases e : b = i
    · subst e; rw [if_pos rfl, if_pos hlt, h]
    · simp [e]
  rw [this]

theorem run_storeCells_free {b off : Nat} {el : TypeId} {f : Nat × Nat} : ∀ (vs : List Value) (i : Nat) (xs : Array Value) (w : World), w.heap[b]? = some (.cells xs el f) → FreeZ xs.size f → off + i + vs.length ≤ xs.size →
    (∀ v, v ∈ vs → v.oneCell' = true) → (storeCells ⟨b, off, none⟩ vs i).run P w = .ok () (w.putObj b (.cells (putA xs vs (off + i)) el f))
  | [], i, xs, w, hb, _, _, _ => by simp [storeCells, putA, putObj_self hb]
  | v :: vs, i, xs, w, hb, hf, hl, ho => by
    simp only [List.length_cons] at hl
    have hlt := heap_lt hb
    have hcell : w.cell? ⟨b, off + i, none⟩ = some xs[off + i] := by
      have : off + i < xs.size := by omega
      simp [World.cell?, hb, this]
    have hfr : w.frozen? ⟨b, off + i, none⟩ = false := by
      have := hf (off + i) (by omega)
      obtain ⟨lo, hi⟩ := f
      simp only [World.frozen?, hb, Bool.and_eq_false_iff, decide_eq_false_iff_not]
      simp only at this
      omega
    have hst : (store (⟨b, off + i, none⟩ : Addr) v).run P w = .ok () (w.setCell ⟨b, off + i, none⟩ v) := by
      rw [run_store P w _ v .plain (ho v (by simp)), hcell]
      simp [hfr]
    have hb' : (w.setCell ⟨b, off + i, none⟩ v).heap[b]? = some (.cells (xs.setIfInBounds (off + i) v) el f) := by
      rw [setCell_put hb, putObj_get _ _ _ hlt, if_pos rfl]
    have ih := run_storeCells_free (off := off) vs (i + 1) _ _ hb' (by simpa using hf) (by rw [Array.size_setIfInBounds]; omega) (fun v hv => ho v (List.mem_cons_of_mem _ hv))
    simp only [storeCells, Sem.run_bind, addr_add, hst, Result.andThen_ok, ih]
    rw [setCell_put hb, putObj_putObj]
    rfl

theorem run_storeAt {t : TypeId} {b off : Nat} {x : Value} {xs : Array Value} {el : TypeId} {f : Nat × Nat} {w : World} (hb : w.heap[b]? = some (.cells xs el f)) (hf : FreeZ xs.size f) (hsz : x.cells.size = P.cellsOf t) (h0 : 0 < P.cellsOf t)
    (hl : off + x.cells.size ≤ xs.size) (ho : ∀ v, v ∈ x.cells.toList → v.oneCell' = true) :
    (Instr.storeAt t (.pointer (some ⟨b, off, none⟩)) x).run P w = .ok () (w.putObj b (.cells (putA xs x.cells.toList off) el f)) := by
  have := run_storeCells_free (P := P) (b := b) (off := off) (el := el) (f := f) x.cells.toList 0 xs w hb hf (by simp; omega) ho
  simp [Instr.storeAt, Instr.sureAddr, storeVar, run_sizeOf_pos h0, hsz, this]

theorem CellsR.put {w w' : World} {g : Gs} (m : Mono w g w' g) {xs : Array Value} {cs vc : List IV} {vs : List Value} {off : Nat} (h : CellsR w g xs cs) (hl : off + vc.length ≤ cs.length) (hv : vs.length = vc.length) (ho : ∀ v, v ∈ vs → v.oneCell' = true)
    (hr : ∀ (j : Nat) (y : Value) (c : IV), vs[j]? = some y → vc[j]? = some c → R w g y c) : CellsR w' g (putA xs vs off) (putL cs vc off) := by
  refine ⟨by rw [putA_size, putL_length _ _ _ hl]; exact h.1, fun j c hj => ?_⟩
  rw [putL_get _ _ _ _ hl] at hj
  rw [putA_get _ _ _ _ (by have := h.1; omega), hv]
  split at hj
  · rename_i hin
    rw [if_pos hin]
    have hjl := (List.getElem?_eq_some_iff.1 hj).1
    have hjv : j - off < vs.length := by omega
    exact ⟨vs[j - off], List.getElem?_eq_getElem hjv, ho _ (List.getElem_mem hjv), (hr _ _ _ (List.getElem?_eq_getElem hjv) hj).mono m⟩
  · rename_i hin
    rw [if_neg hin]
    obtain ⟨x, q1, q2, q3⟩ := h.2 j c hj
    exact ⟨x, q1, q2, q3.mono m⟩

theorem mem_oneCell {x : Value} (h : ∀ (j : Nat) (y : Value), x.cells[j]? = some y → y.oneCell' = true) : ∀ v, v ∈ x.cells.toList → v.oneCell' = true := by
  intro v hv
  obtain ⟨j, hj⟩ := List.getElem?_of_mem hv
  exact h j v (by simpa using hj)

theorem IOper_store {o : Oper} {K : IV → IHeap → Prop} {Qp : List PanicEntry → IHeap → Prop} {t : TypeId} {x y : Operand} {k off : Nat} {cs vc : List IV} (ho : o.op = .store t x y) (hok : okO N o = true)
    (hx : ev tm x = .p k off) (hk : H.obj k = some (.cells cs)) (hv : cellsI (ev tm y) = some vc) (h1 : vc.length = P.cellsOf t) (h0 : 0 < P.cellsOf t) (hl : off + vc.length ≤ cs.length)
    (hK : K (.v undef) (H.set k (.cells (putL cs vc off)))) : IOper P N o tm H K Qp := by
  obtain ⟨dst, op, type, pos, after, guard⟩ := o
  simp only at ho
  subst ho
  refine IOper_of (by simp) fun w g a s r hN => ?_
  subst hN
  simp [okO, Op.operands] at hok
  have rx := r.ev (x := x) hok.1.1
  have ry := r.ev (x := y) hok.1.2
  rw [hx] at rx
  obtain ⟨b, xs, el, f, hmu, hxe, hb, hf, hc⟩ := s.cells_at hk rx
  obtain ⟨v1, v1', v2⟩ := cellsI_sound ry hv
  have hlt := heap_lt hb
  have hcl := hc.1
  have hrun := run_storeAt (P := P) (t := t) (off := off) (x := a.eval y) hb hf (by omega) h0 (by omega) (mem_oneCell v1')
  have hp := s.put (w' := w.putObj b (.cells (putA xs (a.eval y).cells.toList off) el f)) k b (.cells cs) (.cells (putL cs vc off)) hk rfl (by rw [hmu]; rfl) (by simp) rfl rfl rfl
    (fun i hi => World.putObj_heap_other hi)
    (fun m => ⟨b, _, el, f, hmu, by rw [putObj_get _ _ _ hlt, if_pos rfl], by rw [putA_size]; exact hf, hc.put m hl (by simp; omega) (mem_oneCell v1') (fun j y c q1 q2 => v2 j y c (by simpa using q1) q2)⟩)
  refine ⟨undef, _, g, _, .v undef, .inr ⟨?_, rfl⟩, hp.2, hp.1, .v _, hK⟩
  simp [execOp, hxe, hrun]

theorem IOper_storeT {o : Oper} {K : IV → IHeap → Prop} {Qp : List PanicEntry → IHeap → Prop} {t T : TypeId} {x y : Operand} {k off : Nat} {cs vc : List IV} (ho : o.op = .store t x y) (hok : okO N o = true)
    (hx : ev tm x = .p k off) (hk : H.obj k = some (.ty T (.cells cs))) (hv : cellsI (ev tm y) = some vc) (h1 : vc.length = P.cellsOf t) (h0 : 0 < P.cellsOf t) (hl : off + vc.length ≤ cs.length)
    (hK : K (.v undef) (H.set k (.ty T (.cells (putL cs vc off))))) : IOper P N o tm H K Qp := by
  obtain ⟨dst, op, type, pos, after, guard⟩ := o
  simp only at ho
  subst ho
  refine IOper_of (by simp) fun w g a s r hN => ?_
  subst hN
  simp [okO, Op.operands] at hok
  have rx := r.ev (x := x) hok.1.1
  have ry := r.ev (x := y) hok.1.2
  rw [hx] at rx
  obtain ⟨b, xs, hmu, hxe, hb, hsz, hc⟩ := s.ty_at hk rx
  obtain ⟨v1, v1', v2⟩ := cellsI_sound ry hv
  have hlt := heap_lt hb
  have hcl := hc.1
  have hrun := run_storeAt (P := P) (t := t) (off := off) (x := a.eval y) hb (freeZ_zero _) (by omega) h0 (by omega) (mem_oneCell v1')
  have hp := s.put (w' := w.putObj b (.cells (putA xs (a.eval y).cells.toList off) T (0, 0))) k b (.ty T (.cells cs)) (.ty T (.cells (putL cs vc off))) hk rfl (by rw [hmu]; rfl) (by simp) rfl rfl rfl
    (fun i hi => World.putObj_heap_other hi)
    (fun m => ⟨⟨b, _, T, (0, 0), hmu, by rw [putObj_get _ _ _ hlt, if_pos rfl], by rw [putA_size]; exact freeZ_zero _, hc.put m hl (by simp; omega) (mem_oneCell v1') (fun j y c q1 q2 => v2 j y c (by simpa using q1) q2)⟩,
      fun b' hb' => by
        rw [hmu] at hb'
        simp only [blk, Option.some.injEq] at hb'
        subst hb'
        exact ⟨_, by rw [putObj_get _ _ _ hlt, if_pos rfl], fun cs' e => by cases e; rw [putA_size, hsz]; simp [putL]; omega⟩⟩)
  refine ⟨undef, _, g, _, .v undef, .inr ⟨?_, rfl⟩, hp.2, hp.1, .v _, hK⟩
  simp [execOp, hxe, hrun]

end Go.Idl
