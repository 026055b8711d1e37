/- Heads in any order, their names in great letters, are the same heads: the saying of the case law 12 Part 1. Conditions: none. -/
import Derived.RangeFuncLeaves
import Derived.RangeFuncCalls
import Derived.Below
import Derived.WalkKit
import Derived.KernelRfl
import Derived.ChangeKeysEq
import Derived.Laws.BytesArg
import Derived.Laws.AppendOwn
import Derived.Lib.ConvBytes
import Derived.MapKept
set_option linter.unusedSimpArgs false
set_option linter.unusedVariables false
namespace Go.Idl
open Go Go.RowKit
inductive IV where
  | v (x : Value)
  | sl (sz : Nat) (es : List (List IV))
  | cp (cs : List IV)
  | ag (cs : List IV)
  | tu (vs : List IV)
  | fn (f : Fn) (first cap : List IV)
  | ifc (t : TypeId) (x : IV)
  | p (k off : Nat)
  | mp (k : Nat)
  | os (k n : Nat)
  | pr (k n off : Nat)
  | bs (k off n : Nat)
  | blk (b : Nat) (xs : Array Value)
  | any
instance : Inhabited IV := ⟨.any⟩
inductive Sh where
  | fx
  | row (n : Nat)
def blk : Value → Option Nat
  | .pointer (some a) => some a.block
  | .slice (some a) _ _ => some a.block
  | .map (some r) => some r
  | _ => none
structure Gs where
  oth : Nat → Prop
  mu : Nat → Value
  sh : Nat → Option Sh
  nx : Nat
def Gs.named (g : Gs) (b : Nat) : Prop := ∃ k, (g.sh k).isSome = true ∧ blk (g.mu k) = some b
def Gs.ow (g : Gs) (b : Nat) : Prop := g.oth b ∨ g.named b
def D5 : Nat := 9223372036854775807
inductive R (w : World) (g : Gs) : Value → IV → Prop
  | v (x : Value) : R w g x (.v x)
  | any (x : Value) : R w g x .any
  | sl0 (a : Option Addr) (cap sz : Nat) : R w g (.slice a 0 cap) (.sl sz [])
  | sl (b off cap sz : Nat) (es : List (List IV)) (cv : Nat → Nat → Value) (hb : ¬ g.ow b) (hlt : b < w.heap.size) (hlen : es.length ≤ D5) (hcap : es.length ≤ cap)
      (hsz : ∀ e, e ∈ es → e.length = sz)
      (hc : ∀ (i : Nat) (e : List IV) (j : Nat) (c : IV), es[i]? = some e → e[j]? = some c → w.cell? ⟨b, off + i * sz + j, none⟩ = some (cv i j))
      (ho : ∀ (i : Nat) (e : List IV) (j : Nat) (c : IV), es[i]? = some e → e[j]? = some c → (cv i j).oneCell' = true)
      (hr : ∀ (i : Nat) (e : List IV) (j : Nat) (c : IV), es[i]? = some e → e[j]? = some c → R w g (cv i j) c) :
      R w g (.slice (some ⟨b, off, none⟩) es.length cap) (.sl sz es)
  | cp (b off : Nat) (cs : List IV) (cv : Nat → Value) (hb : ¬ g.ow b) (hlt : b < w.heap.size)
      (hc : ∀ (j : Nat) (c : IV), cs[j]? = some c → w.cell? ⟨b, off + j, none⟩ = some (cv j))
      (ho : ∀ (j : Nat) (c : IV), cs[j]? = some c → (cv j).oneCell' = true)
      (hr : ∀ (j : Nat) (c : IV), cs[j]? = some c → R w g (cv j) c) :
      R w g (.pointer (some ⟨b, off, none⟩)) (.cp cs)
  | ag (xs : Array Value) (cs : List IV) (hl : xs.size = cs.length) (ho : ∀ (j : Nat) (x : Value), xs[j]? = some x → x.oneCell' = true)
      (hr : ∀ (j : Nat) (x : Value) (c : IV), xs[j]? = some x → cs[j]? = some c → R w g x c) : R w g (.agg xs) (.ag cs)
  | tu (xs : Array Value) (cs : List IV) (hl : xs.size = cs.length)
      (hr : ∀ (j : Nat) (x : Value) (c : IV), xs[j]? = some x → cs[j]? = some c → R w g x c) : R w g (.tuple xs) (.tu cs)
  | fn (f : Fn) (xs ys : Array Value) (fi ca : List IV) (hl : xs.size = fi.length) (hl' : ys.size = ca.length)
      (hr : ∀ (j : Nat) (x : Value) (c : IV), xs[j]? = some x → fi[j]? = some c → R w g x c)
      (hr' : ∀ (j : Nat) (x : Value) (c : IV), ys[j]? = some x → ca[j]? = some c → R w g x c) : R w g (.func f xs ys) (.fn f fi ca)
  | ifc (t : TypeId) (x : Value) (c : IV) (hr : R w g x c) : R w g (.iface t x) (.ifc t c)
  | p (k off : Nat) (x : Value) (hk : k < g.nx) (hx : ∃ a, x = .pointer (some a))
      (h : ∀ s, g.sh k = some s → s = .fx → ∃ b, g.mu k = .pointer (some ⟨b, 0, none⟩) ∧ x = .pointer (some ⟨b, off, none⟩)) : R w g x (.p k off)
  | mp (k : Nat) (x : Value) (hk : k < g.nx) (hx : ∃ a, x = .map (some a)) (h : ∀ s, g.sh k = some s → s = .fx → g.mu k = x) : R w g x (.mp k)
  | os (k n : Nat) (x : Value) (hk : k < g.nx) (h : ∀ m, g.sh k = some (.row m) → n ≤ m ∧ (n = m → x = g.mu k))
      (hx : ∃ a cap, x = .slice a n cap) : R w g x (.os k n)
  | pr (k n off : Nat) (x : Value) (hk : k < g.nx) (hx : ∃ a, x = .pointer (some a))
      (h : ∀ m, g.sh k = some (.row m) → n ≤ m ∧ (n = m → ∃ b cap, g.mu k = .slice (some ⟨b, 0, none⟩) m cap ∧ x = .pointer (some ⟨b, off, none⟩))) : R w g x (.pr k n off)
  | bs (k off n : Nat) (x : Value) (hk : k < g.nx) (hx : ∃ a cap, x = .slice (some a) n cap ∧ n ≤ cap)
      (h : ∀ s, g.sh k = some s → s = .fx → ∃ b cap, g.mu k = .pointer (some ⟨b, 0, none⟩) ∧ x = .slice (some ⟨b, off, none⟩) n cap) : R w g x (.bs k off n)
  | blk (b : Nat) (xs : Array Value) (el : TypeId) (f : Nat × Nat) (x : Value) (hb : ¬ g.ow b) (h : w.heap[b]? = some (.cells xs el f)) : R w g x (.blk b xs)
structure AB (w : World) (g : Gs) (w' : World) (g' : Gs) : Prop where
  size : w.heap.size ≤ w'.heap.size
  os : w'.os = w.os
  tape : w'.tape = w.tape
  output : w'.output = w.output
  keep : ∀ b, b < w.heap.size → (g.named b → g.oth b) → w'.heap[b]? = w.heap[b]?
  own : ∀ b, b < w.heap.size → g'.ow b → g.ow b
  oth : g'.oth = g.oth
  nx : g.nx ≤ g'.nx
  fx : ∀ k, k < g.nx → g'.sh k = some .fx → g.sh k = some .fx ∧ g'.mu k = g.mu k
  row : ∀ k m', k < g.nx → g'.sh k = some (.row m') → ∃ m, g.sh k = some (.row m) ∧ m ≤ m' ∧ (m = m' → g'.mu k = g.mu k)
theorem AB.refl (w : World) (g : Gs) : AB w g w g :=
  ⟨Nat.le_refl _, rfl, rfl, rfl, fun _ _ _ => rfl, fun _ _ h => h, rfl, Nat.le_refl _, fun _ _ h => ⟨h, rfl⟩, fun k m' _ h => ⟨m', h, Nat.le_refl _, fun _ => rfl⟩⟩
theorem AB.trans {w w1 w2 : World} {g g1 g2 : Gs} (h : AB w g w1 g1) (k : AB w1 g1 w2 g2) : AB w g w2 g2 where
  size := Nat.le_trans h.size k.size
  os := k.os.trans h.os
  tape := k.tape.trans h.tape
  output := k.output.trans h.output
  keep := fun b hb hnb => (k.keep b (Nat.lt_of_lt_of_le hb h.size) (fun e => by rw [h.oth]; exact (h.own b hb (.inr e)).elim id hnb)).trans (h.keep b hb hnb)
  own := fun b hb e => h.own b hb (k.own b (Nat.lt_of_lt_of_le hb h.size) e)
  oth := k.oth.trans h.oth
  nx := Nat.le_trans h.nx k.nx
  fx := fun i hi e => by
    obtain ⟨e1, e2⟩ := k.fx i (Nat.lt_of_lt_of_le hi h.nx) e
    obtain ⟨e3, e4⟩ := h.fx i hi e1
    exact ⟨e3, e2.trans e4⟩
  row := fun i m' hi e => by
    obtain ⟨m1, e1, l1, q1⟩ := k.row i m' (Nat.lt_of_lt_of_le hi h.nx) e
    obtain ⟨m, e2, l2, q2⟩ := h.row i m1 hi e1
    exact ⟨m, e2, Nat.le_trans l2 l1, fun e => (q1 (by omega)).trans (q2 (by omega))⟩
theorem cell_of_heap {w w' : World} {b : Nat} (h : w'.heap[b]? = w.heap[b]?) (off : Nat) : w'.cell? ⟨b, off, none⟩ = w.cell? ⟨b, off, none⟩ := by
 simp only [World.cell?, h]
structure Hi (w : World) (g : Gs) (w' : World) (g' : Gs) : Prop where
  size : w.heap.size ≤ w'.heap.size
  keep : ∀ b, b < w.heap.size → ¬ g.ow b → w'.heap[b]? = w.heap[b]?
  own : ∀ b, b < w.heap.size → g'.ow b → g.ow b
  nx : g.nx ≤ g'.nx
  fx : ∀ k, k < g.nx → g'.sh k = some .fx → g.sh k = some .fx ∧ g'.mu k = g.mu k
  row : ∀ k m', k < g.nx → g'.sh k = some (.row m') → ∃ m, g.sh k = some (.row m) ∧ m ≤ m' ∧ (m = m' → g'.mu k = g.mu k)
theorem AB.toR {w w' : World} {g g' : Gs} (m : AB w g w' g') : Hi w g w' g' := ⟨m.size, fun b hb h => m.keep b hb fun e => absurd (.inr e) h, m.own, m.nx, m.fx, m.row⟩
theorem R.Fj {w w' : World} {g g' : Gs} (m : Hi w g w' g') {x : Value} {i : IV} (h : R w g x i) : R w' g' x i := by
 induction h with
 | v x => exact .v x
 | any x => exact .any x
 | sl0 a cap sz => exact .sl0 a cap sz
 | sl b off cap sz es cv hb hlt hlen hcap hsz hc ho _ ih =>
  have hk := m.keep b hlt hb; exact .sl b off cap sz es cv (fun e => hb (m.own b hlt e)) (Nat.lt_of_lt_of_le hlt m.size) hlen hcap hsz (fun i e j c h1 h2 => (cell_of_heap hk _).trans (hc i e j c h1 h2)) ho ih
 | cp b off cs cv hb hlt hc ho _ ih =>
  have hk := m.keep b hlt hb; exact .cp b off cs cv (fun e => hb (m.own b hlt e)) (Nat.lt_of_lt_of_le hlt m.size) (fun j c h1 => (cell_of_heap hk _).trans (hc j c h1)) ho ih
 | blk b xs el f x hb h =>
  have hlt : b < w.heap.size := (Array.getElem?_eq_some_iff.1 h).1; exact .blk b xs el f x (fun e => hb (m.own b hlt e)) ((m.keep b hlt hb).trans h)
 | ag xs cs hl ho _ ih => exact .ag xs cs hl ho ih
 | tu xs cs hl _ ih => exact .tu xs cs hl ih
 | fn f xs ys fi ca hl hl' _ _ ih ih' => exact .fn f xs ys fi ca hl hl' ih ih'
 | ifc t x c _ ih => exact .ifc t x c ih
 | p k off x hk hx h =>
  refine .p k off x (Nat.lt_of_lt_of_le hk m.nx) hx fun s hs e => ?_; subst e; obtain ⟨e1, e2⟩ := m.fx k hk hs; rw [e2]; exact h _ e1 rfl
 | bs k off n x hk hx h =>
  refine .bs k off n x (Nat.lt_of_lt_of_le hk m.nx) hx fun s hs e => ?_; subst e; obtain ⟨e1, e2⟩ := m.fx k hk hs; rw [e2]; exact h _ e1 rfl
 | mp k x hk hx h =>
  refine .mp k x (Nat.lt_of_lt_of_le hk m.nx) hx fun s hs e => ?_; subst e; obtain ⟨e1, e2⟩ := m.fx k hk hs; rw [e2]; exact h _ e1 rfl
 | os k n x hk h hx =>
  refine .os k n x (Nat.lt_of_lt_of_le hk m.nx) (fun m' hs => ?_) hx; obtain ⟨m1, e1, l1, q1⟩ := m.row k m' hk hs; obtain ⟨l2, q2⟩ := h m1 e1; exact ⟨Nat.le_trans l2 l1, fun e => by rw [q1 (by omega)]; exact q2 (by omega)⟩
 | pr k n off x hk hx h =>
  refine .pr k n off x (Nat.lt_of_lt_of_le hk m.nx) hx (fun m' hs => ?_); obtain ⟨m1, e1, l1, q1⟩ := m.row k m' hk hs; obtain ⟨l2, q2⟩ := h m1 e1; refine ⟨Nat.le_trans l2 l1, fun e => ?_⟩; obtain ⟨b, cap, q3, q4⟩ := q2 (by omega); have hm : m1 = m' := by omega
  subst hm; exact ⟨b, cap, by rw [q1 rfl]; exact q3, q4⟩
theorem R.mono {w w' : World} {g g' : Gs} (m : AB w g w' g') {x : Value} {i : IV} (h : R w g x i) : R w' g' x i := h.Fj m.toR
inductive HO where
  | cells (cs : List IV)
  | row (sz : Nat) (es : List (List IV))
  | obj (o : Obj)
  | map (es : List (Value × IV))
  | Dx (bs : List Nat) (c : Nat) (es : List (Value × IV))
  | it (km since : Nat) (seen : List Nat) (c : Nat)
  | ty (t : TypeId) (o : HO)
def HO.sh : HO → Sh
  | .cells _ => .fx
  | .row _ es => .row es.length
  | .obj _ => .fx
  | .map _ => .fx
  | .Dx _ _ _ => .fx
  | .it _ _ _ _ => .fx
  | .ty _ o => o.sh
structure A0 where
  next : Nat
  obj : Nat → Option HO
  /-- Frames that are kept as they were: what they read as. -/
  sn : List (Array Value × (Nat → IV))
def A0.sh (H : A0) (k : Nat) : Option Sh := (H.obj k).map HO.sh
def Bx (w : World) (g : Gs) (xs : Array Value) (cs : List IV) : Prop :=
  cs.length ≤ xs.size ∧ ∀ (j : Nat) (c : IV), cs[j]? = some c → ∃ x, xs[j]? = some x ∧ x.oneCell' = true ∧ R w g x c
def Hj (n : Nat) (f : Nat × Nat) : Prop := ∀ i, i < n → ¬ (f.1 ≤ i ∧ i < f.2)
def Pin (w : World) (x : Value) (t : TypeId) (o : HO) : Prop := ∀ b, blk x = some b → ∃ xs, w.heap[b]? = some (.cells xs t (0, 0)) ∧ ∀ cs, o = .cells cs → xs.size = cs.length
theorem Pin.keep {w w' : World} {x : Value} {t : TypeId} {o : HO} (hb : ∀ b, blk x = some b → w'.heap[b]? = w.heap[b]?) (h : Pin w x t o) : Pin w' x t o := fun b e => by
  obtain ⟨xs, h1, h2⟩ := h b e
  exact ⟨xs, (hb b e).trans h1, h2⟩
structure Eo (w : World) (g : Gs) (ents : Array MapEntry) (clock : Nat) (es : List (Value × IV)) : Prop where
  size : ents.size = es.length
  ent : ∀ (i : Nat) (me : MapEntry) (e : Value × IV), ents[i]? = some me → es[i]? = some e → me.key = e.1 ∧ R w g me.val e.2
  born : ∀ me, me ∈ ents.toList → me.born < clock
  nodup : (ents.toList.map (·.born)).Nodup
  keys : (es.map (·.1)).Nodup
theorem Eo.imp {w w' : World} {g g' : Gs} {ents : Array MapEntry} {clock : Nat} {es : List (Value × IV)} (h : Eo w g ents clock es) (hr : ∀ x e, e ∈ es → R w g x e.2 → R w' g' x e.2) : Eo w' g' ents clock es :=
  ⟨h.size, fun i me e h1 h2 => ⟨(h.ent i me e h1 h2).1, hr _ e (List.mem_of_getElem? h2) (h.ent i me e h1 h2).2⟩, h.born, h.nodup, h.keys⟩
def Ct (w : World) (g : Gs) (x : Value) : HO → Prop
  | .cells cs => ∃ b xs el f, x = .pointer (some ⟨b, 0, none⟩) ∧ w.heap[b]? = some (.cells xs el f) ∧ Hj xs.size f ∧ Bx w g xs cs
  | .row sz es => ∃ a cap, x = .slice a es.length cap ∧ es.length ≤ cap ∧ es.length ≤ D5 ∧ (∀ e, e ∈ es → e.length = sz) ∧ 0 < sz ∧
      ((a = none ∧ cap = 0) ∨ ∃ b xs el f, a = some ⟨b, 0, none⟩ ∧ w.heap[b]? = some (.cells xs el f) ∧ Hj xs.size f ∧ cap * sz ≤ xs.size ∧ Bx w g xs es.flatten)
  | .obj o => ∃ b, x = .map (some b) ∧ w.heap[b]? = some o ∧ (∀ xs el f, o ≠ .cells xs el f)
  | .map es => ∃ b ents clock, x = .map (some b) ∧ w.heap[b]? = some (.map ents clock) ∧ Eo w g ents clock es
  | .Dx bs c es => ∃ b ents, x = .map (some b) ∧ w.heap[b]? = some (.map ents c) ∧ Eo w g ents c es ∧ ents.toList.map (·.born) = bs
  | .it km since seen c => ∃ b bm, x = .pointer (some ⟨b, 0, none⟩) ∧ w.heap[b]? = some (.mapIter (some bm) since seen.toArray c) ∧ R w g (.map (some bm)) (.mp km)
  | .ty t o => Ct w g x o ∧ Pin w x t o
structure Sim (w : World) (g : Gs) (H : A0) : Prop where
  nx : g.nx = H.next
  sh : ∀ k, g.sh k = H.sh k
  lt : ∀ k, (H.obj k).isSome = true → k < H.next
  bk : ∀ k b, (g.sh k).isSome = true → blk (g.mu k) = some b → ¬ g.oth b ∧ b < w.heap.size
  inj : ∀ k k' b, (g.sh k).isSome = true → (g.sh k').isSome = true → blk (g.mu k) = some b → blk (g.mu k') = some b → k = k'
  obj : ∀ k o, H.obj k = some o → Ct w g (g.mu k) o
  old : ∀ b, g.oth b → b < w.heap.size
  snap : ∀ p, p ∈ H.sn → ∀ i, i < p.1.size → R w g (p.1.getD i undef) (p.2 i)
theorem Sim.On {w : World} {g : Gs} {H : A0} (s : Sim w g H) {b : Nat} (h : g.named b) : b < w.heap.size := by
 obtain ⟨k, h1, h2⟩ := h; exact (s.bk k b h1 h2).2
abbrev Tm := Nat → IV
def RA (w : World) (g : Gs) (a : Act) (tm : Tm) : Prop := ∀ i, i < a.tmps.size → R w g (a.tmps.getD i undef) (tm i)
theorem RA.mono {w w' : World} {g g' : Gs} (m : AB w g w' g') {a : Act} {tm : Tm} (h : RA w g a tm) : RA w' g' a tm := fun i hi => (h i hi).mono m
def Oo (rr : Option Nat) (w : World) (g : Gs) : Prop := ∀ r, rr = some r → (∃ rec, w.heap[r]? = some (.loop rec)) ∧ g.oth r
theorem Oo.mono {rr : Option Nat} {w w' : World} {g g' : Gs} (m : AB w g w' g') (h : Oo rr w g) : Oo rr w' g' := by
 intro r hr; obtain ⟨⟨rec, h1⟩, h2⟩ := h r hr; have hlt : r < w.heap.size := (Array.getElem?_eq_some_iff.1 h1).1; exact ⟨⟨rec, (m.keep r hlt fun _ => h2).trans h1⟩, by rw [m.oth]; exact h2⟩
def Bf (rr : Option Nat) (B : Nat) (w : World) (g : Gs) : List Deferred → Prop
  | [] => Oo rr w g
  | d :: ds => (∃ r, d = { target := .collected r, args := #[] } ∧ B ≤ r ∧ r < w.heap.size ∧ w.heap[r]? = some (.deferred (some [])) ∧ ¬ g.ow r ∧
      ∀ d', d' ∈ ds → d'.target ≠ .collected r) ∧ Bf rr B w g ds
theorem Bf.mono {rr : Option Nat} {B : Nat} {w w' : World} {g g' : Gs} (m : AB w g w' g') : ∀ {ds : List Deferred}, Bf rr B w g ds → Bf rr B w' g' ds
  | [], h => Oo.mono m h
  | d :: ds, ⟨⟨r, h1, h2, h3, h4, h5, h6⟩, h7⟩ =>
    ⟨⟨r, h1, h2, Nat.lt_of_lt_of_le h3 m.size, (m.keep r h3 (fun e => absurd (.inr e) h5)).trans h4, fun e => h5 (m.own r h3 e), h6⟩, h7.mono m⟩
def Marks (rr : Option Nat) (B : Nat) (D : List Deferred) (w : World) (g : Gs) (ds : List Deferred) : Prop := ∃ ms, ds = ms ++ D ∧ Bf rr B w g ms
theorem Marks.mono {rr : Option Nat} {B : Nat} {D : List Deferred} {w w' : World} {g g' : Gs} (m : AB w g w' g') {ds : List Deferred} : Marks rr B D w g ds → Marks rr B D w' g' ds := fun ⟨ms, h1, h2⟩ => ⟨ms, h1, h2.mono m⟩
def FR (r : Option Nat) : Fence := { fn := fun _ => True, depth := none, alive := false, round := r }
theorem N2 {r : Option Nat} {n : Nat} {P : Program} {f : FuncId} {args : Array Value} {w : World} {Q : Ending → World → Prop} (h : Calls P f args w Q) : CallsIn (FR r) n P f args w Q := by
 have h1 := (callsIn_wide (n := n)).2 h; cases r with
 | none => exact h1
 | some l => exact CallsIn.inRound l h1
theorem Oq {r : Option Nat} {n : Nat} {P : Program} {f : FuncId} {args : Array Value} {w : World} {Q : Ending → World → Prop} (h : CallsIn (FR r) n P f args w Q) : Calls P f args w Q := by
 cases r with
 | none => exact callsIn_wide.1 h
 | some l => exact callsIn_wide.1 (CallsIn.outOfRound (l := l) h)
inductive An where
  | ret (x : IV)
  | pan (ch : List PanicEntry)
inductive RE (w : World) (g : Gs) : Ending → An → Prop
  | ret (x : Value) (i : IV) (h : R w g x i) : RE w g (.returned x) (.ret i)
  | pan (ch : List PanicEntry) : RE w g (.panicked ch) (.pan ch)
def RL (w : World) (g : Gs) (xs : Array Value) (is : List IV) : Prop :=
  xs.size = is.length ∧ ∀ (j : Nat) (x : Value) (c : IV), xs[j]? = some x → is[j]? = some c → R w g x c
theorem RL.mono {w w' : World} {g g' : Gs} (m : AB w g w' g') {xs : Array Value} {is : List IV} (h : RL w g xs is) : RL w' g' xs is :=
  ⟨h.1, fun j x c h1 h2 => (h.2 j x c h1 h2).mono m⟩
def Bq (P : Program) (f : FuncId) : Bool :=
  match P.funcs[f]? with
  | some fn => fn.body.isSome && !(fn.name == "runtime.NumGoroutine")
  | none => false
structure A2 (P : Program) (f : FuncId) (args : List IV) (H : A0) (Q : An → A0 → Prop) : Prop where
  body : Bq P f = true
  run : ∀ (w : World) (g : Gs) (vs : Array Value), Sim w g H → RL w g vs args →
    Calls P f vs w fun e w' => ∃ ie g' H', AB w g w' g' ∧ Sim w' g' H' ∧ RE w' g' e ie ∧ Q ie H'
theorem A2.mono {P : Program} {f : FuncId} {args : List IV} {H : A0} {Q Q' : An → A0 → Prop} (h : A2 P f args H Q) (hq : ∀ e H', Q e H' → Q' e H') : A2 P f args H Q' :=
  ⟨h.body, fun w g vs s r => (h.run w g vs s r).mono fun e w' ⟨ie, g', H', h1, h2, h3, h4⟩ => ⟨ie, g', H', h1, h2, h3, hq _ _ h4⟩⟩
structure IWp (P : Program) (N : Nat) (c : Code) (Q : Exit → Tm → A0 → Prop) (tm : Tm) (H : A0) : Prop where
  run : ∀ (rr : Option Nat) (B : Nat) (D : List Deferred) (w : World) (g : Gs) (a : Act), Sim w g H → RA w g a tm → a.tmps.size = N → B ≤ w.heap.size → Marks rr B D w g a.defers →
    c.wpIn (FR rr) 0 P (fun e a' w' => ∃ tm' g' H', AB w g w' g' ∧ Sim w' g' H' ∧ RA w' g' a' tm' ∧ a'.tmps.size = N ∧ Marks rr B D w' g' a'.defers ∧ e ≠ .outgrown ∧ Q e tm' H') a w
theorem IWp.mono {P : Program} {N : Nat} {c : Code} {Q Q' : Exit → Tm → A0 → Prop} {tm : Tm} {H : A0} (h : IWp P N c Q tm H) (hq : ∀ e tm H, Q e tm H → Q' e tm H) : IWp P N c Q' tm H :=
  ⟨fun rr B D w g a s r hN hB hm => wpIn_mono (h.run rr B D w g a s r hN hB hm) fun e a' w' ⟨tm', g', H', h1, h2, h3, h4, h5, h6, h7⟩ => ⟨tm', g', H', h1, h2, h3, h4, h5, h6, hq _ _ _ h7⟩⟩
theorem AB.tr {w w1 w2 : World} {g g1 g2 : Gs} {H H1 : A0} (h : AB w g w1 g1) (k : AB w1 g1 w2 g2) (s : Sim w g H) (s1 : Sim w1 g1 H1) : AB w g w2 g2 :=
  h.trans k
end Go.Idl
namespace Go.Idl
open Go Go.RowKit
variable {P : Program} {N : Nat} {Q : Exit → Tm → A0 → Prop} {tm : Tm} {H : A0}
def Post (rr : Option Nat) (B : Nat) (D : List Deferred) (N : Nat) (Q : Exit → Tm → A0 → Prop) (w : World) (g : Gs) (e : Exit) (a' : Act) (w' : World) : Prop :=
  ∃ tm' g' H', AB w g w' g' ∧ Sim w' g' H' ∧ RA w' g' a' tm' ∧ a'.tmps.size = N ∧ Marks rr B D w' g' a'.defers ∧ e ≠ .outgrown ∧ Q e tm' H'
theorem Post.tr {rr : Option Nat} {B N : Nat} {D : List Deferred} {w w1 : World} {g g1 : Gs} {H H1 : A0} {e : Exit} {a' : Act} {w' : World} (m : AB w g w1 g1) (s : Sim w g H) (s1 : Sim w1 g1 H1) (h : Post rr B D N Q w1 g1 e a' w') : Post rr B D N Q w g e a' w' := by
 obtain ⟨tm', g', H', h1, h2, h3, h4, h5, h6, h7⟩ := h; exact ⟨tm', g', H', m.tr h1 s s1, h2, h3, h4, h5, h6, h7⟩
theorem Ot (h : Q .normal tm H) : IWp P N .skip Q tm H :=
  ⟨fun _ _ _ w g _ s r hN _ hm => wpIn_skip ⟨tm, g, H, .refl w g, s, r, hN, hm, by simp, h⟩⟩
theorem Nu {l : Nat} (h : Q .normal tm H) : IWp P N (.label l) Q tm H :=
  ⟨fun _ _ _ w g _ s r hN _ hm => wpIn_label ⟨tm, g, H, .refl w g, s, r, hN, hm, by simp, h⟩⟩
theorem Ou {id : Nat} (h : Q (.exit id) tm H) : IWp P N (.exit id) Q tm H :=
  ⟨fun _ _ _ w g _ s r hN _ hm => wpIn_exit ⟨tm, g, H, .refl w g, s, r, hN, hm, by simp, h⟩⟩
theorem Ov {l : Nat} (h : Q (.goto l) tm H) : IWp P N (.goto l) Q tm H :=
  ⟨fun _ _ _ w g _ s r hN _ hm => wpIn_goto ⟨tm, g, H, .refl w g, s, r, hN, hm, by simp, h⟩⟩
theorem Qh (h : Q .ret tm H) : IWp P N .ret Q tm H :=
  ⟨fun _ _ _ w g _ s r hN _ hm => wpIn_ret ⟨tm, g, H, .refl w g, s, r, hN, hm, by simp, h⟩⟩
def D9 (K : Tm → A0 → Prop) (Q : Exit → Tm → A0 → Prop) : Exit → Tm → A0 → Prop
  | .normal, tm, H => K tm H
  | .exit id, tm, H => Q (.exit id) tm H
  | .goto l, tm, H => Q (.goto l) tm H
  | .ret, tm, H => Q .ret tm H
  | .panic ch, tm, H => Q (.panic ch) tm H
  | .outgrown, tm, H => Q .outgrown tm H
theorem JZ {x y : Code} (h : IWp P N x (D9 (fun tm H => IWp P N y Q tm H) Q) tm H) : IWp P N (.seq x y) Q tm H := by
 refine ⟨fun rr B D w g a s r hN hB hm => wpIn_seq (wpIn_mono (h.run rr B D w g a s r hN hB hm) ?_)⟩
 rintro e a1 w1 ⟨tm1, g1, H1, m1, s1, r1, n1, k1, ne, q⟩
 cases e with
 | normal => exact wpIn_mono (q.run rr B D w1 g1 a1 s1 r1 n1 (Nat.le_trans hB m1.size) k1) fun e a' w' h => Post.tr m1 s s1 h
 | outgrown => exact absurd rfl ne
 | exit id => exact ⟨tm1, g1, H1, m1, s1, r1, n1, k1, ne, q⟩
 | goto id => exact ⟨tm1, g1, H1, m1, s1, r1, n1, k1, ne, q⟩
 | ret => exact ⟨tm1, g1, H1, m1, s1, r1, n1, k1, ne, q⟩
 | panic id => exact ⟨tm1, g1, H1, m1, s1, r1, n1, k1, ne, q⟩
def Da (id : Nat) (Q : Exit → Tm → A0 → Prop) : Exit → Tm → A0 → Prop
  | .normal, tm, H => Q .normal tm H
  | .exit id', tm, H => if id' = id then Q .normal tm H else Q (.exit id') tm H
  | .goto l, tm, H => Q (.goto l) tm H
  | .ret, tm, H => Q .ret tm H
  | .panic ch, tm, H => Q (.panic ch) tm H
  | .outgrown, tm, H => Q .outgrown tm H
theorem Ag {id : Nat} {c : Code} (h : IWp P N c (Da id Q) tm H) : IWp P N (.block id c) Q tm H := by
 refine ⟨fun rr B D w g a s r hN hB hm => wpIn_block (wpIn_mono (h.run rr B D w g a s r hN hB hm) ?_)⟩
 rintro e a1 w1 ⟨tm1, g1, H1, m1, s1, r1, n1, k1, ne, q⟩
 cases e with
 | exit id' =>
  simp only [Exit.inBlock]; by_cases hid : id' = id
  ·simp only [hid, if_true, Da] at q ⊢; exact ⟨tm1, g1, H1, m1, s1, r1, n1, k1, by simp, q⟩
  ·simp only [hid, if_false, Da] at q ⊢; exact ⟨tm1, g1, H1, m1, s1, r1, n1, k1, by simp, q⟩
 | normal => exact ⟨tm1, g1, H1, m1, s1, r1, n1, k1, ne, q⟩
 | outgrown => exact absurd rfl ne
 | goto id => exact ⟨tm1, g1, H1, m1, s1, r1, n1, k1, ne, q⟩
 | ret => exact ⟨tm1, g1, H1, m1, s1, r1, n1, k1, ne, q⟩
 | panic id => exact ⟨tm1, g1, H1, m1, s1, r1, n1, k1, ne, q⟩
def ev (tm : Tm) : Operand → IV
  | .tmp t => tm t
  | .const x => .v x
  | .global g => .v (.pointer (some ⟨g, 0, none⟩))
  | .func f => .v (.func (.func f) #[] #[])
def opd (N : Nat) : Operand → Bool
  | .tmp t => decide (t < N)
  | _ => true
theorem RA.ev {w : World} {g : Gs} {a : Act} {tm : Tm} (h : RA w g a tm) {x : Operand} (hx : opd a.tmps.size x = true) : R w g (a.eval x) (ev tm x) := by
 cases x with
 | tmp t => exact h t (by simpa [opd] using hx)
 | const x => exact .v x
 | global x => exact .v _
 | func f => exact .v _
def upd (tm : Tm) (d : Nat) (x : IV) : Tm := fun i => if i = d then x else tm i
theorem Sl (tm : Tm) {d i : Nat} (x : IV) (h : i ≠ d) : upd tm d x i = tm i := by simp [upd, h]
def Br (tm : Tm) (d : Option Nat) (x : IV) : Tm :=
  match d with
  | some d => upd tm d x
  | none => tm
theorem RA.put {w : World} {g : Gs} {a : Act} {tm : Tm} (h : RA w g a tm) {d : Option Nat} {x : Value} {i : IV} (hx : R w g x i) : RA w g (a.put d x) (Br tm d i) := by
 cases d with
 | none => exact h
 | some d =>
  intro j hj; have hj' : j < a.tmps.size := by simpa [Act.put] using hj
  simp only [Act.put, Br, upd]; by_cases e : j = d
  ·subst e; simp [hj', hx]
  ·simp [e, Ne.symm e]; have := h j hj'; simpa using this
theorem Db (a : Act) (d : Option Nat) (x : Value) : (a.put d x).tmps.size = a.tmps.size := by cases d <;> simp [Act.put]
theorem put_defers (a : Act) (d : Option Nat) (x : Value) : (a.put d x).defers = a.defers := by cases d <;> rfl
theorem FU {c : Operand} {x y : Code} {b : Bool} (hc : ev tm c = .v (.bool b)) (hN : opd N c = true) (ht : b = true → IWp P N x Q tm H) (hf : b = false → IWp P N y Q tm H) : IWp P N (.cond c x y) Q tm H := by
 refine ⟨fun rr B D w g a s r hNa hB hm => ?_⟩; have hR := r.ev (x := c) (by rw [hNa]; exact hN); rw [hc] at hR; have hev : a.eval c = .bool b := by
  generalize a.eval c = x at hR; cases hR; rfl
 cases b with
 | true => exact wpIn_cond hev ((ht rfl).run rr B D w g a s r hNa hB hm)
 | false => exact wpIn_cond hev ((hf rfl).run rr B D w g a s r hNa hB hm)
structure Aj (P : Program) (N : Nat) (o : Oper) (tm : Tm) (H : A0) (K : IV → A0 → Prop) (Qp : List PanicEntry → A0 → Prop) : Prop where
  nd : ∀ c, o.op ≠ .defer c
  run : ∀ (rr : Option Nat) (w : World) (g : Gs) (a : Act), Sim w g H → RA w g a tm → a.tmps.size = N →
    o.uponIn (FR rr) 0 P a
      (fun a' w' => ∃ x i g' H', a' = a.put o.dst x ∧ AB w g w' g' ∧ Sim w' g' H' ∧ R w' g' x i ∧ K i H')
      (fun e a' w' => ∃ ch g' H', e = .panic ch ∧ a' = a ∧ AB w g w' g' ∧ Sim w' g' H' ∧ Qp ch H') ((execOp a.eval o).run P w)
theorem Cq {F : Fence} {n : Nat} {o : Oper} {a : Act} {K K' : Act → World → Prop} {Q Q' : Exit → Act → World → Prop} (hk : ∀ a w, K a w → K' a w) (hq : ∀ e a w, Q e a w → Q' e a w)
    (hF : ∃ rr, F = FR rr) {res : Result Next} (h : o.uponIn F n P a K Q res) : o.uponIn F n P a K' Q' res := by
 obtain ⟨rr, rfl⟩ := hF; have hL : LetsOut Q → LetsOut Q' := fun ⟨a, w, h⟩ => ⟨a, w, hq _ _ _ h⟩; cases res with
 | ok x w' =>
  cases x <;> unfold Oper.uponIn at h ⊢ <;>
   first
    | exact hk _ _ h
    | exact ⟨h.1, (N2 (Oq h.2 |>.mono (fun e w'' he => by cases e <;> first | exact hk _ _ he | exact hq _ _ _ he | exact hL he)))⟩
    | exact ⟨h.1, RowsIn.mono h.2 (fun _ _ he => hk _ _ he)⟩
    | exact ⟨h.1, RoundIn.mono h.2 (fun e w'' he => by cases e <;> first | exact hk _ _ he | exact hq _ _ _ he | exact hL he)⟩
    | exact h
 | halt x w' => cases x <;> unfold Oper.uponIn at h ⊢ <;> first | exact hq _ _ _ h | exact h
theorem Aj.mono {o : Oper} {K K' : IV → A0 → Prop} {Qp Qp' : List PanicEntry → A0 → Prop} (h : Aj P N o tm H K Qp) (hk : ∀ i H', K i H' → K' i H') (hq : ∀ c H', Qp c H' → Qp' c H') : Aj P N o tm H K' Qp' :=
  ⟨h.nd, fun rr w g a s r hN => Cq (fun a' w' ⟨x, i, g', H', h1, h2, h3, h4, h5⟩ => ⟨x, i, g', H', h1, h2, h3, h4, hk _ _ h5⟩)
    (fun e a' w' ⟨ch, g', H', h1, h2, h3, h4, h5⟩ => ⟨ch, g', H', h1, h2, h3, h4, hq _ _ h5⟩) ⟨rr, rfl⟩ (h.run rr w g a s r hN)⟩
structure FV (P : Program) (N : Nat) (ops : Array Oper) (l : List Nat) (Q : Exit → Tm → A0 → Prop) (tm : Tm) (H : A0) : Prop where
  run : ∀ (rr : Option Nat) (B : Nat) (D : List Deferred) (w : World) (g : Gs) (a : Act), Sim w g H → RA w g a tm → a.tmps.size = N → B ≤ w.heap.size → Marks rr B D w g a.defers →
    wpOpsIn (FR rr) 0 P ops (Post rr B D N Q w g) l a w
theorem DU {rr : Option Nat} {P : Program} {w : World} {ρ : Operand → Value} {o : Oper} : ∀ f, o.about P w ρ = some f → (FR rr).fn f := fun _ _ => trivial
theorem FW {rr : Option Nat} {n : Nat} {ops : Array Oper} {Q Q' : Exit → Act → World → Prop} : ∀ (l : List Nat) (a : Act) (w : World), (∀ e a w, Q e a w → Q' e a w) → wpOpsIn (FR rr) n P ops Q l a w → wpOpsIn (FR rr) n P ops Q' l a w := by
 intro l
 induction l with
 | nil => exact fun a w hq h => hq _ _ _ h
 | cons i l ih =>
  intro a w hq h; simp only [wpOpsIn] at h ⊢; cases ho : ops[i]? with
  | none => simp only [ho] at h ⊢; exact ih _ _ hq h
  | some o =>
   simp only [ho] at h ⊢; split
   ·rename_i hw; simp only [hw, if_true] at h; exact ⟨h.1, Cq (fun a w h => ih a w hq h) hq ⟨rr, rfl⟩ h.2⟩
   ·rename_i hw; simp only [hw] at h; exact ⟨h.1, ih _ _ hq h.2⟩
theorem FX {ops : Array Oper} (h : Q .normal tm H) : FV P N ops [] Q tm H :=
  ⟨fun _ _ _ w g _ s r hN _ hm => ⟨tm, g, H, .refl w g, s, r, hN, hm, by simp, h⟩⟩
theorem Dc {ops : Array Oper} {i : Nat} {l : List Nat} {o : Oper} (ho : ops[i]? = some o)
    (hg : ∀ (w : World) (g : Gs) (a : Act), RA w g a tm → a.tmps.size = N → Region.wanted o (yielded ops a.tmps) = true)
    (h : Aj P N o tm H (fun x H' => FV P N ops l Q (Br tm o.dst x) H') (fun ch H' => Q (.panic ch) tm H')) : FV P N ops (i :: l) Q tm H := by
 refine ⟨fun rr B D w g a s r hN hB hm => ?_⟩; simp only [wpOpsIn, ho, hg w g a r hN, if_true]; refine ⟨DU, ?_⟩; have hsem : o.semAt (FR rr).round a.eval = execOp a.eval o := Oper.semAt_eq _ _ _ h.nd; rw [hsem]; have hrun := h.run rr w g a s r hN; refine Cq ?_ ?_ ⟨rr, rfl⟩ hrun
 ·rintro a' w' ⟨x, i, g', H', rfl, m, s', hr, hk⟩
  have := hk.run rr B D w' g' (a.put o.dst x) s' ((r.mono m).put hr) (by rw [Db]; exact hN) (Nat.le_trans hB m.size) (by rw [put_defers]; exact hm.mono m); exact FW l _ _ (fun e a w h => Post.tr m s s' h) this
 ·rintro e a' w' ⟨ch, g', H', rfl, rfl, m, s', hq⟩
  exact ⟨tm, g', H', m, s', r.mono m, hN, hm.mono m, by simp, hq⟩
theorem Nv {ops : Array Oper} {i : Nat} {l : List Nat} {o : Oper} (ho : ops[i]? = some o)
    (hg : ∀ (w : World) (g : Gs) (a : Act), RA w g a tm → a.tmps.size = N → Region.wanted o (yielded ops a.tmps) = false)
    (h : FV P N ops l Q (Br tm o.dst (.v undef)) H) : FV P N ops (i :: l) Q tm H := by
 refine ⟨fun rr B D w g a s r hN hB hm => ?_⟩; simp only [wpOpsIn, ho, hg w g a r hN, Bool.false_eq_true, if_false]; refine ⟨DU, ?_⟩; exact h.run rr B D w g (a.put o.dst undef) s (r.put (.v _)) (by rw [Db]; exact hN) hB (by rw [put_defers]; exact hm)
theorem E3 {id : Nat} {ops : Array Oper} (h : FV P N ops (List.range ops.size) Q tm H) : IWp P N (.region id ops false) Q tm H :=
  ⟨fun rr B D w g a s r hN hB hm => wpIn_region (h.run rr B D w g a s r hN hB hm)⟩
end Go.Idl
namespace Go.Idl
open Go Go.RowKit
variable {P : Program}
def AI (p : Prop) : Prop := p
theorem Nw {p : Prop} (h : p) : AI p = True := eq_true h
def bytes (s : ByteArray) : List UInt8 := s.data.toList
abbrev str (l : List UInt8) : Value := .string ⟨l.toArray⟩
theorem Ck (l : List UInt8) : bytes ⟨l.toArray⟩ = l := by simp [bytes]
theorem BJ (s : ByteArray) : s.size = (bytes s).length := by simp [bytes]
theorem FY (s : ByteArray) : (⟨(bytes s).toArray⟩ : ByteArray) = s := by simp [bytes]
theorem bytes_inj {a b : ByteArray} (h : bytes a = bytes b) : a = b := by
 rw [← FY a, ← FY b, h]
theorem J_ (s : ByteArray) : s.toList = bytes s := ByteArray.toList_eq s
def XI (k : IntKind) (a b : Int) : Int := k.wrap ((BitVec.ofInt k.bits a &&& BitVec.ofInt k.bits b).toNat : Int)
def orI (k : IntKind) (a b : Int) : Int := k.wrap ((BitVec.ofInt k.bits a ||| BitVec.ofInt k.bits b).toNat : Int)
def XJ (k : IntKind) (a b : Int) : Int := k.wrap ((BitVec.ofInt k.bits a ^^^ BitVec.ofInt k.bits b).toNat : Int)
def Qi (op : BinOp) (k : IntKind) (a b : Int) : Option (Prop × Value) :=
  match op with
  | .add => some (True, .int k (k.wrap (a + b)))
  | .sub => some (True, .int k (k.wrap (a - b)))
  | .mul => some (True, .int k (k.wrap (a * b)))
  | .quo => some (AI (b ≠ 0), .int k (k.wrap (a.tdiv b)))
  | .rem => some (AI (b ≠ 0), .int k (a.tmod b))
  | .eql => some (True, .bool (decide (a = b)))
  | .neq => some (True, .bool (decide (¬ a = b)))
  | .lss => some (True, .bool (decide (a < b)))
  | .leq => some (True, .bool (decide (a ≤ b)))
  | .gtr => some (True, .bool (decide (b < a)))
  | .geq => some (True, .bool (decide (b ≤ a)))
  | .and => some (True, .int k (XI k a b))
  | .or => some (True, .int k (orI k a b))
  | .xor => some (True, .int k (XJ k a b))
  | _ => none
def shI (op : BinOp) (k : IntKind) (a b : Int) : Option (Prop × Value) :=
  match op with
  | .shl => some (AI (0 ≤ b) ∧ AI (b < k.bits), .int k (k.wrap (a * 2 ^ b.toNat)))
  | .shr => some (AI (0 ≤ b) ∧ AI (b < k.bits), .int k (a.fdiv (2 ^ b.toNat)))
  | _ => none
def Qj (op : BinOp) (a b : List UInt8) : Option (Prop × Value) :=
  match op with
  | .add => some (AI ((a.length : Int) + b.length ≤ 9223372036854775807), str (a ++ b))
  | .eql => some (True, .bool (decide (a = b)))
  | .neq => some (True, .bool (decide (¬ a = b)))
  | .lss => some (True, .bool (Op.bytesLess a b))
  | .leq => some (True, .bool (Op.bytesLess a b || decide (a = b)))
  | .gtr => some (True, .bool (!(Op.bytesLess a b || decide (a = b))))
  | .geq => some (True, .bool (!Op.bytesLess a b))
  | _ => none
theorem LY {op : BinOp} {k : IntKind} {a b : Int} {s : Prop} {v : Value} (h : Qi op k a b = some (s, v)) (hs : s) (t : TypeId) (w : World) :
    (binOp op t (.int k a) (.int k b)).run P w = .ok v w := by
 cases op <;> simp only [Qi, Option.some.injEq, Prod.mk.injEq, reduceCtorEq] at h <;> obtain ⟨rfl, rfl⟩ := h
 ·simp [binOp, Op.intArith]
 ·simp [binOp, Op.intArith]
 ·simp [binOp, Op.intArith]
 ·have hs' : ¬ b = 0 := hs; simp [binOp, Op.intDiv, hs']
 ·have hs' : ¬ b = 0 := hs; simp [binOp, Op.intDiv, hs']
 ·simp [binOp]; rfl
 ·simp [binOp]; rfl
 ·simp [binOp]; rfl
 ·simp [binOp, Op.intCmp, BEq.beq]
 ·simp [binOp, Op.intCmp, bne, BEq.beq]
 ·simp [binOp, Op.intCmp]
 ·simp [binOp, Op.intCmp]
 ·simp [binOp, Op.intCmp]
 ·simp [binOp, Op.intCmp]
theorem Nx {op : BinOp} {k k' : IntKind} {a b : Int} {s : Prop} {v : Value} (h : shI op k a b = some (s, v)) (hs : s) (t : TypeId) (w : World) :
    (binOp op t (.int k a) (.int k' b)).run P w = .ok v w := by
 cases op <;> simp only [shI, Option.some.injEq, Prod.mk.injEq, reduceCtorEq] at h <;> obtain ⟨rfl, rfl⟩ := h
 ·have h1 : ¬ b < 0 := Int.not_lt.2 hs.1; have h2 : min b.toNat k.bits = b.toNat := Nat.min_eq_left (by have : b < (k.bits : Int) := hs.2; omega); simp [binOp, Op.shift, h1, h2]
 ·have h1 : ¬ b < 0 := Int.not_lt.2 hs.1; have h2 : min b.toNat k.bits = b.toNat := Nat.min_eq_left (by have : b < (k.bits : Int) := hs.2; omega); simp [binOp, Op.shift, h1, h2]
theorem LZ {op : BinOp} {a b : ByteArray} {s : Prop} {v : Value} (h : Qj op (bytes a) (bytes b) = some (s, v)) (hs : s) (t : TypeId) (w : World) :
    (binOp op t (.string a) (.string b)).run P w = .ok v w := by
 have e : ∀ x y : List UInt8, (x == y) = decide (x = y) := fun x y => by rw [Bool.eq_iff_iff]; simp only [beq_iff_eq, decide_eq_true_eq]
 cases op <;> simp only [Qj, Option.some.injEq, Prod.mk.injEq, reduceCtorEq] at h <;> obtain ⟨rfl, rfl⟩ := h
 ·have hs' : ((a.size + b.size : Nat) : Int) ≤ 9223372036854775807 := by
   have hs2 : ((bytes a).length : Int) + (bytes b).length ≤ 9223372036854775807 := hs; have h1 := BJ a; have h2 := BJ b; omega
  have h2 : ¬ (((a.size + b.size : Nat) : Int) > IntKind.i64.max) := by
   have : IntKind.i64.max = 9223372036854775807 := by decide
   omega
  have h3 : (⟨(bytes a ++ bytes b).toArray⟩ : ByteArray) = a ++ b := by
   apply bytes_inj; rw [Ck]; simp [bytes]
  simp only [binOp, Op.stringOp]; rw [if_neg h2, str, h3]; rfl
 all_goals simp only [binOp, Op.stringOp, J_, e, Sem.run_pure, decide_not]
def Ow (P : Program) (op : BinOp) (t : TypeId) (x y : Value) : Option (Prop × Value) :=
  match x, y with
  | .int k a, .int k' b => match shI op k a b with | some r => some r | none => if k = k' then Qi op k a b else none
  | .string a, .string b => Qj op (bytes a) (bytes b)
  | .bool a, .bool b =>
    match P.underlying t with
    | some .bool => match op with | .eql => some (True, .bool (decide (a = b))) | .neq => some (True, .bool (decide (¬ a = b))) | _ => none
    | _ => none
  | .pointer none, .pointer none =>
    match P.underlying t with
    | some (.pointer _) => match op with | .eql => some (True, .bool true) | .neq => some (True, .bool false) | _ => none
    | _ => none
  | .map none, .map none =>
    match P.underlying t with
    | some (.map _ _) => match op with | .eql => some (True, .bool true) | .neq => some (True, .bool false) | _ => none
    | _ => none
  | _, _ => none
theorem Bs {t : TypeId} {x y : Value} {w : World} {b : Bool} (h : ∀ d, (Op.equalIn (d + 1) t x y).run P w = .ok b w) : (Op.equal t x y).run P w = .ok b w := h 9999
theorem L_ {op : BinOp} {t : TypeId} {x y : Value} {s : Prop} {v : Value} (h : Ow P op t x y = some (s, v)) (hs : s) (ox oy : Operand) (w : World) :
    (do eqGuard op t ox oy x y; binOp op t x y : Sem Value).run P w = .ok v w := by
 unfold Ow at h; split at h
 ·rename_i k a k' b; have hg : (eqGuard op t ox oy (.int k a) (.int k' b)).run P w = .ok () w := by
   unfold eqGuard; split <;> rfl
  rw [Sem.run_bind, hg]; split at h
  ·rename_i r hr; cases h; exact Nx hr hs t w
  ·split at h
   ·rename_i hk; subst hk; exact LY h hs t w
   ·cases h
 ·rename_i a b; have hg : (eqGuard op t ox oy (.string a) (.string b)).run P w = .ok () w := by
   unfold eqGuard; split <;> rfl
  rw [Sem.run_bind, hg]; exact LZ h hs t w
 ·rename_i a b; have hg : (eqGuard op t ox oy (.bool a) (.bool b)).run P w = .ok () w := by
   unfold eqGuard; split <;> rfl
  rw [Sem.run_bind, hg]; split at h
  ·rename_i hu; have hr : (Op.equal t (.bool a) (.bool b)).run P w = .ok (a == b) w := Bs fun d => by
    simp [Op.equalIn, run_underlying hu]
   cases op <;> simp only [Option.some.injEq, Prod.mk.injEq, reduceCtorEq] at h <;> obtain ⟨rfl, rfl⟩ := h <;> simp [binOp, hr, BEq.beq]
  ·cases h
 ·have hg : (eqGuard op t ox oy (.pointer none) (.pointer none)).run P w = .ok () w := by
   unfold eqGuard; split <;> rfl
  rw [Sem.run_bind, hg]; split at h
  ·rename_i e hu; have hr : (Op.equal t (.pointer none) (.pointer none)).run P w = .ok true w := Bs fun d => by
    simp [Op.equalIn, run_underlying hu]
   cases op <;> simp only [Option.some.injEq, Prod.mk.injEq, reduceCtorEq] at h <;> obtain ⟨rfl, rfl⟩ := h <;> simp [binOp, hr]
  ·cases h
 ·have hg : (eqGuard op t ox oy (.map none) (.map none)).run P w = .ok () w := by
   unfold eqGuard; split <;> rfl
  rw [Sem.run_bind, hg]; split at h
  ·rename_i e1 e2 hu; have hr : (Op.equal t (.map none) (.map none)).run P w = .ok true w := Bs fun d => by
    simp [Op.equalIn, run_underlying hu]
   cases op <;> simp only [Option.some.injEq, Prod.mk.injEq, reduceCtorEq] at h <;> obtain ⟨rfl, rfl⟩ := h <;> simp [binOp, hr]
  ·cases h
 ·cases h
end Go.Idl
namespace Go.Idl
open Go Go.RowKit
variable {P : Program}
theorem Av {t : TypeId} (h : 0 < P.cellsOf t) (w : World) : (sizeOf t).run P w = .ok (P.cellsOf t) w := by
 unfold Program.cellsOf at h ⊢; cases hi : P.info? t with
 | none => simp [hi] at h
 | some i => simp [sizeOf, typeInfo, hi]
theorem addr_add (b o n : Nat) : (⟨b, o, none⟩ : Addr).add n = ⟨b, o + n, none⟩ := by unfold Addr.add; split <;> simp_all
def Er (d : Option TypeDesc) (x : IV) : Option (Prop × IV) :=
  match d, x with
  | some .string, .v (.string s) => some (True, .v (.int .i64 (bytes s).length))
  | some (.slice _), .sl _ es => some (True, .v (.int .i64 es.length))
  | some (.slice _), .os _ n => some (True, .v (.int .i64 n))
  | some (.slice _), .bs _ _ n => some (True, .v (.int .i64 n))
  | some (.slice _), .v (.slice _ n _) => some (True, .v (.int .i64 n))
  | some (.array n _), _ => some (True, .v (.int .i64 n))
  | some (.map _ _), .v (.map none) => some (True, .v (.int .i64 (0 : Nat)))
  | _, _ => none
theorem M0 {t : TypeId} {x : Value} {i r : IV} {s : Prop} {w : World} {g : Gs} (hx : R w g x i) (h : Er (P.underlying t) i = some (s, r)) (args : Array Value) (ats : Array TypeId) (ty : TypeId)
    (ha : args[0]? = some x) (hat : ats[0]? = some t) : ∃ v, (Builtin.len_ ats ty args).run P w = .ok v w ∧ R w g v r := by
 cases hu : P.underlying t with
 | none => simp [hu, Er] at h
 | some d =>
  rw [hu] at h
  have key : ∀ v, (match d, x with
    | .string, .string s => pure (goInt s.size)
    | .array n _, _ => pure (goInt n)
    | .slice _, .slice _ n _ => pure (goInt n)
    | .map _ _, .map none => pure (goInt 0)
    | _, _ => stuck "" : Sem Value).run P w = .ok v w → (Builtin.len_ ats ty args).run P w = .ok v w := by
   intro v hv; unfold Builtin.len_; simp only [ha, hat, Sem.run_bind, run_underlying hu, Result.andThen_ok]; cases d <;> cases x <;> first | exact hv | (simp at hv; done) | skip
   rename_i r; cases r <;> first | exact hv | (simp at hv; done)
  cases d with
  | string =>
   cases i <;> simp only [Er, reduceCtorEq] at h; rename_i x'; cases x' <;> simp only [Option.some.injEq, Prod.mk.injEq, reduceCtorEq] at h; obtain ⟨rfl, rfl⟩ := h; cases hx; exact ⟨goInt _, key _ rfl, by rw [← BJ]; exact .v _⟩
  | slice e =>
   cases i <;> simp only [Er, reduceCtorEq] at h
   case v x' =>
    cases x' <;> simp only [Option.some.injEq, Prod.mk.injEq, reduceCtorEq] at h; obtain ⟨rfl, rfl⟩ := h; cases hx; exact ⟨_, key _ rfl, .v _⟩
   case sl sz es =>
    simp only [Option.some.injEq, Prod.mk.injEq] at h; obtain ⟨rfl, rfl⟩ := h; cases hx with
    | sl0 a cap => exact ⟨_, key _ rfl, .v _⟩
    | sl b off cap _ _ cv => exact ⟨_, key _ rfl, .v _⟩
   case os k n =>
    simp only [Option.some.injEq, Prod.mk.injEq] at h; obtain ⟨rfl, rfl⟩ := h; cases hx with
    | os _ _ _ _ _ hx' => obtain ⟨a, cap, rfl⟩ := hx'; exact ⟨_, key _ rfl, .v _⟩
   case bs k off n =>
    simp only [Option.some.injEq, Prod.mk.injEq] at h; obtain ⟨rfl, rfl⟩ := h; cases hx with
    | bs _ _ _ _ _ hx' => obtain ⟨a, cap, rfl, _⟩ := hx'; exact ⟨_, key _ rfl, .v _⟩
  | array n e =>
   simp only [Er, Option.some.injEq, Prod.mk.injEq] at h; obtain ⟨rfl, rfl⟩ := h; exact ⟨_, key _ rfl, .v _⟩
  | map k e =>
   cases i <;> simp only [Er, reduceCtorEq] at h; rename_i x'; cases x' <;> try (simp [Er] at h; done)
   rename_i r'; cases r' with
   | some q => simp [Er] at h
   | none =>
    simp only [Er, Option.some.injEq, Prod.mk.injEq] at h; obtain ⟨rfl, rfl⟩ := h; cases hx; exact ⟨_, key _ rfl, .v _⟩
  | _ => simp [Er] at h
theorem C6 {α : Type} {l : List α} {i : Nat} (d : α) (h : i < l.length) : l[i]? = some (l.getD i d) := by
 simp [List.getD, List.getElem?_eq_getElem h]
theorem HW {α : Type} (l : List α) (n j : Nat) : (l.drop n)[j]? = l[n + j]? := by simp
theorem R.N3 {w : World} {g : Gs} {b off : Nat} {cs : List IV} (h : R w g (.pointer (some ⟨b, off, none⟩)) (.cp cs)) (n : Nat) : R w g (.pointer (some ⟨b, off + n, none⟩)) (.cp (cs.drop n)) := by
 cases h with
 | cp _ _ _ cv hb hlt hc ho hr =>
  refine .cp b (off + n) _ (fun j => cv (n + j)) hb hlt (fun j c hj => ?_) (fun j c hj => ho _ _ (by rw [← HW]; exact hj)) (fun j c hj => hr _ _ (by rw [← HW]; exact hj)); rw [Nat.add_assoc]; exact hc _ _ (by rw [← HW]; exact hj)
theorem R.HN {w : World} {g : Gs} {x : Value} {cs : List IV} (h : R w g x (.cp cs)) : ∃ b off, x = .pointer (some ⟨b, off, none⟩) := by
 cases h with
 | cp b off => exact ⟨b, off, rfl⟩
theorem R.Qk {w : World} {g : Gs} {b off len cap sz : Nat} {es : List (List IV)} (h : R w g (.slice (some ⟨b, off, none⟩) len cap) (.sl sz es)) (i : Nat) (hi : i < es.length) :
    R w g (.pointer (some ⟨b, off + i * sz, none⟩)) (.cp (es.getD i [])) := by
 cases h with
 | sl0 => simp at hi
 | sl _ _ _ _ _ cv hb hlt hlen hcap hsz hc ho hr =>
  have he := C6 (l := es) [] hi; exact .cp b _ _ (cv i) hb hlt (fun j c hj => hc i _ j c he hj) (fun j c hj => ho i _ j c he hj) (fun j c hj => hr i _ j c he hj)
theorem R.K1 {w : World} {g : Gs} {x : Value} {sz : Nat} {es : List (List IV)} (h : R w g x (.sl sz es)) : ∃ a cap, x = .slice a es.length cap ∧ (0 < es.length → ∃ b off, a = some ⟨b, off, none⟩) := by
 cases h with
 | sl0 a cap => exact ⟨a, cap, rfl, fun h => by simp at h⟩
 | sl b off cap _ _ cv => exact ⟨_, cap, rfl, fun _ => ⟨b, off, rfl⟩⟩
def ixP (P : Program) (d : Option TypeDesc) (x i : IV) : Option (Prop × IV) :=
  match d, i with
  | some (.slice e), .v (.int _ n) =>
    match x with
    | .sl sz es => if P.cellsOf e = sz then some (AI (0 < sz) ∧ AI (0 ≤ n) ∧ AI (n < es.length), .cp (es.getD n.toNat [])) else none
    | .bs k off m => some (AI (0 < P.cellsOf e) ∧ AI (0 ≤ n) ∧ AI (n < m), .p k (off + n.toNat * P.cellsOf e))
    | _ => none
  | some (.array m e), .v (.int _ n) =>
    match x with
    | .p k off => some (AI (0 < P.cellsOf e) ∧ AI (0 ≤ n) ∧ AI (n < m), .p k (off + n.toNat * P.cellsOf e))
    | .pr k z off => some (AI (0 < P.cellsOf e) ∧ AI (0 ≤ n) ∧ AI (n < m), .pr k z (off + n.toNat * P.cellsOf e))
    | .cp cs => some (AI (0 < P.cellsOf e) ∧ AI (0 ≤ n) ∧ AI (n < m), .cp (cs.drop (n.toNat * P.cellsOf e)))
    | _ => none
  | _, _ => none
theorem run_indexAt_slice {t e : TypeId} (hu : P.underlying t = some (.slice e)) (hc : 0 < P.cellsOf e) (a : Addr) (len cap : Nat) (k : IntKind) (n : Int) (h0 : 0 ≤ n) (h1 : n < len) (w : World) :
    (Instr.indexAt t (.slice (some a) len cap) (.int k n)).run P w = .ok (.pointer (some (a.add (n.toNat * P.cellsOf e)))) w := by
 simp [Instr.indexAt, asIntOf, run_underlying hu, h0, h1, Av hc]
theorem run_indexAt_array {t e : TypeId} {len : Nat} (hu : P.underlying t = some (.array len e)) (hc : 0 < P.cellsOf e) (a : Addr) (k : IntKind) (n : Int) (h0 : 0 ≤ n) (h1 : n < len) (w : World) :
    (Instr.indexAt t (.pointer (some a)) (.int k n)).run P w = .ok (.pointer (some (a.add (n.toNat * P.cellsOf e)))) w := by
 simp [Instr.indexAt, asIntOf, run_underlying hu, h0, h1, Av hc, Instr.sureAddr]
theorem R.Ox {w : World} {g : Gs} {a : Addr} {k off : Nat} (h : R w g (.pointer (some a)) (.p k off)) (n : Nat) : R w g (.pointer (some (a.add n))) (.p k (off + n)) := by
 cases h with
 | p _ _ _ hk hx h =>
  refine .p k _ _ hk ⟨_, rfl⟩ fun s hs e => ?_; obtain ⟨b, h1, h2⟩ := h s hs e; simp only [Value.pointer.injEq, Option.some.injEq] at h2; subst h2; exact ⟨b, h1, by rw [addr_add]⟩
theorem R.Oy {w : World} {g : Gs} {a : Addr} {k z off : Nat} (h : R w g (.pointer (some a)) (.pr k z off)) (n : Nat) : R w g (.pointer (some (a.add n))) (.pr k z (off + n)) := by
 cases h with
 | pr _ _ _ _ hk hx h =>
  refine .pr k z _ _ hk ⟨_, rfl⟩ fun m hm => ?_; obtain ⟨h0, h⟩ := h m hm; refine ⟨h0, fun e => ?_⟩; obtain ⟨b, cap, h1, h2⟩ := h e; simp only [Value.pointer.injEq, Option.some.injEq] at h2; subst h2; exact ⟨b, cap, h1, by rw [addr_add]⟩
theorem R.Gz {w : World} {g : Gs} {x : Value} {k off : Nat} (h : R w g x (.p k off)) : ∃ a, x = .pointer (some a) := by
 cases h with
 | p _ _ _ hk hx h => exact hx
theorem R.K2 {w : World} {g : Gs} {x : Value} {k z off : Nat} (h : R w g x (.pr k z off)) : ∃ a, x = .pointer (some a) := by
 cases h with
 | pr _ _ _ _ hk hx h => exact hx
theorem R.v_eq {w : World} {g : Gs} {x y : Value} (h : R w g x (.v y)) : x = y := by
 cases h; rfl
theorem R.Ql {w : World} {g : Gs} {H : A0} {x : Value} {k m : Nat} (s : Sim w g H) (hx : R w g x (.os k m)) (hl : ∃ sz es, H.obj k = some (.row sz es) ∧ es.length = m) (n : Nat) (hn : n < m) (c : Nat) :
    ∃ a cap, x = .slice (some a) m cap ∧ R w g (.pointer (some (a.add (n * c)))) (.pr k m (n * c)) := by
 cases hx with
 | os _ _ _ hk h hx =>
  obtain ⟨sz, es, ho, rfl⟩ := hl; have hsh : g.sh k = some (.row es.length) := by rw [s.sh, A0.sh, ho]; rfl
  obtain ⟨_, hq⟩ := h _ hsh; have hmu := hq rfl; obtain ⟨a, cap, h1, _, _, _, _, h2⟩ := s.obj k _ ho; rcases h2 with ⟨rfl, rfl⟩ | ⟨b, xs, el, f, rfl, _⟩
  ·have hz : es.length ≤ 0 := by assumption
   omega
  ·refine ⟨⟨b, 0, none⟩, cap, hmu.trans h1, .pr k _ _ _ hk ⟨_, rfl⟩ fun m' hm' => ?_⟩; rw [hsh] at hm'; cases hm'; exact ⟨Nat.le_refl _, fun _ => ⟨b, cap, h1, by rw [addr_add, Nat.zero_add]⟩⟩
theorem Ny {t : TypeId} {x y : Value} {i j r : IV} {s : Prop} {w : World} {g : Gs} (hx : R w g x i) (hy : R w g y j) (h : ixP P (P.underlying t) i j = some (s, r)) (hs : s) :
    ∃ v, (Instr.indexAt t x y).run P w = .ok v w ∧ R w g v r := by
 cases hu : P.underlying t with
 | none => simp [hu, ixP] at h
 | some d =>
  rw [hu] at h; cases j <;> try (cases d <;> simp [ixP] at h; done)
  rename_i y'; cases y' <;> try (cases d <;> simp [ixP] at h; done)
  rename_i kk n; obtain rfl := hy.v_eq; cases d <;> try (simp [ixP] at h; done)
  case slice e =>
   cases i <;> simp only [ixP, reduceCtorEq] at h
   case sl sz es =>
    split at h
    ·rename_i hz; simp only [Option.some.injEq, Prod.mk.injEq] at h; obtain ⟨rfl, rfl⟩ := h; obtain ⟨h1, h2, h3⟩ := hs; have h1' : 0 < sz := h1; have h2' : 0 ≤ n := h2; have h3' : n < es.length := h3; obtain ⟨a, cap, rfl, ha⟩ := hx.K1; obtain ⟨b, off, rfl⟩ := ha (by omega); refine ⟨_, run_indexAt_slice hu (by omega) _ _ _ _ _ h2' h3' w, ?_⟩; rw [addr_add, hz]; exact hx.Qk _ (by omega)
    ·cases h
   case bs k off m =>
    simp only [Option.some.injEq, Prod.mk.injEq] at h; obtain ⟨rfl, rfl⟩ := h; obtain ⟨h1, h2, h3⟩ := hs; cases hx with
    | bs _ _ _ _ hk hx' hq =>
     obtain ⟨a, cap, rfl, _⟩ := hx'; refine ⟨_, run_indexAt_slice hu h1 _ _ _ _ _ h2 h3 w, .p k _ _ hk ⟨_, rfl⟩ fun s hs e => ?_⟩; obtain ⟨b, cap', q1, q2⟩ := hq s hs e; simp only [Value.slice.injEq, Option.some.injEq] at q2; obtain ⟨rfl, _, _⟩ := q2; exact ⟨b, q1, by rw [addr_add]⟩
  case array m e =>
   cases i <;> simp only [ixP, reduceCtorEq, Option.some.injEq, Prod.mk.injEq] at h <;> obtain ⟨rfl, rfl⟩ := h <;> obtain ⟨h1, h2, h3⟩ := hs
   case cp cs =>
    obtain ⟨b, off, rfl⟩ := hx.HN; refine ⟨_, run_indexAt_array hu h1 _ _ _ h2 h3 w, ?_⟩; rw [addr_add]; exact hx.N3 _
   case p k off =>
    obtain ⟨a, rfl⟩ := hx.Gz; exact ⟨_, run_indexAt_array hu h1 _ _ _ h2 h3 w, hx.Ox _⟩
   case pr k z off =>
    obtain ⟨a, rfl⟩ := hx.K2; exact ⟨_, run_indexAt_array hu h1 _ _ _ h2 h3 w, hx.Oy _⟩
def fdP (P : Program) (d : Option TypeDesc) (x : IV) (f : Nat) : Option (Prop × IV) :=
  match d with
  | some (.struct fs) =>
    match fs[f]? with
    | some fd =>
      match x with
      | .p k off => some (AI (0 < P.cellsOf fd.type), .p k (off + fd.offset))
      | .pr k z off => some (AI (0 < P.cellsOf fd.type), .pr k z (off + fd.offset))
      | .cp cs => some (AI (0 < P.cellsOf fd.type), .cp (cs.drop fd.offset))
      | _ => none
    | none => none
  | _ => none
theorem Es {t : TypeId} {fs : Array Field} (hu : P.underlying t = some (.struct fs)) {f : Nat} {fd : Field} (hf : fs[f]? = some fd) (hc : 0 < P.cellsOf fd.type) (a : Addr) (w : World) :
    (Instr.fieldAt t (.pointer (some a)) f).run P w = .ok (.pointer (some (a.add fd.offset))) w := by
 have hn : ¬ P.cellsOf fd.type = 0 := by omega
 simp [Instr.fieldAt, run_underlying hu, hf, Instr.sureAddr, fieldPlace, Av hc, hn]
theorem Nz {t : TypeId} {x : Value} {i r : IV} {f : Nat} {s : Prop} {w : World} {g : Gs} (hx : R w g x i) (h : fdP P (P.underlying t) i f = some (s, r)) (hs : s) :
    ∃ v, (Instr.fieldAt t x f).run P w = .ok v w ∧ R w g v r := by
 unfold fdP at h; split at h
 ·rename_i fs hu; split at h
  ·rename_i fd hf; cases i <;> simp only [reduceCtorEq, Option.some.injEq, Prod.mk.injEq] at h <;> obtain ⟨rfl, rfl⟩ := h
   case cp cs =>
    obtain ⟨b, off, rfl⟩ := hx.HN; refine ⟨_, Es hu hf hs _ w, ?_⟩; rw [addr_add]; exact hx.N3 _
   case p k off =>
    obtain ⟨a, rfl⟩ := hx.Gz; exact ⟨_, Es hu hf hs _ w, hx.Ox _⟩
   case pr k z off =>
    obtain ⟨a, rfl⟩ := hx.K2; exact ⟨_, Es hu hf hs _ w, hx.Oy _⟩
  ·cases h
 ·cases h
def K3 : TypeDesc → Bool
  | .struct _ => true
  | .array _ _ => true
  | _ => false
theorem D8 {t : TypeId} {d : TypeDesc} (hu : P.underlying t = some d) (w : World) : (isAgg t).run P w = .ok (K3 d) w := by
 cases d <;> simp [isAgg, run_underlying hu, K3]
def ldP (P : Program) (t : TypeId) (x : IV) : Option (Prop × IV) :=
  match x with
  | .cp cs =>
    match P.underlying t with
    | some d => if K3 d = true then some (AI (0 < P.cellsOf t) ∧ AI (P.cellsOf t ≤ cs.length), .ag (cs.take (P.cellsOf t))) else some (AI (0 < cs.length), cs.getD 0 .any)
    | none => none
  | _ => none
theorem NA {t : TypeId} {x : Value} {i r : IV} {s : Prop} {w : World} {g : Gs} (hx : R w g x i) (h : ldP P t i = some (s, r)) (hs : s) :
    ∃ v, (Instr.loadAt t x).run P w = .ok v w ∧ R w g v r := by
 cases i <;> simp only [ldP, reduceCtorEq] at h; rename_i cs; cases hu : P.underlying t with
 | none => simp [hu] at h
 | some d =>
  simp only [hu] at h; cases hx with
  | cp b off _ cv hb hlt hc ho hr =>
   split at h
   ·rename_i hd; simp only [Option.some.injEq, Prod.mk.injEq] at h; obtain ⟨rfl, rfl⟩ := h; obtain ⟨h1, h2⟩ := hs; have h2' : P.cellsOf t ≤ cs.length := h2
    have hrun := run_loadCells (P := P) w ⟨b, off, none⟩ (P.cellsOf t) cv (fun j hj => by
      rw [addr_add]
      exact hc j (cs.getD j .any) (C6 _ (by omega)))
    refine ⟨_, by simp [Instr.loadAt, Instr.sureAddr, loadVar, D8 hu, hd, Av h1, hrun]; rfl, .ag _ _ ?_ ?_ ?_⟩
    ·simp; omega
    ·intro j y hy; have hjl : j < P.cellsOf t := by
      have := (Array.getElem?_eq_some_iff.1 hy).1; simpa using this
     simp [hjl] at hy; subst hy; exact ho j _ (C6 .any (by omega))
    ·intro j y c hy hj; have hjl : j < P.cellsOf t := by
      by_cases e : j < P.cellsOf t
      ·exact e
      ·simp [List.getElem?_take, e] at hj
     simp [hjl] at hy; subst hy; exact hr j c (by simpa [List.getElem?_take, hjl] using hj)
   ·rename_i hd; simp only [Option.some.injEq, Prod.mk.injEq] at h; obtain ⟨rfl, rfl⟩ := h; have hs' : 0 < cs.length := hs; have he := C6 (l := cs) .any hs'; have hcell := hc 0 _ he; refine ⟨cv 0, ?_, hr 0 _ he⟩; have hd' : K3 d = false := by simpa using hd
    simp only [Nat.add_zero] at hcell; simp [Instr.loadAt, Instr.sureAddr, loadVar, D8 hu, hd', hcell]
def KP (P : Program) (t : TypeId) (cs : List IV) (off : Nat) : Option (Prop × IV) :=
  match P.underlying t with
  | some d => if K3 d = true then some (AI (0 < P.cellsOf t) ∧ AI (off + P.cellsOf t ≤ cs.length), .ag ((cs.drop off).take (P.cellsOf t))) else some (AI (off < cs.length), cs.getD off .any)
  | none => none
theorem Hl {t : TypeId} {xs : Array Value} {cs : List IV} {r : IV} {off : Nat} {s : Prop} {w : World} {g : Gs} (hl : xs.size = cs.length) (ho : ∀ (j : Nat) (x : Value), xs[j]? = some x → x.oneCell' = true)
    (hr : ∀ (j : Nat) (x : Value) (c : IV), xs[j]? = some x → cs[j]? = some c → R w g x c) (h : KP P t cs off = some (s, r)) (hs : s) :
    ∃ v, (part t xs off).run P w = .ok v w ∧ R w g v r := by
 unfold KP at h; split at h
 ·rename_i d hu; split at h
  ·rename_i hd; simp only [Option.some.injEq, Prod.mk.injEq] at h; obtain ⟨rfl, rfl⟩ := h; obtain ⟨h1, h2⟩ := hs; have h2' : off + P.cellsOf t ≤ cs.length := h2; refine ⟨_, by simp [part, D8 hu, hd, Av h1]; rfl, .ag _ _ ?_ ?_ ?_⟩
   ·simp; omega
   ·intro j y hy; rw [Array.getElem?_extract] at hy; split at hy
    ·exact ho _ _ hy
    ·cases hy
   ·intro j y c hy hj; rw [Array.getElem?_extract] at hy; have hjl : j < P.cellsOf t := by
     by_cases e : j < P.cellsOf t
     ·exact e
     ·simp [List.getElem?_take, e] at hj
    simp only [List.getElem?_take, hjl, if_true, List.getElem?_drop] at hj; refine hr (off + j) y c ?_ hj; split at hy
    ·exact hy
    ·cases hy
  ·rename_i hd; simp only [Option.some.injEq, Prod.mk.injEq] at h; obtain ⟨rfl, rfl⟩ := h; have hs' : off < cs.length := hs; have he := C6 (l := cs) .any hs'; have hx : xs[off]? = some xs[off] := Array.getElem?_eq_getElem (by omega); have hd' : K3 d = false := by simpa using hd
   exact ⟨xs[off], by simp [part, D8 hu, hd', hx], hr _ _ _ hx he⟩
 ·cases h
def fvP (P : Program) (d : Option TypeDesc) (x : IV) (f : Nat) : Option (Prop × IV) :=
  match d, x with
  | some (.struct fs), .ag cs => match fs[f]? with | some fd => KP P fd.type cs fd.offset | none => none
  | _, _ => none
theorem NC {t : TypeId} {x : Value} {i r : IV} {f : Nat} {s : Prop} {w : World} {g : Gs} (hx : R w g x i) (h : fvP P (P.underlying t) i f = some (s, r)) (hs : s) :
    ∃ v, (Instr.field t x f).run P w = .ok v w ∧ R w g v r := by
 unfold fvP at h; split at h
 ·rename_i fs cs hu; split at h
  ·rename_i fd hf; cases hx with
   | ag xs _ hl ho hr =>
    obtain ⟨v, h1, h2⟩ := Hl hl ho hr h hs; exact ⟨v, by simp [Instr.field, run_underlying hu, hf, asAgg, h1], h2⟩
  ·cases h
 ·cases h
def ivP (P : Program) (d : Option TypeDesc) (x i : IV) : Option (Prop × IV) :=
  match d, x, i with
  | some (.array m e), .ag cs, .v (.int _ n) =>
    match KP P e cs (n.toNat * P.cellsOf e) with
    | some (s, r) => some (AI (0 < P.cellsOf e) ∧ AI (0 ≤ n) ∧ AI (n < m) ∧ s, r)
    | none => none
  | some .string, .v (.string s), .v (.int _ n) => some (AI (0 ≤ n) ∧ AI (n < (bytes s).length), .v (.int .u8 ((bytes s).getD n.toNat 0).toNat))
  | _, _, _ => none
theorem ND {t : TypeId} {x y : Value} {i j r : IV} {s : Prop} {w : World} {g : Gs} (hx : R w g x i) (hy : R w g y j) (h : ivP P (P.underlying t) i j = some (s, r)) (hs : s) :
    ∃ v, (Instr.index t x y).run P w = .ok v w ∧ R w g v r := by
 unfold ivP at h; split at h
 ·rename_i m e cs kk n hu; obtain rfl := hy.v_eq; split at h
  ·rename_i s' r' hp; simp only [Option.some.injEq, Prod.mk.injEq] at h; obtain ⟨rfl, rfl⟩ := h; obtain ⟨h1, h2, h3, h4⟩ := hs; have h2' : 0 ≤ n := h2; have h3' : n < m := h3; cases hx with
   | ag xs _ hl ho hr =>
    obtain ⟨v, q1, q2⟩ := Hl hl ho hr hp h4; exact ⟨v, by simp [Instr.index, asIntOf, run_underlying hu, h2', h3', Av h1, q1], q2⟩
  ·cases h
 ·rename_i sb kk n hu; obtain rfl := hy.v_eq; obtain rfl := hx.v_eq; simp only [Option.some.injEq, Prod.mk.injEq] at h; obtain ⟨rfl, rfl⟩ := h; obtain ⟨h1, h2⟩ := hs; have h1' : 0 ≤ n := h1; have h2' : n < (bytes sb).length := h2; have hl : n.toNat < sb.size := by rw [BJ]; omega
  refine ⟨_, ?_, .v _⟩; have hget : sb[n.toNat]? = some ((bytes sb).getD n.toNat 0) := by
   rw [getElem?_pos sb n.toNat hl]; congr 1; have hl2 : n.toNat < (bytes sb).length := by omega
   simp [List.getD, List.getElem?_eq_getElem hl2]; rfl
  simp [Instr.index, asIntOf, run_underlying hu, h1', hget]
 ·cases h
end Go.Idl
namespace Go.Idl
open Go Go.RowKit
variable {P : Program}
def AD : IV → Option (List IV)
  | .ag cs => some cs
  | .v (.agg xs) => if xs.toList.all (·.oneCell') = true then some (xs.toList.map .v) else none
  | .v (.tuple _) => none
  | .tu _ => none
  | .any => none
  | .blk _ _ => none
  | i => some [i]
theorem Cu {x : Value} {i : IV} {cs : List IV} {w : World} {g : Gs} (hx : R w g x i) (h : AD i = some cs) :
    x.cells.size = cs.length ∧ (∀ (j : Nat) (y : Value), x.cells[j]? = some y → y.oneCell' = true) ∧ ∀ (j : Nat) (y : Value) (c : IV), x.cells[j]? = some y → cs[j]? = some c → R w g y c := by
 have one : ∀ {y : Value} {c : IV}, R w g y c → y.oneCell' = true → y.cells.size = [c].length ∧ (∀ (j : Nat) (z : Value), y.cells[j]? = some z → z.oneCell' = true) ∧ ∀ (j : Nat) (z : Value) (d : IV), y.cells[j]? = some z → [c][j]? = some d → R w g z d := by
  intro y c hr hy; have e : y.cells = #[y] := by cases y <;> first | rfl | (simp [Value.oneCell'] at hy)
  rw [e]; refine ⟨rfl, fun j z h1 => ?_, fun j z d h1 h2 => ?_⟩
  ·cases j with
   | zero => simp at h1; subst h1; exact hy
   | succ j => simp at h1
  ·cases j with
   | zero => simp at h1 h2; subst h1; subst h2; exact hr
   | succ j => simp at h1
 cases hx with
 | v x =>
  cases x <;> simp only [AD, Option.some.injEq, reduceCtorEq] at h <;> try (subst h; exact one (.v _) rfl)
  rename_i xs; split at h
  ·rename_i hall; simp only [Option.some.injEq] at h; subst h; refine ⟨by simp [Value.cells], fun j y h1 => ?_, fun j y c h1 h2 => ?_⟩
   ·simp only [Value.cells] at h1; rw [List.all_eq_true] at hall; exact hall y (by rw [Array.mem_toList_iff]; exact Array.mem_of_getElem? h1)
   ·simp only [Value.cells] at h1; simp only [List.getElem?_map, Array.getElem?_toList, h1, Option.map_some, Option.some.injEq] at h2; subst h2; exact .v _
  ·cases h
 | any x => simp [AD] at h
 | blk b xs el f x hb h1 => simp [AD] at h
 | sl0 a cap sz => simp only [AD, Option.some.injEq] at h; subst h; exact one (.sl0 a cap sz) rfl
 | sl b off cap sz es cv h1 h2 h3 h4 h5 h6 h7 h8 => simp only [AD, Option.some.injEq] at h; subst h; exact one (.sl b off cap sz es cv h1 h2 h3 h4 h5 h6 h7 h8) rfl
 | cp b off cs cv h1 h2 h3 h4 h5 => simp only [AD, Option.some.injEq] at h; subst h; exact one (.cp b off cs cv h1 h2 h3 h4 h5) rfl
 | ag xs cs' hl ho hr => simp only [AD, Option.some.injEq] at h; subst h; exact ⟨hl, ho, hr⟩
 | tu => simp [AD] at h
 | fn f xs ys fi ca h1 h2 h3 h4 => simp only [AD, Option.some.injEq] at h; subst h; exact one (.fn f xs ys fi ca h1 h2 h3 h4) rfl
 | ifc t x c hr => simp only [AD, Option.some.injEq] at h; subst h; exact one (.ifc t x c hr) rfl
 | p k off x hk hx h' => simp only [AD, Option.some.injEq] at h; subst h; exact one (.p k off x hk hx h') (by obtain ⟨a, rfl⟩ := hx; rfl)
 | mp k x hk hx h' => simp only [AD, Option.some.injEq] at h; subst h; exact one (.mp k x hk hx h') (by obtain ⟨a, rfl⟩ := hx; rfl)
 | os k n x hk h' hx => simp only [AD, Option.some.injEq] at h; subst h; exact one (.os k n x hk h' hx) (by obtain ⟨a, c, rfl⟩ := hx; rfl)
 | pr k n off x hk hx h' => simp only [AD, Option.some.injEq] at h; subst h; exact one (.pr k n off x hk hx h') (by obtain ⟨a, rfl⟩ := hx; rfl)
 | bs k off n x hk hx h' => simp only [AD, Option.some.injEq] at h; subst h; exact one (.bs k off n x hk hx h') (by obtain ⟨a, c, rfl, _⟩ := hx; rfl)
def CV (cells vc : List IV) (off : Nat) : List IV := cells.take off ++ vc ++ cells.drop (off + vc.length)
def El (place : Nat → Option (Nat × Nat)) (cells : List IV) : List (Nat × IV) → Option (List IV)
  | [] => some cells
  | (i, v) :: rest =>
    match place i, AD v with
    | some (off, size), some vc => if vc.length = size ∧ off + vc.length ≤ cells.length then El place (CV cells vc off) rest else none
    | _, _ => none
theorem KQ (cells vc : List IV) (off j : Nat) (h : off + vc.length ≤ cells.length) : (CV cells vc off)[j]? = if off ≤ j ∧ j < off + vc.length then vc[j - off]? else cells[j]? := by
 unfold CV; rcases Nat.lt_or_ge j off with h1 | h1
 ·rw [List.append_assoc, List.getElem?_append_left (by simp; omega), if_neg (by omega), List.getElem?_take, if_pos h1]
 ·rcases Nat.lt_or_ge j (off + vc.length) with h2 | h2
  ·rw [List.append_assoc, List.getElem?_append_right (by simp; omega), List.getElem?_append_left (by simp; omega), if_pos ⟨h1, h2⟩]; congr 1; simp; omega
  ·rw [List.getElem?_append_right (by simp; omega), if_neg (by omega), List.getElem?_drop]; congr 1; simp; omega
theorem DA (cells vc : List IV) (off : Nat) (h : off + vc.length ≤ cells.length) : (CV cells vc off).length = cells.length := by
 simp [CV]; omega
theorem Oz (vc : List Value) (off : Nat) : ∀ (n : Nat) (cs : Array Value) (j : Nat), off + n + vc.length ≤ cs.size →
    ((vc.zipIdx n).foldl (fun cs (p : Value × Nat) => cs.setIfInBounds (off + p.2) p.1) cs)[j]? = if off + n ≤ j ∧ j < off + n + vc.length then vc[j - (off + n)]? else cs[j]? := by
 induction vc with
 | nil => intro n cs j _; simp; omega
 | cons c vc ih =>
  intro n cs j h; simp only [List.length_cons] at h; rw [List.zipIdx_cons, List.foldl_cons, ih (n + 1) _ j (by simp; omega)]; by_cases h1 : off + (n + 1) ≤ j ∧ j < off + (n + 1) + vc.length
  ·rw [if_pos h1, if_pos (by simp only [List.length_cons]; omega)]; have : j - (off + n) = (j - (off + (n + 1))) + 1 := by omega
   rw [this, List.getElem?_cons_succ]
  ·rw [if_neg h1]; by_cases h2 : j = off + n
   ·subst h2; rw [if_pos (by simp only [List.length_cons]; omega)]; have hb : off + n < cs.size := by omega
    simp [hb]
   ·rw [if_neg (by simp only [List.length_cons]; omega), Array.getElem?_setIfInBounds_ne (by omega)]
theorem fold_size (vc : List Value) (off : Nat) : ∀ (n : Nat) (cs : Array Value), ((vc.zipIdx n).foldl (fun cs (p : Value × Nat) => cs.setIfInBounds (off + p.2) p.1) cs).size = cs.size := by
 induction vc with
 | nil => intro n cs; rfl
 | cons c vc ih => intro n cs; rw [List.zipIdx_cons, List.foldl_cons, ih]; simp
def E4 (w : World) (g : Gs) : List (Nat × Value) → List (Nat × IV) → Prop
  | [], [] => True
  | (n, x) :: xs, (m, i) :: is => n = m ∧ R w g x i ∧ E4 w g xs is
  | _, _ => False
theorem E5 {place : Nat → Option (Nat × Nat)} {w : World} {g : Gs} : ∀ {vs : List (Nat × Value)} {is : List (Nat × IV)} {cells : Array Value} {cs rs : List IV}, E4 w g vs is →
    cells.size = cs.length → (∀ (j : Nat) (y : Value), cells[j]? = some y → y.oneCell' = true) → (∀ (j : Nat) (y : Value) (c : IV), cells[j]? = some y → cs[j]? = some c → R w g y c) → El place cs is = some rs →
    ∃ out, Instr.fill place cells vs = some out ∧ out.size = rs.length ∧ (∀ (j : Nat) (y : Value), out[j]? = some y → y.oneCell' = true) ∧ ∀ (j : Nat) (y : Value) (c : IV), out[j]? = some y → rs[j]? = some c → R w g y c
  | [], [], cells, cs, rs, _, hl, hone, hr, h => by
    simp only [El, Option.some.injEq] at h
    subst h
    exact ⟨cells, rfl, hl, hone, hr⟩
  | (n, x) :: vs, (m, i) :: is, cells, cs, rs, hp, hl, hone, hr, h => by
    obtain ⟨rfl, hx, hp⟩ := hp
    simp only [El] at h
    cases hpl : place n with
    | none => simp [hpl] at h
    | some os =>
      obtain ⟨off, size⟩ := os
      cases hc : AD i with
      | none => simp [hpl, hc] at h
      | some vc =>
        simp only [hpl, hc] at h
        split at h
        · rename_i hb
          obtain ⟨hb1, hb2⟩ := hb
          obtain ⟨h1, h1', h2⟩ := Cu hx hc
          have hsz : x.cells.size = size := h1.trans hb1
          have hfold := fun j => Oz x.cells.toList off 0 cells j (by simp; omega)
          obtain ⟨out, e1, e2, e3', e3⟩ := E5 (cells := x.cells.toList.zipIdx.foldl (fun cs (p : Value × Nat) => cs.setIfInBounds (off + p.2) p.1) cells) hp (cs := CV cs vc off)
            (by rw [fold_size, DA _ _ _ hb2]; exact hl)
            (by
              intro j y hy
              have hf := hfold j
              simp only [Nat.add_zero] at hf
              rw [hf] at hy
              split at hy
              · exact h1' _ _ (by simpa using hy)
              · exact hone _ _ hy)
            (by
              intro j y c hy hj
              rw [KQ _ _ _ _ hb2] at hj
              have hf := hfold j
              simp only [Nat.add_zero] at hf
              rw [hf] at hy
              have hlen : x.cells.toList.length = vc.length := by simp; exact h1
              rw [hlen] at hy
              split at hj
              · rename_i hin
                rw [if_pos hin] at hy
                exact h2 _ _ _ (by simpa using hy) hj
              · rename_i hin
                rw [if_neg hin] at hy
                exact hr _ _ _ hy hj) h
          refine ⟨out, ?_, e2, e3', e3⟩
          simp only [Instr.fill, hpl]
          rw [if_neg (by simp [hsz]; omega)]
          rw [← Array.foldl_toList, Array.toList_zipIdx]
          exact e1
        · cases h
  | [], _ :: _, _, _, _, hp, _, _, _, _ => hp.elim
  | _ :: _, [], _, _, _, hp, _, _, _, _ => hp.elim
def zeroOf (P : Program) (t : TypeId) : Option Value := (P.info? t).bind (·.zero)
theorem BT {t : TypeId} {z : Value} (h : zeroOf P t = some z) (w : World) : (zeroValue t).run P w = .ok z w := by
 unfold zeroOf at h; cases hi : P.info? t with
 | none => simp [hi] at h
 | some i =>
  simp only [hi, Option.bind_some] at h; simp [zeroValue, typeInfo, hi, h]
def bdP (P : Program) (t : TypeId) (parts : List (Nat × IV)) : Option (Prop × IV) :=
  match P.underlying t, zeroOf P t with
  | some (.struct fs), some z =>
    if fs.toList.all (fun f => decide (0 < P.cellsOf f.type)) = true ∧ z.cells.toList.all (·.oneCell') = true then
      match El (fun i => (fs[i]?).map fun f => (f.offset, P.cellsOf f.type)) (z.cells.toList.map .v) parts with
      | some rs => some (True, .ag rs)
      | none => none
    else none
  | some (.array _ e), some z =>
    if 0 < P.cellsOf e ∧ z.cells.toList.all (·.oneCell') = true then
      match El (fun i => some (i * P.cellsOf e, P.cellsOf e)) (z.cells.toList.map .v) parts with
      | some rs => some (True, .ag rs)
      | none => none
    else none
  | _, _ => none
theorem Et (w : World) : ∀ (fs : List Field), fs.all (fun f => decide (0 < P.cellsOf f.type)) = true →
    (fs.mapM fun f => do pure (f.offset, ← sizeOf f.type) : Sem (List (Nat × Nat))).run P w = .ok (fs.map fun f => (f.offset, P.cellsOf f.type)) w
  | [], _ => by simp
  | f :: fs, h => by
    simp only [List.all_cons, Bool.and_eq_true, decide_eq_true_eq] at h
    have ih := Et w fs h.2
    simp only [bind_pure_comp] at ih
    simp [List.mapM_cons, Av h.1, ih]
theorem NF {t : TypeId} {vs : Array (Nat × Value)} {is : List (Nat × IV)} {r : IV} {s : Prop} {w : World} {g : Gs} (hp : E4 w g vs.toList is) (h : bdP P t is = some (s, r)) (hs : s) :
    ∃ v, (Instr.build t vs).run P w = .ok v w ∧ R w g v r := by
 have hzo : ∀ z : Value, z.cells.toList.all (·.oneCell') = true → ∀ (j : Nat) (y : Value), z.cells[j]? = some y → y.oneCell' = true := by
  intro z hall j y h1; rw [List.all_eq_true] at hall; exact hall y (by rw [Array.mem_toList_iff]; exact Array.mem_of_getElem? h1)
 have hz : ∀ z : Value, z.cells.size = (z.cells.toList.map IV.v).length ∧ ∀ (j : Nat) (y : Value) (c : IV), z.cells[j]? = some y → (z.cells.toList.map IV.v)[j]? = some c → R w g y c := by
  intro z; refine ⟨by simp, fun j y c h1 h2 => ?_⟩; simp only [List.getElem?_map, Array.getElem?_toList, h1, Option.map_some, Option.some.injEq] at h2; subst h2; exact .v _
 unfold bdP at h; split at h
 ·rename_i fs z hu hzero; split at h
  ·rename_i hall; split at h
   ·rename_i rs hf; simp only [Option.some.injEq, Prod.mk.injEq] at h; obtain ⟨rfl, rfl⟩ := h; obtain ⟨out, e1, e2, e3', e3⟩ := E5 hp (hz z).1 (hzo z hall.2) (hz z).2 hf; refine ⟨.agg out, ?_, .ag _ _ e2 e3' e3⟩; have hpl := Et (P := P) w fs.toList hall.1; have hm : (fs.mapM fun f => do pure (f.offset, ← sizeOf f.type) : Sem (Array (Nat × Nat))).run P w = .ok (fs.toList.map fun f => (f.offset, P.cellsOf f.type)).toArray w := by
     rw [← Array.toArray_toList (xs := fs), List.mapM_toArray, Sem.run_map, hpl]; rfl
    have hpl2 : (fun i : Nat => ((fs.toList.map fun f : Field => (f.offset, P.cellsOf f.type)).toArray)[i]?) = (fun i : Nat => (fs[i]?).map fun f : Field => (f.offset, P.cellsOf f.type)) := by
     funext i; simp
    simp only [Instr.build, Sem.run_bind, BT hzero, run_underlying hu, Result.andThen_ok, hm, hpl2, e1]; rfl
   ·cases h
  ·cases h
 ·rename_i e z hu hzero; split at h
  ·rename_i hpos; split at h
   ·rename_i rs hf; simp only [Option.some.injEq, Prod.mk.injEq] at h; obtain ⟨rfl, rfl⟩ := h; obtain ⟨out, e1, e2, e3', e3⟩ := E5 hp (hz z).1 (hzo z hpos.2) (hz z).2 hf; refine ⟨.agg out, ?_, .ag _ _ e2 e3' e3⟩; simp only [Instr.build, Sem.run_bind, BT hzero, run_underlying hu, Result.andThen_ok, Av hpos.1, e1]; rfl
   ·cases h
  ·cases h
 ·cases h
end Go.Idl
namespace Go.Idl
open Go Go.RowKit
variable {P : Program}
def Fb (d : Int) : Option IV → Option Int
  | none => some d
  | some (.v (.int _ n)) => some n
  | some _ => none
def slP (P : Program) (d : Option TypeDesc) (x : IV) (lo hi mx : Option IV) : Option (Prop × IV) :=
  match d, x with
  | some .string, .v (.string s) =>
    match Fb 0 lo, Fb ((bytes s).length) hi, mx with
    | some l, some h, none => some (AI (0 ≤ l) ∧ AI (l ≤ h) ∧ AI (h ≤ (bytes s).length), .v (str (((bytes s).take h.toNat).drop l.toNat)))
    | _, _, _ => none
  | some (.slice e), .sl sz es =>
    if P.cellsOf e = sz then
      match Fb 0 lo, Fb es.length hi, Fb es.length mx with
      | some l, some h, some m =>
        if hi.isNone && mx.isSome then none else
        some (AI (0 < sz) ∧ AI (0 ≤ l) ∧ AI (l ≤ h) ∧ AI (h ≤ m) ∧ AI (m ≤ es.length), .sl sz ((es.take h.toNat).drop l.toNat))
      | _, _, _ => none
    else none
  | some (.slice e), .v (.slice none 0 0) =>
    match Fb 0 lo, Fb 0 hi, mx with
    | some l, some h, none => some (AI (0 < P.cellsOf e) ∧ AI (l = 0) ∧ AI (h = 0), .v (.slice none 0 0))
    | _, _, _ => none
  | some (.slice e), .bs k off n =>
    match Fb 0 lo, Fb n hi, mx with
    | some l, some h, none => some (AI (0 < P.cellsOf e) ∧ AI (0 ≤ l) ∧ AI (l ≤ h) ∧ AI (h ≤ n) ∧ AI (l < n), .bs k (off + l.toNat * P.cellsOf e) (h - l).toNat)
    | _, _, _ => none
  | some (.array n e), .p k off =>
    match Fb 0 lo, Fb n hi, mx with
    | some l, some h, none => some (AI (0 < P.cellsOf e) ∧ AI (0 ≤ l) ∧ AI (l ≤ h) ∧ AI (h ≤ n) ∧ AI (l < n), .bs k (off + l.toNat * P.cellsOf e) (h - l).toNat)
    | _, _, _ => none
  | _, _ => none
def RO (w : World) (g : Gs) : Option Value → Option IV → Prop
  | none, none => True
  | some x, some i => R w g x i
  | _, _ => False
theorem RO.bnd {w : World} {g : Gs} {x : Option Value} {i : Option IV} {d n : Int} (hx : RO w g x i) (h : Fb d i = some n) : (x = none ∧ i = none ∧ n = d) ∨ ∃ k, x = some (.int k n) ∧ ∃ j, i = some j := by
 cases i with
 | none =>
  cases x with
  | none => simp only [Fb, Option.some.injEq] at h; exact .inl ⟨rfl, rfl, h.symm⟩
  | some x => exact hx.elim
 | some i =>
  cases x with
  | none => exact hx.elim
  | some x =>
   cases i <;> simp only [Fb, reduceCtorEq] at h; rename_i y; cases y <;> simp only [Fb, reduceCtorEq, Option.some.injEq] at h; subst h; have := R.v_eq hx; subst this; exact .inr ⟨_, rfl, _, rfl⟩
theorem Bo {isSlice : Bool} {len cap : Nat} {lo hi mx : Option Value} {l h m : Int} {w : World}
    (hl : (lo = none ∧ l = 0) ∨ ∃ k, lo = some (.int k l)) (hh : (hi = none ∧ h = len ∧ mx = none) ∨ ∃ k, hi = some (.int k h)) (hm : (mx = none ∧ m = cap) ∨ ∃ k, mx = some (.int k m))
    (h0 : 0 ≤ l) (h1 : l ≤ h) (h2 : h ≤ m) (h3 : m ≤ cap) :
    (Instr.sliceBounds isSlice len cap lo hi mx).run P w = .ok (l.toNat, h.toNat, m.toNat) w := by
 have hb : ∀ (k : IntKind) (i : Int) (y : Nat) (c : BoundsCode), 0 ≤ i → i ≤ y → (Instr.sliceBound (.int k i) y c).run P w = .ok i.toNat w := by
  intro k i y c q1 q2; simp [Instr.sliceBound, asIntOf, q1, q2]
 have e1 : (m.toNat : Int) = m := Int.toNat_of_nonneg (by omega); have e2 : (h.toNat : Int) = h := Int.toNat_of_nonneg (by omega); unfold Instr.sliceBounds; rcases hm with ⟨rfl, rfl⟩ | ⟨km, rfl⟩
 ·rcases hh with ⟨rfl, rfl, _⟩ | ⟨kh, rfl⟩
  ·rcases hl with ⟨rfl, rfl⟩ | ⟨kl, rfl⟩
   ·simp
   ·simp [hb _ _ _ _ h0 h1]
  ·rcases hl with ⟨rfl, rfl⟩ | ⟨kl, rfl⟩
   ·simp [hb _ _ _ _ (show 0 ≤ h by omega) h2]
   ·simp [hb _ _ _ _ (show 0 ≤ h by omega) h2, hb kl l h.toNat _ h0 (by omega)]
 ·rcases hh with ⟨_, _, hmx⟩ | ⟨kh, rfl⟩
  ·cases hmx
  ·rcases hl with ⟨rfl, rfl⟩ | ⟨kl, rfl⟩
   ·simp [hb _ _ _ _ (show 0 ≤ m by omega) h3, hb kh h m.toNat _ (by omega) (by omega)]
   ·simp [hb _ _ _ _ (show 0 ≤ m by omega) h3, hb kh h m.toNat _ (by omega) (by omega), hb kl l h.toNat _ h0 (by omega)]
theorem R.Eu {w : World} {g : Gs} {x : Value} {sz : Nat} {es : List (List IV)} (h : R w g x (.sl sz es)) : (es = [] ∧ ∃ a cap, x = .slice a 0 cap) ∨
    ∃ (b off cap : Nat) (cv : Nat → Nat → Value), x = .slice (some ⟨b, off, none⟩) es.length cap ∧ ¬ g.ow b ∧ b < w.heap.size ∧ es.length ≤ D5 ∧ es.length ≤ cap ∧ (∀ e, e ∈ es → e.length = sz) ∧
      (∀ (i : Nat) (e : List IV) (j : Nat) (c : IV), es[i]? = some e → e[j]? = some c → w.cell? ⟨b, off + i * sz + j, none⟩ = some (cv i j)) ∧
      (∀ (i : Nat) (e : List IV) (j : Nat) (c : IV), es[i]? = some e → e[j]? = some c → (cv i j).oneCell' = true) ∧
      (∀ (i : Nat) (e : List IV) (j : Nat) (c : IV), es[i]? = some e → e[j]? = some c → R w g (cv i j) c) := by
 cases h with
 | sl0 a cap => exact .inl ⟨rfl, a, cap, rfl⟩
 | sl b off cap _ _ cv hb hlt hlen hcap hsz hc ho hr => exact .inr ⟨b, off, cap, cv, rfl, hb, hlt, hlen, hcap, hsz, hc, ho, hr⟩
theorem R.Jo {w : World} {g : Gs} {x : Value} {k off : Nat} (h : R w g x (.p k off)) : k < g.nx ∧ (∃ a, x = .pointer (some a)) ∧
    (∀ s, g.sh k = some s → s = .fx → ∃ b, g.mu k = .pointer (some ⟨b, 0, none⟩) ∧ x = .pointer (some ⟨b, off, none⟩)) := by
 cases h with
 | p _ _ _ hk hx h => exact ⟨hk, hx, h⟩
theorem R.M1 {w : World} {g : Gs} {a : Option Addr} {cap sz : Nat} {es : List (List IV)} (hx : R w g (.slice a es.length cap) (.sl sz es)) (l h m : Nat) (h1 : l ≤ h) (h2 : h ≤ es.length) (h3 : h ≤ m) :
    R w g (.slice (if m = l then a else a.map (·.add (l * sz))) (h - l) (m - l)) (.sl sz ((es.take h).drop l)) := by
 by_cases hz : h - l = 0
 ·have : (es.take h).drop l = [] := by simp; omega
  rw [this, hz]; exact .sl0 _ _ _
 ·rw [if_neg (by omega)]; rcases hx.Eu with ⟨rfl, _⟩ | ⟨b, off, cap', cv, hxe, hb, hlt, hlen, hcap', hsz, hc, ho, hr⟩
  ·simp at h2; omega
  ·simp only [Value.slice.injEq] at hxe; obtain ⟨rfl, _, rfl⟩ := hxe; have hlen' : ((es.take h).drop l).length = h - l := by simp; omega
   have hget : ∀ i, ((es.take h).drop l)[i]? = if l + i < h then es[l + i]? else none := by
    intro i; simp [List.getElem?_take]
   rw [← hlen']; simp only [Option.map_some, addr_add]; refine .sl b _ _ sz _ (fun i => cv (l + i)) hb hlt (by rw [hlen']; unfold D5 at hlen ⊢; omega) (by rw [hlen']; exact Nat.sub_le_sub_right h3 l) (fun e he => hsz e (List.mem_of_mem_take (List.mem_of_mem_drop he))) ?_ ?_ ?_
   ·intro i e j c he hj; rw [hget] at he; split at he
    ·have := hc (l + i) e j c he hj; rw [← this]; congr 2; rw [Nat.add_mul]; omega
    ·cases he
   ·intro i e j c he hj; rw [hget] at he; split at he
    ·exact ho (l + i) e j c he hj
    ·cases he
   ·intro i e j c he hj; rw [hget] at he; split at he
    ·exact hr (l + i) e j c he hj
    ·cases he
theorem NG {t : TypeId} {x : Value} {i r : IV} {lo hi mx : Option Value} {jl jh jm : Option IV} {s : Prop} {w : World} {g : Gs} (hx : R w g x i) (hl : RO w g lo jl) (hh : RO w g hi jh) (hm : RO w g mx jm)
    (h : slP P (P.underlying t) i jl jh jm = some (s, r)) (hs : s) : ∃ v, (Instr.sliceAt t x lo hi mx).run P w = .ok v w ∧ R w g v r := by
 unfold slP at h; split at h
 ·rename_i sb hu; obtain rfl := hx.v_eq; split at h
  ·rename_i l hh' e1 e2; simp only [Option.some.injEq, Prod.mk.injEq] at h; obtain ⟨rfl, rfl⟩ := h; obtain ⟨s1, s2, s3⟩ := hs; have s1' : 0 ≤ l := s1; have s2' : l ≤ hh' := s2; have s3' : hh' ≤ ((bytes sb).length : Int) := s3; have hmx : mx = none := by cases mx with | none => rfl | some _ => exact hm.elim
   subst hmx; have hb := Bo (P := P) (isSlice := false) (len := sb.size) (cap := sb.size) (lo := lo) (hi := hi) (mx := none) (l := l) (h := hh') (m := sb.size) (w := w)
    (by rcases hl.bnd e1 with ⟨q1, _, q2⟩ | ⟨k, q, _⟩; exact .inl ⟨q1, q2⟩; exact .inr ⟨k, q⟩)
    (by rcases hh.bnd e2 with ⟨q1, _, q2⟩ | ⟨k, q, _⟩; exact .inl ⟨q1, by rw [q2, BJ], rfl⟩; exact .inr ⟨k, q⟩)
    (.inl ⟨rfl, rfl⟩) s1' s2' (by rw [BJ]; exact s3') (Int.le_refl _)
   have hext : (⟨(((bytes sb).take hh'.toNat).drop l.toNat).toArray⟩ : ByteArray) = sb.extract l.toNat hh'.toNat := by
    apply bytes_inj; rw [Ck]; simp [bytes, ByteArray.data_extract, List.drop_take]
   refine ⟨_, ?_, .v _⟩; rw [str, hext]; simp [Instr.sliceAt, Instr.slice, run_underlying hu, hb]
  ·cases h
 ·rename_i e sz es hu; split at h
  ·rename_i hz; split at h
   ·rename_i l hh' m e1 e2 e3; split at h
    ·cases h
    ·rename_i hnm; simp only [Option.some.injEq, Prod.mk.injEq] at h; obtain ⟨rfl, rfl⟩ := h; obtain ⟨s0, s1, s2, s3, s4⟩ := hs; have s0' : 0 < sz := s0; have s1' : 0 ≤ l := s1; have s2' : l ≤ hh' := s2; have s3' : hh' ≤ m := s3; have s4' : m ≤ (es.length : Int) := s4; obtain ⟨a, cap, rfl, ha⟩ := hx.K1; have hcap : es.length ≤ cap := by
      rcases hx.Eu with ⟨rfl, _⟩ | ⟨_, _, _, _, hxe, _, _, _, hcap', _⟩
      ·simp
      ·simp only [Value.slice.injEq] at hxe; obtain ⟨_, _, rfl⟩ := hxe; exact hcap'
     have key : ∃ m' : Nat, hh'.toNat ≤ m' ∧ (Instr.sliceBounds true es.length cap lo hi mx).run P w = .ok (l.toNat, hh'.toNat, m') w := by
      rcases hm.bnd e3 with ⟨q1, _, q2⟩ | ⟨km, q, qj⟩
      ·refine ⟨cap, by omega, ?_⟩; have := Bo (P := P) (isSlice := true) (len := es.length) (cap := cap) (lo := lo) (hi := hi) (mx := mx) (l := l) (h := hh') (m := cap) (w := w)
        (by rcases hl.bnd e1 with ⟨q1, _, q2⟩ | ⟨k, q, _⟩; exact .inl ⟨q1, q2⟩; exact .inr ⟨k, q⟩)
        (by rcases hh.bnd e2 with ⟨q3, _, q4⟩ | ⟨k, q, _⟩; exact .inl ⟨q3, q4, q1⟩; exact .inr ⟨k, q⟩)
        (.inl ⟨q1, rfl⟩) s1' s2' (by omega) (Int.le_refl _)
       simpa using this
      ·refine ⟨m.toNat, by omega, ?_⟩; obtain ⟨j, rfl⟩ := qj; exact Bo (by rcases hl.bnd e1 with ⟨q1, _, q2⟩ | ⟨k, q, _⟩; exact .inl ⟨q1, q2⟩; exact .inr ⟨k, q⟩)
        (by rcases hh.bnd e2 with ⟨q3, q5, q4⟩ | ⟨k, q, _⟩; exact absurd (by simp [q5]) hnm; exact .inr ⟨k, q⟩)
        (.inr ⟨km, q⟩) s1' s2' s3' (by omega)
     obtain ⟨m', hm1, hrun⟩ := key; refine ⟨_, ?_, hx.M1 l.toNat hh'.toNat m' (by omega) (by omega) hm1⟩; simp [Instr.sliceAt, Instr.slice, run_underlying hu, hrun, Av (P := P) (t := e) (by omega), hz]
   ·cases h
  ·cases h
 ·rename_i e hu; obtain rfl := hx.v_eq; split at h
  ·rename_i l hh' e1 e2; simp only [Option.some.injEq, Prod.mk.injEq] at h; obtain ⟨rfl, rfl⟩ := h; obtain ⟨s0, s1, s2⟩ := hs; have s1' : l = 0 := s1; have s2' : hh' = 0 := s2; subst s1' s2'; have hmx : mx = none := by cases mx with | none => rfl | some _ => exact hm.elim
   subst hmx; have hb := Bo (P := P) (isSlice := true) (len := 0) (cap := 0) (lo := lo) (hi := hi) (mx := none) (l := 0) (h := 0) (m := 0) (w := w)
    (by rcases hl.bnd e1 with ⟨q1, _, q2⟩ | ⟨k, q, _⟩; exact .inl ⟨q1, q2⟩; exact .inr ⟨k, q⟩)
    (by rcases hh.bnd e2 with ⟨q1, _, q2⟩ | ⟨k, q, _⟩; exact .inl ⟨q1, by simp, rfl⟩; exact .inr ⟨k, q⟩)
    (.inl ⟨rfl, rfl⟩) (by omega) (by omega) (by omega) (by omega)
   exact ⟨.slice none 0 0, by simp [Instr.sliceAt, Instr.slice, run_underlying hu, hb, Av s0], .v _⟩
  ·cases h
 ·rename_i e k off n hu; split at h
  ·rename_i l hh' e1 e2; simp only [Option.some.injEq, Prod.mk.injEq] at h; obtain ⟨rfl, rfl⟩ := h; obtain ⟨s0, s1, s2, s3, s4⟩ := hs; have s0' : 0 < P.cellsOf e := s0; have s1' : 0 ≤ l := s1; have s2' : l ≤ hh' := s2; have s3' : hh' ≤ (n : Int) := s3; have s4' : l < (n : Int) := s4; have hmx : mx = none := by cases mx with | none => rfl | some _ => exact hm.elim
   subst hmx; cases hx with
   | bs _ _ _ _ hk hx' hq =>
    obtain ⟨a, cap, rfl, hcap⟩ := hx'; have hb := Bo (P := P) (isSlice := true) (len := n) (cap := cap) (lo := lo) (hi := hi) (mx := none) (l := l) (h := hh') (m := cap) (w := w)
     (by rcases hl.bnd e1 with ⟨q1, _, q2⟩ | ⟨k, q, _⟩; exact .inl ⟨q1, q2⟩; exact .inr ⟨k, q⟩)
     (by rcases hh.bnd e2 with ⟨q1, _, q2⟩ | ⟨k, q, _⟩; exact .inl ⟨q1, q2, rfl⟩; exact .inr ⟨k, q⟩)
     (.inl ⟨rfl, rfl⟩) s1' s2' (by omega) (Int.le_refl _)
    have hne : ¬ (cap = l.toNat) := by omega
    have hsub : hh'.toNat - l.toNat = (hh' - l).toNat := by omega
    refine ⟨.slice (some (a.add (l.toNat * P.cellsOf e))) (hh' - l).toNat (cap - l.toNat), ?_, .bs k _ _ _ hk ⟨_, _, rfl, by omega⟩ fun s hs e => ?_⟩
    ·simp [Instr.sliceAt, Instr.slice, run_underlying hu, hb, Av s0', hne, hsub]
    ·obtain ⟨b, cap', q1, q2⟩ := hq s hs e; simp only [Value.slice.injEq, Option.some.injEq] at q2; obtain ⟨q2, _, _⟩ := q2; exact ⟨b, _, q1, by rw [q2, addr_add]⟩
  ·cases h
 ·rename_i n e k off hu; split at h
  ·rename_i l hh' e1 e2; simp only [Option.some.injEq, Prod.mk.injEq] at h; obtain ⟨rfl, rfl⟩ := h; obtain ⟨s0, s1, s2, s3, s4⟩ := hs; have s1' : 0 ≤ l := s1; have s2' : l ≤ hh' := s2; have s3' : hh' ≤ (n : Int) := s3; have s4' : l < (n : Int) := s4; have hmx : mx = none := by cases mx with | none => rfl | some _ => exact hm.elim
   subst hmx; obtain ⟨a, rfl⟩ := hx.Gz; have hb := Bo (P := P) (isSlice := false) (len := n) (cap := n) (lo := lo) (hi := hi) (mx := none) (l := l) (h := hh') (m := n) (w := w)
    (by rcases hl.bnd e1 with ⟨q1, _, q2⟩ | ⟨k, q, _⟩; exact .inl ⟨q1, q2⟩; exact .inr ⟨k, q⟩)
    (by rcases hh.bnd e2 with ⟨q1, _, q2⟩ | ⟨k, q, _⟩; exact .inl ⟨q1, q2, rfl⟩; exact .inr ⟨k, q⟩)
    (.inl ⟨rfl, rfl⟩) s1' s2' s3' (Int.le_refl _)
   have hne : ¬ (n = l.toNat) := by omega
   have hsub : hh'.toNat - l.toNat = (hh' - l).toNat := by omega
   refine ⟨.slice (some (a.add (l.toNat * P.cellsOf e))) (hh' - l).toNat (n - l.toNat), ?_, ?_⟩
   ·simp [Instr.sliceAt, Instr.sureAddr, run_underlying hu, hb, Av s0, hne, hsub]
   ·obtain ⟨hk, _, hq⟩ := (hx.Ox (l.toNat * P.cellsOf e)).Jo; refine .bs k _ _ _ hk ⟨_, _, rfl, by omega⟩ fun s hs e => ?_; obtain ⟨b, q1, q2⟩ := hq s hs e; simp only [Value.pointer.injEq, Option.some.injEq] at q2; exact ⟨b, _, q1, by rw [q2]⟩
  ·cases h
 ·cases h
end Go.Idl
namespace Go.Idl
open Go Go.RowKit
variable {P : Program} {N : Nat} {tm : Tm} {H : A0}
def GA (e : List IV) : Option Int :=
  match e with
  | [.v (.int .u8 n)] => some n
  | _ => none
def cvP (P : Program) (src dst : TypeId) (x : IV) : Option (Prop × IV) :=
  match P.underlying src, P.underlying dst, x with
  | some _, some (.int k), .v (.int _ n) => some (True, .v (.int k (k.wrap n)))
  | some _, some .string, .v (.string s) => some (True, .v (.string s))
  | some (.slice e), some .string, .sl 1 es =>
    match P.underlying e with
    | some (.int .u8) => some (AI (∀ e, e ∈ es → (GA e).isSome = true), .v (str (es.map fun e => UInt8.ofNat ((GA e).getD 0).toNat)))
    | _ => none
  | some (.slice e), some .string, .v (.slice none 0 0) =>
    match P.underlying e with
    | some (.int .u8) => some (True, .v (str []))
    | _ => none
  | _, _, _ => none
theorem NH {e : List IV} {n : Int} (h : GA e = some n) : e = [.v (.int .u8 n)] := by
 unfold GA at h; split at h
 ·cases h; rfl
 ·cases h
theorem NI {src dst : TypeId} {x : Value} {i r : IV} {s : Prop} {w : World} {g : Gs} (hx : R w g x i) (h : cvP P src dst i = some (s, r)) (hs : s) :
    ∃ v, (convert src dst x).run P w = .ok v w ∧ R w g v r := by
 unfold cvP at h; split at h
 ·rename_i d k kk n h1 h2; obtain rfl := hx.v_eq; simp only [Option.some.injEq, Prod.mk.injEq] at h; obtain ⟨rfl, rfl⟩ := h; exact ⟨_, by simp [convert, run_underlying h1, run_underlying h2, Conv.intToInt]; try rfl, .v _⟩
 ·rename_i d sb h1 h2; obtain rfl := hx.v_eq; simp only [Option.some.injEq, Prod.mk.injEq] at h; obtain ⟨rfl, rfl⟩ := h; exact ⟨.string sb, by simp [convert, run_underlying h1, run_underlying h2], .v _⟩
 ·rename_i e es h1 h2; split at h
  ·rename_i he; simp only [Option.some.injEq, Prod.mk.injEq] at h; obtain ⟨rfl, rfl⟩ := h; have hs' : ∀ e, e ∈ es → (GA e).isSome = true := hs; rcases hx.Eu with ⟨rfl, a, cap, rfl⟩ | ⟨b, off, cap, cv, rfl, hb, hlt, hlen, hcap, hsz, hc, ho, hr⟩
   ·refine ⟨_, ?_, .v _⟩; rw [run_convert_bytes_string w src dst e _ _ _ h1 he h2]; cases a with
    | none => simp [Conv.bytesToString]; try rfl
    | some a =>
     rw [run_bytesToString w a 0 cap [] (by simp [loadCells, loadCellsFrom])]; rfl
   ·have hall : ∀ i (hi : i < es.length), ∃ n, es[i] = [.v (.int .u8 n)] ∧ (GA es[i]).getD 0 = n ∧ cv i 0 = .int .u8 n := by
     intro i hi; have hm := hs' es[i] (List.getElem_mem hi); obtain ⟨n, hn⟩ := Option.isSome_iff_exists.1 hm; have he' := NH hn; have h0 := hr i es[i] 0 (.v (.int .u8 n)) (List.getElem?_eq_getElem hi) (by rw [he']; rfl); exact ⟨n, he', by rw [hn]; rfl, h0.v_eq⟩
    refine ⟨.string (strOfNums (es.map fun e => (GA e).getD 0)), ?_, ?_⟩
    ·refine run_convert_bytes_arg w src e h1 he b off es.length cap _ (by simp) (fun i hi => ?_) dst h2; obtain ⟨n, q1, q2, q3⟩ := hall i hi; have := hc i es[i] 0 (.v (.int .u8 n)) (List.getElem?_eq_getElem hi) (by rw [q1]; rfl); simp only [Nat.mul_one, Nat.add_zero] at this; rw [this, q3]; simp [List.getD, List.getElem?_eq_getElem hi, q2]
    ·have : strOfNums (es.map fun e => (GA e).getD 0) = ⟨(es.map fun e => UInt8.ofNat ((GA e).getD 0).toNat).toArray⟩ := by
      simp [strOfNums, List.map_map, Function.comp_def]
     rw [this]; exact .v _
  ·cases h
 ·rename_i e h1 h2; obtain rfl := hx.v_eq; split at h
  ·rename_i he; simp only [Option.some.injEq, Prod.mk.injEq] at h; obtain ⟨rfl, rfl⟩ := h; refine ⟨_, ?_, .v _⟩; rw [run_convert_bytes_string w src dst e _ _ _ h1 he h2]; simp [Conv.bytesToString]; rfl
  ·cases h
 ·cases h
def ncP (x : IV) : Option (Prop × IV) :=
  match x with
  | .p k off => some (True, .p k off)
  | .pr k n off => some (True, .pr k n off)
  | .cp cs => some (True, .cp cs)
  | .fn (.func f) a b => some (True, .fn (.func f) a b)
  | .v (.func (.func f) a b) => some (True, .v (.func (.func f) a b))
  | .v (.func (.yield f) a b) => some (True, .v (.func (.yield f) a b))
  | _ => none
def unP (op : UnOp) (x : IV) : Option (Prop × IV) :=
  match op, x with
  | .not, .v (.bool b) => some (True, .v (.bool (!b)))
  | .neg, .v (.int k n) => some (True, .v (.int k (k.wrap (0 - n))))
  | _, _ => none
def exP (x : IV) (n : Nat) : Option (Prop × IV) :=
  match x with
  | .tu vs => match vs[n]? with | some y => some (True, y) | none => none
  | _ => none
def mkP (P : Program) (t : TypeId) (x : IV) : Option (Prop × IV) :=
  match P.underlying t with
  | some (.interface _) => none
  | some _ => match x with | .v y => some (True, .v (.iface t y)) | y => some (True, .ifc t y)
  | none => none
def agE (P : Program) (t : TypeId) (xs ys : List IV) : Option (Prop × Bool) :=
  match xs, ys with
  | [.v (.string a), .v (.string b)], [.v (.string c), .v (.string d)] =>
    match P.underlying t with
    | some (.struct fs) =>
      match fs.toList with
      | [f1, f2] => some (P.underlying f1.type = some .string ∧ P.underlying f2.type = some .string ∧ f1.offset = 0 ∧ ¬ f1.name = "_" ∧ f2.offset = 1 ∧ ¬ f2.name = "_" ∧ P.stoodInHeld t = false ∧ P.eqGuardType P.depth t = false, decide (bytes a = bytes c ∧ bytes b = bytes d))
      | _ => none
    | _ => none
  | _, _ => none
theorem KR {w : World} {g : Gs} {x : Value} {a b : ByteArray} (h : R w g x (.ag [.v (.string a), .v (.string b)])) : x = .agg #[.string a, .string b] := by
 generalize hi : IV.ag [.v (.string a), .v (.string b)] = i at h; cases h with
 | ag xs cs h1 h2 h3 =>
  cases hi; obtain ⟨l⟩ := xs
  match l, h1, h3 with
  | [u, v], _, h3 =>
   have e1 := (h3 0 u (.v (.string a)) rfl rfl).v_eq; have e2 := (h3 1 v (.v (.string b)) rfl rfl).v_eq; rw [e1, e2]
 | _ => cases hi
theorem Jp {t : TypeId} {x y : Value} {xs ys : List IV} {s : Prop} {r : Bool} {w : World} {g : Gs} (hx : R w g x (.ag xs)) (hy : R w g y (.ag ys)) (h : agE P t xs ys = some (s, r)) (hs : s) :
    ∃ X Y, x = .agg X ∧ y = .agg Y ∧ P.eqGuardType P.depth t = false ∧ (Op.equalIn 10000 t x y).run P w = .ok r w := by
 unfold agE at h; split at h
 ·rename_i a b c d; split at h
  ·rename_i fs hu; split at h
   ·rename_i f1 f2 hfs; simp only [Option.some.injEq, Prod.mk.injEq] at h; obtain ⟨rfl, rfl⟩ := h; obtain ⟨h1, h2, o1, n1, o2, n2, hst, hgt⟩ := hs; have hxe := KR hx; have hye := KR hy; subst hxe; subst hye; refine ⟨_, _, rfl, rfl, hgt, ?_⟩; have e : ∀ p q : ByteArray, (p.toList == q.toList) = decide (bytes p = bytes q) := fun p q => by
     rw [ByteArray.toList_eq, ByteArray.toList_eq, Bool.eq_iff_iff]; simp [bytes]
    have hfo : P.fieldsOf t = fs := by simp [Program.fieldsOf, hu]
    have p1 : P.plainKey f1.type = true := by simp [Program.plainKey, h1]
    have p2 : P.plainKey f2.type = true := by simp [Program.plainKey, h2]
    rw [show (10000 : Nat) = 9999 + 1 from rfl, run_equalIn_struct w 9999 t _ _ (by rw [hfo]; exact hu) hst, hfo, hfs]; have q1 : (part f1.type #[.string a, .string b] f1.offset).run P w = .ok (.string a) w := run_part_plain w p1 (by rw [o1]; rfl); have q2 : (part f1.type #[.string c, .string d] f1.offset).run P w = .ok (.string c) w := run_part_plain w p1 (by rw [o1]; rfl); have q3 : (part f2.type #[.string a, .string b] f2.offset).run P w = .ok (.string b) w := run_part_plain w p2 (by rw [o2]; rfl); have q4 : (part f2.type #[.string c, .string d] f2.offset).run P w = .ok (.string d) w := run_part_plain w p2 (by rw [o2]; rfl); have r1 : (Op.equalIn 9999 f1.type (.string a) (.string c)).run P w = .ok (decide (bytes a = bytes c)) w := by
     rw [show (9999 : Nat) = 9998 + 1 from rfl, run_equalIn_string w 9998 _ _ _ h1, e]
    have r2 : (Op.equalIn 9999 f2.type (.string b) (.string d)).run P w = .ok (decide (bytes b = bytes d)) w := by
     rw [show (9999 : Nat) = 9998 + 1 from rfl, run_equalIn_string w 9998 _ _ _ h2, e]
    simp only [Op.eqFields, n1, n2, ne_eq, not_false_eq_true, if_true, Sem.run_bind, q1, q2, q3, q4, r1, r2, Result.andThen_ok]; by_cases e1 : bytes a = bytes c
    ·by_cases e2 : bytes b = bytes d
     ·simp [e1, e2, q3, q4, r2]
     ·simp [e1, e2, q3, q4, r2]
    ·simp [e1]
   ·cases h
  ·cases h
 ·cases h
def HX (P : Program) (op : BinOp) (t : TypeId) (x y : IV) : Option (Prop × IV) :=
  match x, y with
  | .v a, .v b => match Ow P op t a b with | some (s, r) => some (s, .v r) | none => none
  | .p _ _, .v (.pointer none) =>
    match P.underlying t with
    | some (.pointer _) => match op with | .eql => some (True, .v (.bool false)) | .neq => some (True, .v (.bool true)) | _ => none
    | _ => none
  | .cp _, .v (.pointer none) =>
    match P.underlying t with
    | some (.pointer _) => match op with | .eql => some (True, .v (.bool false)) | .neq => some (True, .v (.bool true)) | _ => none
    | _ => none
  | .mp _, .v (.map none) =>
    match P.underlying t with
    | some (.map _ _) => match op with | .eql => some (True, .v (.bool false)) | .neq => some (True, .v (.bool true)) | _ => none
    | _ => none
  | .fn _ _ _, .v .nilFunc =>
    match P.underlying t with
    | some (.func _ _ _) => match op with | .eql => some (True, .v (.bool false)) | .neq => some (True, .v (.bool true)) | _ => none
    | _ => none
  | .ag xs, .ag ys =>
    match agE P t xs ys with
    | some (s, r) => match op with | .eql => some (s, .v (.bool r)) | .neq => some (s, .v (.bool (!r))) | _ => none
    | none => none
  | _, _ => none
theorem DB {op : BinOp} {t : TypeId} {x y : Value} {r : Value} {w : World} (hg : ∀ ox oy, (eqGuard op t ox oy x y).run P w = .ok () w) (hb : (binOp op t x y).run P w = .ok r w) (ox oy : Operand) :
    (do eqGuard op t ox oy x y; binOp op t x y : Sem Value).run P w = .ok r w := by
 rw [Sem.run_bind, hg]; exact hb
theorem M3 {op : BinOp} {t : TypeId} {x y : Value} {i j r : IV} {s : Prop} {w : World} {g : Gs} (hx : R w g x i) (hy : R w g y j) (h : HX P op t i j = some (s, r)) (hs : s) (ox oy : Operand) :
    ∃ v, (do eqGuard op t ox oy x y; binOp op t x y : Sem Value).run P w = .ok v w ∧ R w g v r := by
 unfold HX at h; split at h
 ·rename_i a b; obtain rfl := hx.v_eq; obtain rfl := hy.v_eq; split at h
  ·rename_i s' r' hb; simp only [Option.some.injEq, Prod.mk.injEq] at h; obtain ⟨rfl, rfl⟩ := h; exact ⟨_, L_ hb hs ox oy w, .v _⟩
  ·cases h
 ·obtain rfl := hy.v_eq; obtain ⟨a, rfl⟩ := hx.Gz; split at h
  ·rename_i e hu; have hr : (Op.equal t (.pointer (some a)) (.pointer none)).run P w = .ok false w := Bs fun d => by
    simp [Op.equalIn, run_underlying hu]
   cases op <;> simp only [Option.some.injEq, Prod.mk.injEq, reduceCtorEq] at h <;> obtain ⟨rfl, rfl⟩ := h <;>
    exact ⟨_, DB (fun _ _ => by unfold eqGuard; split <;> rfl) (by simp [binOp, hr]; try rfl) ox oy, .v _⟩
  ·cases h
 ·obtain rfl := hy.v_eq; obtain ⟨b, off, rfl⟩ := hx.HN; split at h
  ·rename_i e hu; have hr : (Op.equal t (.pointer (some ⟨b, off, none⟩)) (.pointer none)).run P w = .ok false w := Bs fun d => by
    simp [Op.equalIn, run_underlying hu]
   cases op <;> simp only [Option.some.injEq, Prod.mk.injEq, reduceCtorEq] at h <;> obtain ⟨rfl, rfl⟩ := h <;>
    exact ⟨_, DB (fun _ _ => by unfold eqGuard; split <;> rfl) (by simp [binOp, hr]; try rfl) ox oy, .v _⟩
  ·cases h
 ·obtain rfl := hy.v_eq; have ⟨a, hxa⟩ : ∃ a, x = .map (some a) := by
   cases hx with
   | mp _ _ _ hx' => exact hx'
  subst hxa; split at h
  ·rename_i e1 e2 hu; have hr : (Op.equal t (.map (some a)) (.map none)).run P w = .ok false w := Bs fun d => by
    simp [Op.equalIn, run_underlying hu]
   cases op <;> simp only [Option.some.injEq, Prod.mk.injEq, reduceCtorEq] at h <;> obtain ⟨rfl, rfl⟩ := h <;>
    exact ⟨_, DB (fun _ _ => by unfold eqGuard; split <;> rfl) (by simp [binOp, hr]; try rfl) ox oy, .v _⟩
  ·cases h
 ·obtain rfl := hy.v_eq; have ⟨f, a, b, hxa⟩ : ∃ f a b, x = .func f a b := by
   cases hx with
   | fn f' xs ys => exact ⟨_, xs, ys, rfl⟩
  subst hxa; split at h
  ·rename_i e1 e2 e3 hu; have hr : (Op.equal t (.func f a b) .nilFunc).run P w = .ok false w := Bs fun d => by
    simp [Op.equalIn, run_underlying hu]
   cases op <;> simp only [Option.some.injEq, Prod.mk.injEq, reduceCtorEq] at h <;> obtain ⟨rfl, rfl⟩ := h <;>
    exact ⟨_, DB (fun _ _ => by unfold eqGuard; split <;> rfl) (by simp [binOp, hr]; try rfl) ox oy, .v _⟩
  ·cases h
 ·split at h
  ·rename_i s' r' ha; cases op <;> simp only [Option.some.injEq, Prod.mk.injEq, reduceCtorEq] at h <;> obtain ⟨rfl, rfl⟩ := h
   ·obtain ⟨X, Y, rfl, rfl, hg, hr⟩ := Jp hx hy ha hs; exact ⟨_, DB (fun ox oy => run_eqGuard_agg w _ t ox oy _ _ hg) (by rw [run_eql_struct, hr]; rfl) ox oy, .v _⟩
   ·obtain ⟨X, Y, rfl, rfl, hg, hr⟩ := Jp hx hy ha hs; exact ⟨_, DB (fun ox oy => run_eqGuard_agg w _ t ox oy _ _ hg) (by rw [run_neq_struct, hr]; rfl) ox oy, .v _⟩
  ·cases h
 ·cases h
def FZ (P : Program) (op : BinOp) (t : TypeId) (i : IV) : Option (Prop × IV) :=
  match P.underlying t with
  | some (.interface _) =>
    match i with
    | .v .nilIface => match op with | .eql => some (True, .v (.bool true)) | .neq => some (True, .v (.bool false)) | _ => none
    | .ifc _ _ => match op with | .eql => some (True, .v (.bool false)) | .neq => some (True, .v (.bool true)) | _ => none
    | _ => none
  | _ => none
def M4 (P : Program) (op : BinOp) (t : TypeId) (tm : Tm) (x y : Operand) : Option (Prop × IV) :=
  match y with
  | .const .nilIface => FZ P op t (ev tm x)
  | y => HX P op t (ev tm x) (ev tm y)
theorem HY {op : BinOp} {t : TypeId} {x : Value} {i r : IV} {s : Prop} {w : World} {g : Gs} (hx : R w g x i) (h : FZ P op t i = some (s, r)) (ox : Operand) :
    ∃ v, (do eqGuard op t ox (.const .nilIface) x .nilIface; binOp op t x .nilIface : Sem Value).run P w = .ok v w ∧ R w g v r := by
 unfold FZ at h; split at h
 ·rename_i ms hu; split at h
  ·obtain rfl := hx.v_eq; have hr : (Op.equal t .nilIface .nilIface).run P w = .ok true w := Bs fun d => by
    simp [Op.equalIn, run_underlying hu]
   cases op <;> simp only [Option.some.injEq, Prod.mk.injEq, reduceCtorEq] at h <;> obtain ⟨rfl, rfl⟩ := h <;>
    exact ⟨_, by rw [Sem.run_bind]; simp [eqGuard, binOp, hr]; try rfl, .v _⟩
  ·have ⟨t', z, hxa⟩ : ∃ t' z, x = .iface t' z := by
    cases hx with
    | ifc t' z => exact ⟨_, _, rfl⟩
   subst hxa; have hr : (Op.equal t (.iface t' z) .nilIface).run P w = .ok false w := Bs fun d => by
    simp [Op.equalIn, run_underlying hu]
   cases op <;> simp only [Option.some.injEq, Prod.mk.injEq, reduceCtorEq] at h <;> obtain ⟨rfl, rfl⟩ := h <;>
    exact ⟨_, by rw [Sem.run_bind]; simp [eqGuard, binOp, hr]; try rfl, .v _⟩
  ·cases h
 ·cases h
def evP (P : Program) (tm : Tm) (op : Op) : Option (Prop × IV) :=
  match op with
  | .move x => some (True, ev tm x)
  | .assign x => some (True, ev tm x)
  | .pick c a b => match ev tm c with | .v (.bool q) => some (True, if q = true then ev tm a else ev tm b) | _ => none
  | .binOp op t x y _ => M4 P op t tm x y
  | .unOp op _ x => unP op (ev tm x)
  | .build t parts => bdP P t (parts.toList.map fun q => (q.1, ev tm q.2))
  | .load t x => ldP P t (ev tm x)
  | .nilCheck x => ncP (ev tm x)
  | .convert a b x => cvP P a b (ev tm x)
  | .makeInterface t x => mkP P t (ev tm x)
  | .makeFunc f a b => some (True, .fn f (a.toList.map (ev tm)) (b.toList.map (ev tm)))
  | .slice t x lo hi mx => slP P (P.underlying t) (ev tm x) (lo.map (ev tm)) (hi.map (ev tm)) (mx.map (ev tm))
  | .fieldAddr t x f => fdP P (P.underlying t) (ev tm x) f
  | .field t x f => fvP P (P.underlying t) (ev tm x) f
  | .indexAddr t x i => ixP P (P.underlying t) (ev tm x) (ev tm i)
  | .index t x i => ivP P (P.underlying t) (ev tm x) (ev tm i)
  | .extract x n => exP (ev tm x) n
  | .call c =>
    match c.callee with
    | .builtin .len => match c.args.toList, c.argTypes.toList with | [x], [t] => Er (P.underlying t) (ev tm x) | _, _ => none
    | _ => none
  | _ => none
def okO (N : Nat) (o : Oper) : Bool := o.op.operands.toList.all (opd N) && (match o.dst with | some d => decide (d < N) | none => true)
theorem Fv {o : Oper} {K : IV → A0 → Prop} {Qp : List PanicEntry → A0 → Prop} {i : IV} (hnd : ∀ c, o.op ≠ .defer c)
    (h : ∀ (w : World) (g : Gs) (a : Act), RA w g a tm → a.tmps.size = N → ∃ x, (execOp a.eval o).run P w = .ok (.value x) w ∧ R w g x i) (hk : K i H) : Aj P N o tm H K Qp := by
 refine ⟨hnd, fun rr w g a s r hN => ?_⟩; obtain ⟨x, h1, h2⟩ := h w g a r hN; rw [h1]; exact ⟨x, i, g, H, rfl, .refl w g, s, h2, hk⟩
theorem Dd {w : World} {g : Gs} {a : Act} (r : RA w g a tm) : ∀ (l : List (Nat × Operand)), (∀ q, q ∈ l → opd a.tmps.size q.2 = true) → E4 w g (l.map fun q => (q.1, a.eval q.2)) (l.map fun q => (q.1, ev tm q.2))
  | [], _ => trivial
  | q :: l, h => ⟨rfl, r.ev (h q (by simp)), Dd r l (fun q' hq => h q' (List.mem_cons_of_mem _ hq))⟩
theorem N4 {o : Oper} {i : IV} {s : Prop} (hok : okO N o = true) (h : evP P tm o.op = some (s, i)) (hs : s) (w : World) (g : Gs) (a : Act) (r : RA w g a tm) (hN : a.tmps.size = N) :
    ∃ x, (execOp a.eval o).run P w = .ok (.value x) w ∧ R w g x i := by
 obtain ⟨dst, op, type, pos, after, guard⟩ := o; simp only [okO, Bool.and_eq_true, List.all_eq_true] at hok; obtain ⟨hok, _⟩ := hok
 ·subst hN; simp only at h hok; have val : ∀ {s : Sem Value} {v : Value}, s.run P w = .ok v w → (do pure (.value (← s)) : Sem Next).run P w = .ok (.value v) w := by
   intro s v hv; simp [hv]
  cases op with
  | move x =>
   simp only [evP, Option.some.injEq, Prod.mk.injEq] at h; obtain ⟨rfl, rfl⟩ := h; exact ⟨a.eval x, by simp [execOp], r.ev (hok x (by simp [Op.operands]))⟩
  | assign x =>
   simp only [evP, Option.some.injEq, Prod.mk.injEq] at h; obtain ⟨rfl, rfl⟩ := h; exact ⟨a.eval x, by simp [execOp], r.ev (hok x (by simp [Op.operands]))⟩
  | pick c x y =>
   simp only [evP] at h; have hc := r.ev (hok c (by simp [Op.operands])); split at h
   ·rename_i q hq; simp only [Option.some.injEq, Prod.mk.injEq] at h; obtain ⟨rfl, rfl⟩ := h; rw [hq] at hc; have hc' := hc.v_eq; refine ⟨if q = true then a.eval x else a.eval y, by simp [execOp, hc', asBool], ?_⟩; split
    ·exact r.ev (hok x (by simp [Op.operands]))
    ·exact r.ev (hok y (by simp [Op.operands]))
   ·cases h
  | binOp op t x y t' =>
   have h' : M4 P op t tm x y = some (s, i) := h; unfold M4 at h'; split at h'
   ·obtain ⟨v, h1, h2⟩ := HY (r.ev (hok x (by simp [Op.operands]))) h' x; exact ⟨v, val h1, h2⟩
   ·obtain ⟨v, h1, h2⟩ := M3 (r.ev (hok x (by simp [Op.operands]))) (r.ev (hok y (by simp [Op.operands]))) h' hs x y; exact ⟨v, val h1, h2⟩
  | unOp op t x =>
   have hx := r.ev (hok x (by simp [Op.operands])); simp only [evP, unP] at h; split at h
   ·rename_i b hb; simp only [Option.some.injEq, Prod.mk.injEq] at h; obtain ⟨rfl, rfl⟩ := h; rw [hb] at hx; exact ⟨.bool (!b), val (by simp [hx.v_eq, Op.unary]), .v _⟩
   ·rename_i k n hb; simp only [Option.some.injEq, Prod.mk.injEq] at h; obtain ⟨rfl, rfl⟩ := h; rw [hb] at hx; exact ⟨_, val (by simp only [hx.v_eq, Op.unary, Op.intArith]; rfl), .v _⟩
   ·cases h
  | build t parts =>
   have hp : E4 w g (parts.map fun q => (q.1, a.eval q.2)).toList (parts.toList.map fun q => (q.1, ev tm q.2)) := by
    rw [Array.toList_map]; refine Dd r _ fun q hq => hok _ ?_; simp only [Op.operands, List.toList_toArray, List.mem_map]; exact ⟨q, hq, rfl⟩
   obtain ⟨v, h1, h2⟩ := NF hp h hs; exact ⟨v, val h1, h2⟩
  | load t x =>
   obtain ⟨v, h1, h2⟩ := NA (r.ev (hok x (by simp [Op.operands]))) h hs; exact ⟨v, val h1, h2⟩
  | nilCheck x =>
   have hx := r.ev (hok x (by simp [Op.operands])); simp only [evP] at h; generalize ev tm x = ix at h hx; unfold ncP at h; split at h <;> simp only [Option.some.injEq, Prod.mk.injEq, reduceCtorEq] at h <;> obtain ⟨rfl, rfl⟩ := h
   ·obtain ⟨b, hb⟩ := hx.Gz; exact ⟨_, by simp [execOp, hb]; rfl, by rw [← hb]; exact hx⟩
   ·obtain ⟨b, hb⟩ := hx.K2; exact ⟨_, by simp [execOp, hb]; rfl, by rw [← hb]; exact hx⟩
   ·obtain ⟨b, off, hb⟩ := hx.HN; exact ⟨_, by simp [execOp, hb]; rfl, by rw [← hb]; exact hx⟩
   ·rename_i f p q; have ⟨xs, ys, hxa⟩ : ∃ xs ys, a.eval x = .func (.func f) xs ys := by
     generalize a.eval x = z at hx; cases hx with
     | fn _ xs ys => exact ⟨xs, ys, rfl⟩
    exact ⟨_, by simp [execOp, hxa]; rfl, by rw [← hxa]; exact hx⟩
   ·have := hx.v_eq; exact ⟨_, by simp [execOp, this]; try rfl, .v _⟩
   ·have := hx.v_eq; exact ⟨_, by simp [execOp, this]; try rfl, .v _⟩
  | convert s1 s2 x =>
   obtain ⟨v, h1, h2⟩ := NI (r.ev (hok x (by simp [Op.operands]))) h hs; exact ⟨v, val h1, h2⟩
  | makeInterface t x =>
   have hx := r.ev (hok x (by simp [Op.operands])); simp only [evP, mkP] at h; split at h
   ·cases h
   ·rename_i d hd hu; have hrun : (Instr.makeInterface t (a.eval x)).run P w = .ok (.iface t (a.eval x)) w := by
     cases d <;> first | (exact absurd rfl (hd _)) | simp [Instr.makeInterface, run_underlying hu]
    split at h
    ·rename_i y hy; simp only [Option.some.injEq, Prod.mk.injEq] at h; obtain ⟨rfl, rfl⟩ := h; rw [hy] at hx; rw [hx.v_eq] at hrun; exact ⟨_, val (by rw [hx.v_eq]; exact hrun), .v _⟩
    ·simp only [Option.some.injEq, Prod.mk.injEq] at h; obtain ⟨rfl, rfl⟩ := h; exact ⟨_, val hrun, .ifc _ _ _ hx⟩
   ·cases h
  | makeFunc f x y =>
   simp only [evP, Option.some.injEq, Prod.mk.injEq] at h; obtain ⟨rfl, rfl⟩ := h; refine ⟨.func f (x.map a.eval) (y.map a.eval), val (by simp [Instr.makeFunc]), .fn _ _ _ _ _ (by simp) (by simp) ?_ ?_⟩
   ·intro j z c h1 h2; simp only [Array.getElem?_map, Option.map_eq_some_iff] at h1; obtain ⟨q, hq, rfl⟩ := h1; simp only [List.getElem?_map, Array.getElem?_toList, hq, Option.map_some, Option.some.injEq] at h2; subst h2; exact r.ev (hok q (by simp only [Op.operands, Array.toList_append, List.mem_append, Array.mem_toList_iff]; exact .inl (Array.mem_of_getElem? hq)))
   ·intro j z c h1 h2; simp only [Array.getElem?_map, Option.map_eq_some_iff] at h1; obtain ⟨q, hq, rfl⟩ := h1; simp only [List.getElem?_map, Array.getElem?_toList, hq, Option.map_some, Option.some.injEq] at h2; subst h2; exact r.ev (hok q (by simp only [Op.operands, Array.toList_append, List.mem_append, Array.mem_toList_iff]; exact .inr (Array.mem_of_getElem? hq)))
  | slice t x lo hi mx =>
   have ro : ∀ (q : Option Operand), (∀ y, q = some y → opd a.tmps.size y = true) → RO w g (q.map a.eval) (q.map (ev tm)) := by
    intro q hq; cases q with
    | none => trivial
    | some y => exact r.ev (hq y rfl)
   obtain ⟨v, h1, h2⟩ := NG (r.ev (hok x (by simp [Op.operands]))) (ro lo (fun y e => hok y (by simp [Op.operands, e]))) (ro hi (fun y e => hok y (by simp [Op.operands, e]))) (ro mx (fun y e => hok y (by simp [Op.operands, e]))) h hs; exact ⟨v, val h1, h2⟩
  | fieldAddr t x f =>
   obtain ⟨v, h1, h2⟩ := Nz (r.ev (hok x (by simp [Op.operands]))) h hs; exact ⟨v, val h1, h2⟩
  | field t x f =>
   obtain ⟨v, h1, h2⟩ := NC (r.ev (hok x (by simp [Op.operands]))) h hs; exact ⟨v, val h1, h2⟩
  | indexAddr t x i =>
   obtain ⟨v, h1, h2⟩ := Ny (r.ev (hok x (by simp [Op.operands]))) (r.ev (hok i (by simp [Op.operands]))) h hs; exact ⟨v, val h1, h2⟩
  | index t x i =>
   obtain ⟨v, h1, h2⟩ := ND (r.ev (hok x (by simp [Op.operands]))) (r.ev (hok i (by simp [Op.operands]))) h hs; exact ⟨v, val h1, h2⟩
  | extract x n =>
   have hx := r.ev (hok x (by simp [Op.operands])); simp only [evP, exP] at h; split at h
   ·rename_i vs hv; split at h
    ·rename_i y hy; simp only [Option.some.injEq, Prod.mk.injEq] at h; obtain ⟨rfl, rfl⟩ := h; rw [hv] at hx; generalize hz : a.eval x = z at hx; cases hx with
     | tu xs _ hl hr =>
      have hn : n < xs.size := by
       have := (List.getElem?_eq_some_iff.1 hy).1; omega
      have hxn := Array.getElem?_eq_getElem hn; exact ⟨xs[n], val (by simp [hz, Instr.extract, hxn]), hr _ _ _ hxn hy⟩
    ·cases h
   ·cases h
  | call c =>
   obtain ⟨callee, args, ats⟩ := c; simp only [evP] at h; split at h
   ·split at h
    ·rename_i x t h1 h2; have hargs : args = #[x] := by rw [← Array.toArray_toList (xs := args), h1]
     have hats : ats = #[t] := by rw [← Array.toArray_toList (xs := ats), h2]
     subst hargs hats; obtain ⟨v, q1, q2⟩ := M0 (r.ev (hok x (by simp [Op.operands, Call.operands]))) h #[a.eval x] #[t] type rfl rfl; exact ⟨v, by simp [execOp, resolve, invoke, builtin, q1], q2⟩
    ·cases h
   ·cases h
  | _ => simp [evP] at h
theorem CF {o : Oper} {K : IV → A0 → Prop} {Qp : List PanicEntry → A0 → Prop} {i : IV} {s : Prop} (hok : okO N o = true) (h : evP P tm o.op = some (s, i)) (hs : s) (hk : K i H) : Aj P N o tm H K Qp := by
 refine Fv (i := i) ?_ (fun w g a r hN => N4 hok h hs w g a r hN) hk; intro c e; rw [e] at h; simp [evP] at h
end Go.Idl
namespace Go.Idl
open Go Go.RowKit
variable {P : Program}
theorem Bx.mono {w w' : World} {g g' : Gs} (m : AB w g w' g') {xs : Array Value} {cs : List IV} (h : Bx w g xs cs) : Bx w' g' xs cs :=
  ⟨h.1, fun j c hj => let ⟨x, h1, h2, h3⟩ := h.2 j c hj; ⟨x, h1, h2, h3.mono m⟩⟩
theorem Ct.mono {w w' : World} {g g' : Gs} (m : AB w g w' g') {x : Value} {o : HO} (hb : ∀ b, blk x = some b → w'.heap[b]? = w.heap[b]?) (h : Ct w g x o) : Ct w' g' x o := by
 induction o with
 | cells cs =>
  obtain ⟨b, xs, el, f, rfl, h2, h3, h4⟩ := h; exact ⟨b, xs, el, f, rfl, (hb b rfl).trans h2, h3, h4.mono m⟩
 | row sz es =>
  obtain ⟨a, cap, rfl, h1, h2, h3, h4, h5⟩ := h; refine ⟨a, cap, rfl, h1, h2, h3, h4, ?_⟩; rcases h5 with h5 | ⟨b, xs, el, f, rfl, h6, h7, h8, h9⟩
  ·exact .inl h5
  ·exact .inr ⟨b, xs, el, f, rfl, (hb b rfl).trans h6, h7, h8, h9.mono m⟩
 | obj o =>
  obtain ⟨b, rfl, h2, h3⟩ := h; exact ⟨b, rfl, (hb b rfl).trans h2, h3⟩
 | map es =>
  obtain ⟨b, ents, clock, rfl, h2, h3⟩ := h; exact ⟨b, ents, clock, rfl, (hb b rfl).trans h2, h3.imp fun x e _ hx => hx.mono m⟩
 | Dx bs c es =>
  obtain ⟨b, ents, rfl, h2, h3, h4⟩ := h; exact ⟨b, ents, rfl, (hb b rfl).trans h2, h3.imp fun x e _ hx => hx.mono m, h4⟩
 | it km since seen c =>
  obtain ⟨b, bm, rfl, h2, h3⟩ := h; exact ⟨b, bm, rfl, (hb b rfl).trans h2, h3.mono m⟩
 | ty t o ih => exact ⟨ih h.1, h.2.keep hb⟩
def A0.set (H : A0) (k : Nat) (o : HO) : A0 := { H with obj := fun i => if i = k then some o else H.obj i }
def A0.new (H : A0) (o : HO) : A0 := { next := H.next + 1, obj := fun i => if i = H.next then some o else H.obj i, sn := H.sn }
def A0.del (H : A0) (k : Nat) : A0 := { H with obj := fun i => if i = k then none else H.obj i }
def Gs.put (g : Gs) (k : Nat) (x : Value) (s : Sh) (n : Nat) : Gs :=
  { g with mu := fun i => if i = k then x else g.mu i, sh := fun i => if i = k then some s else g.sh i, nx := n }
theorem Sim.upd {w w' : World} {g : Gs} {H H' : A0} (s : Sim w g H) (k : Nat) (x : Value) (o' : HO)
    (hH : H'.obj = fun i => if i = k then some o' else H.obj i) (hn : H.next ≤ H'.next) (hk : k < H'.next)
    (size : w.heap.size ≤ w'.heap.size) (os : w'.os = w.os) (tape : w'.tape = w.tape) (output : w'.output = w.output)
    (same : ∀ b, b < w.heap.size → ((g.sh k).isSome = true ∧ blk (g.mu k) = some b) ∨ w'.heap[b]? = w.heap[b]?)
    (hx : ∀ b, blk x = some b → b < w'.heap.size ∧ (w.heap.size ≤ b ∨ ((g.sh k).isSome = true ∧ blk (g.mu k) = some b)))
    (hs : k = H.next ∨ (g.sh k = some .fx ∧ o'.sh = .fx ∧ x = g.mu k) ∨ (∃ n n', g.sh k = some (.row n) ∧ o'.sh = .row n' ∧ n ≤ n' ∧ (n = n' → x = g.mu k)))
    (ho : ∀ g', AB w g w' g' → g' = g.put k x o'.sh H'.next → Ct w' g' x o') (hsn : H'.sn = H.sn := by rfl) :
    Sim w' (g.put k x o'.sh H'.next) H' ∧ AB w g w' (g.put k x o'.sh H'.next) := by
 have hkl : k = H.next → (g.sh k) = none := by
  intro e; rw [s.sh, A0.sh]; cases hh : H.obj k with
  | none => rfl
  | some o => have := s.lt k (by rw [hh]; rfl); omega
 have hnamed : ∀ b, (g.put k x o'.sh H'.next).named b → b < w.heap.size → g.named b := by
  rintro b ⟨i, h1, h2⟩ hb
  simp only [Gs.put] at h1 h2; by_cases e : i = k
  ·simp only [e, if_true] at h2; rcases (hx b h2).2 with h | ⟨h3, h4⟩
   ·omega
   ·exact ⟨k, h3, h4⟩
  ·simp only [e, if_false] at h1 h2; exact ⟨i, h1, h2⟩
 have m : AB w g w' (g.put k x o'.sh H'.next) := by
  refine ⟨size, os, tape, output, ?_, ?_, rfl, ?_, ?_, ?_⟩
  ·intro b hb hnb; rcases same b hb with ⟨h1, h2⟩ | h
   ·exact absurd (hnb ⟨k, h1, h2⟩) (s.bk k b h1 h2).1
   ·exact h
  ·intro b hb how; rcases how with h | h
   ·exact .inl h
   ·exact .inr (hnamed b h hb)
  ·show g.nx ≤ H'.next; rw [s.nx]; exact hn
  ·intro i hi hfx; simp only [Gs.put] at hfx ⊢; by_cases e : i = k
   ·subst e; simp only [if_true] at hfx ⊢; rcases hs with h | ⟨h1, h2, h3⟩ | ⟨n, n', h1, h2, _⟩
    ·rw [s.nx] at hi; omega
    ·exact ⟨h1, h3⟩
    ·rw [h2] at hfx; cases hfx
   ·simp only [e, if_false] at hfx ⊢; exact ⟨hfx, trivial⟩
  ·intro i m' hi hr; simp only [Gs.put] at hr ⊢; by_cases e : i = k
   ·subst e; simp only [if_true] at hr ⊢; rcases hs with h | ⟨h1, h2, h3⟩ | ⟨n, n', h1, h2, h3, h4⟩
    ·rw [s.nx] at hi; omega
    ·rw [h2] at hr; cases hr
    ·rw [h2] at hr; cases hr; exact ⟨n, h1, h3, h4⟩
   ·simp only [e, if_false] at hr ⊢; exact ⟨m', hr, Nat.le_refl _, fun _ => trivial⟩
 have hsh : ∀ i, (g.put k x o'.sh H'.next).sh i = H'.sh i := by
  intro i; simp only [Gs.put, A0.sh, hH]; by_cases e : i = k
  ·simp [e]
  ·simp only [e, if_false]; exact s.sh i
 refine ⟨⟨rfl, hsh, ?_, ?_, ?_, ?_, ?_, fun p hp i hi => (s.snap p (by rw [← hsn]; exact hp) i hi).mono m⟩, m⟩
 ·intro i hi; rw [hH] at hi; by_cases e : i = k
  ·rw [e]; exact hk
  ·simp only [e, if_false] at hi; exact Nat.lt_of_lt_of_le (s.lt i hi) hn
 ·intro i b h1 h2; simp only [Gs.put] at h1 h2; by_cases e : i = k
  ·simp only [e, if_true] at h2; obtain ⟨h3, h4⟩ := hx b h2; refine ⟨?_, h3⟩; rcases h4 with h4 | ⟨h4, h5⟩
   ·intro ho'; have := s.old b ho'; omega
   ·exact (s.bk k b h4 h5).1
  ·simp only [e, if_false] at h1 h2; have := s.bk i b h1 h2; exact ⟨this.1, Nat.lt_of_lt_of_le this.2 size⟩
 ·intro i j b h1 h2 h3 h4; simp only [Gs.put] at h1 h2 h3 h4; by_cases e : i = k <;> by_cases e' : j = k
  ·rw [e, e']
  ·simp only [e, e', if_true, if_false] at h1 h2 h3 h4; rcases (hx b h3).2 with h | ⟨h5, h6⟩
   ·have := (s.bk j b h2 h4).2; omega
   ·rw [e]; exact s.inj k j b h5 h2 h6 h4
  ·simp only [e, e', if_true, if_false] at h1 h2 h3 h4; rcases (hx b h4).2 with h | ⟨h5, h6⟩
   ·have := (s.bk i b h1 h3).2; omega
   ·rw [e']; exact s.inj i k b h1 h5 h3 h6
  ·simp only [e, e', if_false] at h1 h2 h3 h4; exact s.inj i j b h1 h2 h3 h4
 ·intro i o hi; rw [hH] at hi; by_cases e : i = k
  ·simp only [e, if_true, Option.some.injEq] at hi; subst hi; have := ho _ m rfl; simp only [Gs.put, e, if_true] at this ⊢; exact this
  ·simp only [e, if_false] at hi; have hmu : (g.put k x o'.sh H'.next).mu i = g.mu i := by simp [Gs.put, e]
   rw [hmu]; refine (s.obj i o hi).mono m fun b hb => ?_; have hi' : (g.sh i).isSome = true := by rw [s.sh, A0.sh, hi]; rfl
   rcases same b (s.bk i b hi' hb).2 with ⟨h1, h2⟩ | h
   ·exact absurd (s.inj i k b hi' h1 hb h2) e
   ·exact h
 ·intro b hb; exact Nat.lt_of_lt_of_le (s.old b hb) size
theorem Sim.new {w w' : World} {g : Gs} {H : A0} (s : Sim w g H) (x : Value) (o' : HO)
    (size : w.heap.size ≤ w'.heap.size) (os : w'.os = w.os) (tape : w'.tape = w.tape) (output : w'.output = w.output)
    (same : ∀ b, b < w.heap.size → w'.heap[b]? = w.heap[b]?)
    (hx : ∀ b, blk x = some b → b < w'.heap.size ∧ w.heap.size ≤ b)
    (ho : ∀ g', AB w g w' g' → g' = g.put H.next x o'.sh (H.next + 1) → Ct w' g' x o') :
    Sim w' (g.put H.next x o'.sh (H.next + 1)) (H.new o') ∧ AB w g w' (g.put H.next x o'.sh (H.next + 1)) :=
  s.upd (H' := H.new o') H.next x o' rfl (Nat.le_succ _) (Nat.lt_succ_self _) size os tape output (fun b hb => .inr (same b hb)) (fun b hb => ⟨(hx b hb).1, .inl (hx b hb).2⟩) (.inl rfl) ho
theorem Gs.KS (g : Gs) (k : Nat) (s : Sh) (h : g.sh k = some s) : g.put k (g.mu k) s g.nx = g := by
 have e1 : (fun i => if i = k then g.mu k else g.mu i) = g.mu := by funext i; split <;> simp_all
 have e2 : (fun i => if i = k then some s else g.sh i) = g.sh := by funext i; split <;> simp_all
 unfold Gs.put; rw [e1, e2]
theorem Sim.put {w w' : World} {g : Gs} {H : A0} (s : Sim w g H) (k b : Nat) (o o' : HO) (hk : H.obj k = some o) (hsh : o'.sh = o.sh) (hb : blk (g.mu k) = some b)
    (size : w.heap.size = w'.heap.size) (os : w'.os = w.os) (tape : w'.tape = w.tape) (output : w'.output = w.output)
    (same : ∀ i, i ≠ b → w'.heap[i]? = w.heap[i]?) (ho : AB w g w' g → Ct w' g (g.mu k) o') :
    Sim w' g (H.set k o') ∧ AB w g w' g := by
 have hs : g.sh k = some o.sh := by rw [s.sh, A0.sh, hk]; rfl
 have hg : g.put k (g.mu k) o'.sh (H.set k o').next = g := by
  rw [hsh]; show g.put k (g.mu k) o.sh H.next = g; rw [← s.nx]; exact g.KS k _ hs
 have := s.upd (H' := H.set k o') (w' := w') k (g.mu k) o' rfl (Nat.le_refl _) (s.lt k (by rw [hk]; rfl)) (Nat.le_of_eq size) os tape output
  (fun i hi => by
    by_cases e : i = b
    · exact .inl ⟨by rw [hs]; rfl, by rw [e]; exact hb⟩
    · exact .inr (same i e))
  (fun i hi => by
    rw [hb] at hi
    cases hi
    exact ⟨by rw [← size]; exact (s.bk k b (by rw [hs]; rfl) hb).2, .inr ⟨by rw [hs]; rfl, hb⟩⟩)
  (.inr (by
    rw [hs, hsh]
    cases o.sh with
    | fx => exact .inl ⟨rfl, rfl, rfl⟩
    | row n => exact .inr ⟨n, n, rfl, rfl, Nat.le_refl _, fun _ => rfl⟩))
  (fun g' m e => by rw [hg] at e; subst e; exact ho m)
 rw [hg] at this; exact this
theorem Sim.same {w w' : World} {g : Gs} {H : A0} (s : Sim w g H) (hh : w'.heap = w.heap) (os : w'.os = w.os) (tape : w'.tape = w.tape) (output : w'.output = w.output) : Sim w' g H ∧ AB w g w' g := by
 have m : AB w g w' g := ⟨by rw [hh]; exact Nat.le_refl _, os, tape, output, fun _ _ _ => by rw [hh], fun _ _ h => h, rfl, Nat.le_refl _, fun _ _ h => ⟨h, rfl⟩, fun _ m' _ h => ⟨m', h, Nat.le_refl _, fun _ => rfl⟩⟩; exact ⟨⟨s.nx, s.sh, s.lt, fun k b h1 h2 => by rw [hh]; exact s.bk k b h1 h2, s.inj, fun k o h => (s.obj k o h).mono m fun _ _ => by rw [hh], fun b hb => by rw [hh]; exact s.old b hb, fun p hp i hi => (s.snap p hp i hi).mono m⟩, m⟩
theorem Sim.grow {w w' : World} {g : Gs} {H : A0} (s : Sim w g H) (size : w.heap.size ≤ w'.heap.size) (os : w'.os = w.os) (tape : w'.tape = w.tape) (output : w'.output = w.output)
    (same : ∀ b, b < w.heap.size → w'.heap[b]? = w.heap[b]?) : Sim w' g H ∧ AB w g w' g := by
 have m : AB w g w' g := ⟨size, os, tape, output, fun b hb _ => same b hb, fun _ _ h => h, rfl, Nat.le_refl _, fun _ _ h => ⟨h, rfl⟩, fun _ m' _ h => ⟨m', h, Nat.le_refl _, fun _ => rfl⟩⟩
 exact ⟨⟨s.nx, s.sh, s.lt, fun k b h1 h2 => ⟨(s.bk k b h1 h2).1, Nat.lt_of_lt_of_le (s.bk k b h1 h2).2 size⟩, s.inj,
   fun k o h => (s.obj k o h).mono m fun b hb => same b (s.bk k b (by rw [s.sh, A0.sh, h]; rfl) hb).2, fun b hb => Nat.lt_of_lt_of_le (s.old b hb) size, fun p hp i hi => (s.snap p hp i hi).mono m⟩, m⟩
theorem Sim.fresh {w : World} {g : Gs} {H : A0} (s : Sim w g H) {b : Nat} (h : w.heap.size ≤ b) : ¬ g.ow b := by
 rintro (h1 | h1)
 ·have := s.old b h1; omega
 ·have := s.On h1; omega
end Go.Idl
namespace Go.Idl
open Go Go.RowKit
variable {P : Program} {N : Nat} {tm : Tm} {H : A0}
theorem Bp (w : World) (b : Nat) (o : Obj) (hb : b < w.heap.size) (i : Nat) : (w.putObj b o).heap[i]? = if i = b then some o else w.heap[i]? := by
 by_cases e : i = b
 ·subst e; rw [if_pos rfl]; exact World.putObj_heap_same hb
 ·rw [if_neg e]; exact World.putObj_heap_other e
theorem BE {w : World} {b : Nat} {o : Obj} (h : w.heap[b]? = some o) : b < w.heap.size := (Array.getElem?_eq_some_iff.1 h).1
theorem AF {o : Oper} {K : IV → A0 → Prop} {Qp : List PanicEntry → A0 → Prop} (hnd : ∀ c, o.op ≠ .defer c)
    (h : ∀ (w : World) (g : Gs) (a : Act), Sim w g H → RA w g a tm → a.tmps.size = N → ∃ x w' g' H' i, ((execOp a.eval o).run P w = .ok (.value x) w' ∨ ((execOp a.eval o).run P w = .ok .skip w' ∧ x = undef)) ∧
      AB w g w' g' ∧ Sim w' g' H' ∧ R w' g' x i ∧ K i H') : Aj P N o tm H K Qp := by
 refine ⟨hnd, fun rr w g a s r hN => ?_⟩; obtain ⟨x, w', g', H', i, h1, h2, h3, h4, h5⟩ := h w g a s r hN; rcases h1 with h1 | ⟨h1, rfl⟩
 ·rw [h1]; exact ⟨x, i, g', H', rfl, h2, h3, h4, h5⟩
 ·rw [h1]; exact ⟨undef, i, g', H', rfl, h2, h3, h4, h5⟩
theorem HZ (t : TypeId) (v : Value) (w : World) : (newVar t v).run P w = .ok ⟨w.heap.size, 0, none⟩ (w.alloc (.cells v.cells t)) := by
 simp [newVar, newRow]
theorem AV (w : World) (o : Obj) (i : Nat) : (w.alloc o).heap[i]? = if i = w.heap.size then some o else w.heap[i]? := by
 show (w.heap.push o)[i]? = _; rw [Array.getElem?_push]
theorem C7 (n : Nat) : Hj n (0, 0) := fun i _ h => by simp at h
theorem Sim.NJ {w : World} {g : Gs} (s : Sim w g H) (xs : Array Value) (el : TypeId) (cs : List IV) (o : HO) (hoo : o = .cells cs ∨ o = .ty el (.cells cs)) (hl : xs.size = cs.length) (ho : ∀ (j : Nat) (y : Value), xs[j]? = some y → y.oneCell' = true)
    (hr : ∀ (j : Nat) (y : Value) (c : IV), xs[j]? = some y → cs[j]? = some c → R w g y c) :
    ∃ g', Sim (w.alloc (.cells xs el)) g' (H.new o) ∧ AB w g (w.alloc (.cells xs el)) g' ∧ R (w.alloc (.cells xs el)) g' (.pointer (some ⟨w.heap.size, 0, none⟩)) (.p H.next 0) := by
 have hb : (w.alloc (.cells xs el)).heap[w.heap.size]? = some (.cells xs el (0, 0)) := by rw [AV, if_pos rfl]
 have hobj : ∀ g', AB w g (w.alloc (.cells xs el)) g' → Ct (w.alloc (.cells xs el)) g' (.pointer (some ⟨w.heap.size, 0, none⟩)) (.cells cs) := fun g' m => ⟨_, xs, el, (0, 0), rfl, hb, C7 _, by omega, fun j c hj => by
     have hj' : j < xs.size := by rw [hl]; exact (List.getElem?_eq_some_iff.1 hj).1
     exact ⟨xs[j], Array.getElem?_eq_getElem hj', ho j _ (Array.getElem?_eq_getElem hj'), (hr j _ c (Array.getElem?_eq_getElem hj') hj).mono m⟩⟩
 have hfx : o.sh = .fx := by rcases hoo with rfl | rfl <;> rfl
 have := s.new (w' := w.alloc (.cells xs el)) (.pointer (some ⟨w.heap.size, 0, none⟩)) o (by simp) rfl rfl rfl (fun b hb => by rw [AV, if_neg (by omega)])
  (fun b hb => by simp only [blk, Option.some.injEq] at hb; subst hb; simp)
  (fun g' m _ => by
    rcases hoo with rfl | rfl
    · exact hobj g' m
    · exact ⟨hobj g' m, fun b hb' => by simp only [blk, Option.some.injEq] at hb'; subst hb'; exact ⟨_, hb, fun _ e => by cases e; exact hl⟩⟩)
 refine ⟨_, this.1, this.2, .p _ _ _ (by simp [Gs.put]) ⟨_, rfl⟩ fun sh hs _ => ?_⟩; exact ⟨w.heap.size, by simp [Gs.put], rfl⟩
theorem Sim.OA {w : World} {g : Gs} (s : Sim w g H) (xs : Array Value) (el : TypeId) (cs : List IV) (hl : xs.size = cs.length) (ho : ∀ (j : Nat) (y : Value), xs[j]? = some y → y.oneCell' = true)
    (hr : ∀ (j : Nat) (y : Value) (c : IV), xs[j]? = some y → cs[j]? = some c → R w g y c) :
    ∃ g', Sim (w.alloc (.cells xs el)) g' (H.new (.cells cs)) ∧ AB w g (w.alloc (.cells xs el)) g' ∧ R (w.alloc (.cells xs el)) g' (.pointer (some ⟨w.heap.size, 0, none⟩)) (.p H.next 0) := by
 have hb : (w.alloc (.cells xs el)).heap[w.heap.size]? = some (.cells xs el (0, 0)) := by rw [AV, if_pos rfl]
 have := s.new (w' := w.alloc (.cells xs el)) (.pointer (some ⟨w.heap.size, 0, none⟩)) (.cells cs) (by simp) rfl rfl rfl (fun b hb => by rw [AV, if_neg (by omega)])
  (fun b hb => by simp only [blk, Option.some.injEq] at hb; subst hb; simp)
  (fun g' m _ => ⟨_, xs, el, (0, 0), rfl, hb, C7 _, by omega, fun j c hj => by
    have hj' : j < xs.size := by rw [hl]; exact (List.getElem?_eq_some_iff.1 hj).1
    exact ⟨xs[j], Array.getElem?_eq_getElem hj', ho j _ (Array.getElem?_eq_getElem hj'), (hr j _ c (Array.getElem?_eq_getElem hj') hj).mono m⟩⟩)
 refine ⟨_, this.1, this.2, .p _ _ _ (by simp [Gs.put]) ⟨_, rfl⟩ fun sh hs _ => ?_⟩; exact ⟨w.heap.size, by simp [Gs.put], rfl⟩
def Jq (P : Program) (t : TypeId) : Bool :=
  match P.underlying t with
  | some (.struct fs) => match fs.toList with | [a, b] => decide (a.name = "addr" ∧ b.name = "buf") | _ => false
  | _ => false
def tyB (P : Program) (t : TypeId) (o : HO) : HO := if Jq P t = true then .ty t o else o
theorem KT {o : Oper} {K : IV → A0 → Prop} {Qp : List PanicEntry → A0 → Prop} {t : TypeId} {z : Value} (ho : o.op = .alloc t) (hz : zeroOf P t = some z) (hone : z.cells.toList.all (·.oneCell') = true)
    (hk : K (.p H.next 0) (H.new (tyB P t (.cells (z.cells.toList.map .v))))) : Aj P N o tm H K Qp := by
 obtain ⟨dst, op, type, pos, after, guard⟩ := o; simp only at ho; subst ho; refine AF (by simp) fun w g a s r hN => ?_
 obtain ⟨g', h1, h2, h3⟩ := s.NJ (z.cells) t (z.cells.toList.map .v) (tyB P t (.cells (z.cells.toList.map .v))) (by unfold tyB; split <;> simp) (by simp) (fun j y h1 => by
   rw [List.all_eq_true] at hone
   exact hone y (by rw [Array.mem_toList_iff]; exact Array.mem_of_getElem? h1)) (fun j y c h1 h2 => by
   simp only [List.getElem?_map, Array.getElem?_toList, h1, Option.map_some, Option.some.injEq] at h2
   subst h2
   exact .v _)
 refine ⟨_, _, g', _, _, .inl ?_, h2, h1, h3, hk⟩; simp [execOp, Instr.alloc, BT hz, HZ]
theorem NK {o : Oper} {K : IV → A0 → Prop} {Qp : List PanicEntry → A0 → Prop} {t : TypeId} {x : Operand} {cs : List IV} (ho : o.op = .box t x) (hok : okO N o = true) (hc : AD (ev tm x) = some cs)
    (hk : K (.p H.next 0) (H.new (.cells cs))) : Aj P N o tm H K Qp := by
 obtain ⟨dst, op, type, pos, after, guard⟩ := o; simp only at ho; subst ho; refine AF (by simp) fun w g a s r hN => ?_; subst hN; have hx := r.ev (x := x) (by simp [okO, Op.operands] at hok; exact hok.1); obtain ⟨c1, c1', c2⟩ := Cu hx hc; obtain ⟨g', h1, h2, h3⟩ := s.OA _ t cs c1 c1' c2; refine ⟨_, _, g', _, _, .inl ?_, h2, h1, h3, hk⟩; simp [execOp, Instr.box, HZ]
def ldH (P : Program) (t : TypeId) (cs : List IV) (off : Nat) : Option (Prop × IV) :=
  match P.underlying t with
  | some d => if K3 d = true then some (AI (0 < P.cellsOf t) ∧ AI (off + P.cellsOf t ≤ cs.length), .ag ((cs.drop off).take (P.cellsOf t))) else some (AI (off < cs.length), cs.getD off .any)
  | none => none
theorem EV {t : TypeId} {cs : List IV} {off b : Nat} {r : IV} {s : Prop} {w : World} {g : Gs} {xs : Array Value} {el : TypeId} {f : Nat × Nat} (hb : w.heap[b]? = some (.cells xs el f)) (hc : Bx w g xs cs)
    (h : ldH P t cs off = some (s, r)) (hs : s) : ∃ v, (Instr.loadAt t (.pointer (some ⟨b, off, none⟩))).run P w = .ok v w ∧ R w g v r := by
 have hcell : ∀ j, w.cell? ⟨b, j, none⟩ = xs[j]? := by intro j; simp [World.cell?, hb]
 unfold ldH at h; split at h
 ·rename_i d hu; split at h
  ·rename_i hd; simp only [Option.some.injEq, Prod.mk.injEq] at h; obtain ⟨rfl, rfl⟩ := h; obtain ⟨h1, h2⟩ := hs; have h2' : off + P.cellsOf t ≤ cs.length := h2; have hle := hc.1
   have hrun := run_loadCells (P := P) w ⟨b, off, none⟩ (P.cellsOf t) (fun j => xs.getD (off + j) undef) (fun j hj => by
     rw [addr_add, hcell]
     have hlt : off + j < xs.size := by omega
     simp [hlt])
   refine ⟨_, by simp [Instr.loadAt, Instr.sureAddr, loadVar, D8 hu, hd, Av h1, hrun]; rfl, .ag _ _ ?_ ?_ ?_⟩
   ·simp; omega
   ·intro j y hy; have hjl : j < P.cellsOf t := by
     have := (Array.getElem?_eq_some_iff.1 hy).1; simpa using this
    obtain ⟨x, q1, q2, _⟩ := hc.2 (off + j) _ (C6 .any (by omega)); simp [hjl, q1] at hy; subst hy; exact q2
   ·intro j y c hy hj; have hjl : j < P.cellsOf t := by
     by_cases e : j < P.cellsOf t
     ·exact e
     ·simp [List.getElem?_take, e] at hj
    simp only [List.getElem?_take, hjl, if_true, List.getElem?_drop] at hj; obtain ⟨x, q1, _, q2⟩ := hc.2 _ _ hj; simp [hjl, q1] at hy; subst hy; exact q2
  ·rename_i hd; simp only [Option.some.injEq, Prod.mk.injEq] at h; obtain ⟨rfl, rfl⟩ := h; have hs' : off < cs.length := hs; obtain ⟨x, q1, _, q2⟩ := hc.2 off _ (C6 .any hs'); have hd' : K3 d = false := by simpa using hd
   exact ⟨x, by simp [Instr.loadAt, Instr.sureAddr, loadVar, D8 hu, hd', hcell, q1], q2⟩
 ·cases h
theorem Sim.H_ {w : World} {g : Gs} (s : Sim w g H) {k off : Nat} {cs : List IV} (hk : H.obj k = some (.cells cs)) {x : Value} (hx : R w g x (.p k off)) :
    ∃ b xs el f, g.mu k = .pointer (some ⟨b, 0, none⟩) ∧ x = .pointer (some ⟨b, off, none⟩) ∧ w.heap[b]? = some (.cells xs el f) ∧ Hj xs.size f ∧ Bx w g xs cs := by
 obtain ⟨b, xs, el, f, h1, h2, h3, h4⟩ := s.obj k _ hk; obtain ⟨_, _, hq⟩ := hx.Jo; obtain ⟨b', q1, q2⟩ := hq .fx (by rw [s.sh, A0.sh, hk]; rfl) rfl; rw [h1] at q1; cases q1; exact ⟨b, xs, el, f, h1, q2, h2, h3, h4⟩
theorem Sim.M5 {w : World} {g : Gs} (s : Sim w g H) {k n off sz : Nat} {es : List (List IV)} (hk : H.obj k = some (.row sz es)) (hn : es.length = n) {x : Value} (hx : R w g x (.pr k n off)) :
    ∃ b xs el f cap, g.mu k = .slice (some ⟨b, 0, none⟩) n cap ∧ x = .pointer (some ⟨b, off, none⟩) ∧ w.heap[b]? = some (.cells xs el f) ∧ Hj xs.size f ∧ Bx w g xs es.flatten ∧ (∀ e, e ∈ es → e.length = sz) ∧
      es.length ≤ cap ∧ es.length ≤ D5 ∧ 0 < sz ∧ cap * sz ≤ xs.size := by
 obtain ⟨a, cap, h1, h2, h3, h4, h5, h6⟩ := s.obj k _ hk; have hsh : g.sh k = some (.row es.length) := by rw [s.sh, A0.sh, hk]; rfl
 have ⟨b', cap', q1, q2⟩ : ∃ b cap, g.mu k = .slice (some ⟨b, 0, none⟩) es.length cap ∧ x = .pointer (some ⟨b, off, none⟩) := by
  cases hx with
  | pr _ _ _ _ _ _ h => exact (h _ hsh).2 hn.symm
 rw [h1] at q1; cases q1; rcases h6 with ⟨h6, _⟩ | ⟨b, xs, el, f, e, h7, h8, h9, h10⟩
 ·cases h6
 ·cases e; subst hn; exact ⟨_, xs, el, f, _, h1, q2, h7, h8, h10, h4, h2, h3, h5, h9⟩
theorem Sim.OB {w : World} {g : Gs} (s : Sim w g H) {k : Nat} {t : TypeId} {o : HO} (hk : H.obj k = some (.ty t o)) : Sim w g (H.set k o) := by
 have hsh : ∀ i, (H.set k o).sh i = H.sh i := fun i => by
  simp only [A0.sh, A0.set]; split
  ·rename_i e; subst e; rw [hk]; rfl
  ·rfl
 refine ⟨s.nx, fun i => (s.sh i).trans (hsh i).symm, fun i hi => ?_, s.bk, s.inj, fun i o' ho => ?_, s.old, s.snap⟩
 ·refine s.lt i ?_; simp only [A0.set] at hi; split at hi
  ·rename_i e; subst e; rw [hk]; rfl
  ·exact hi
 ·simp only [A0.set] at ho; split at ho
  ·rename_i e; subst e; cases ho; exact (s.obj _ _ hk).1
  ·exact s.obj i o' ho
theorem Sim.RC {w : World} {g : Gs} (s : Sim w g H) {k off : Nat} {T : TypeId} {cs : List IV} (hk : H.obj k = some (.ty T (.cells cs))) {x : Value} (hx : R w g x (.p k off)) :
    ∃ b xs, g.mu k = .pointer (some ⟨b, 0, none⟩) ∧ x = .pointer (some ⟨b, off, none⟩) ∧ w.heap[b]? = some (.cells xs T (0, 0)) ∧ xs.size = cs.length ∧ Bx w g xs cs := by
 obtain ⟨⟨b, xs, el, f, h1, h2, h3, h4⟩, hp⟩ := s.obj k _ hk; obtain ⟨_, _, hq⟩ := hx.Jo; obtain ⟨b', q1, q2⟩ := hq .fx (by rw [s.sh, A0.sh, hk]; rfl) rfl; rw [h1] at q1; cases q1; obtain ⟨xs', h5, h6⟩ := hp b (by rw [h1]; rfl); rw [h2] at h5; cases h5; exact ⟨b, xs, h1, q2, h2, h6 _ rfl, h4⟩
def ldN (P : Program) (H : A0) (t : TypeId) (x : IV) : Option (Prop × IV) :=
  match x with
  | .p k off => match H.obj k with | some (.cells cs) => ldH P t cs off | some (.ty _ (.cells cs)) => ldH P t cs off | _ => none
  | .pr k n off =>
    match H.obj k with
    | some (.row _ es) => match ldH P t es.flatten off with | some (s, r) => some (AI (es.length = n) ∧ s, r) | none => none
    | some (.ty _ (.row _ es)) => match ldH P t es.flatten off with | some (s, r) => some (AI (es.length = n) ∧ s, r) | none => none
    | _ => none
  | _ => none
theorem Jr {t : TypeId} {x : Value} {i r : IV} {s : Prop} {w : World} {g : Gs} (sm : Sim w g H) (hx : R w g x i) (h : ldN P H t i = some (s, r)) (hs : s) :
    ∃ v, (Instr.loadAt t x).run P w = .ok v w ∧ R w g v r := by
 unfold ldN at h; split at h
 ·rename_i k off; split at h
  ·rename_i cs hk; obtain ⟨b, xs, el, f, _, rfl, hb, _, hc⟩ := sm.H_ hk hx; exact EV hb hc h hs
  ·rename_i hk; obtain ⟨b, xs, _, rfl, hb, _, hc⟩ := sm.RC hk hx; exact EV hb hc h hs
  ·cases h
 ·rename_i k n off; split at h
  ·rename_i sz es hk; split at h
   ·rename_i s' r' hl; simp only [Option.some.injEq, Prod.mk.injEq] at h; obtain ⟨rfl, rfl⟩ := h; obtain ⟨b, xs, el, f, cap, _, rfl, hb, _, hc, _⟩ := sm.M5 hk hs.1 hx; exact EV hb hc hl hs.2
   ·cases h
  ·rename_i tt sz es hk; split at h
   ·rename_i s' r' hl; simp only [Option.some.injEq, Prod.mk.injEq] at h; obtain ⟨rfl, rfl⟩ := h; obtain ⟨b, xs, el, f, cap, _, rfl, hb, _, hc, _⟩ := (sm.OB hk).M5 (sz := sz) (es := es) (by simp [A0.set]) hs.1 hx; exact EV hb hc hl hs.2
   ·cases h
  ·cases h
 ·cases h
theorem I1 {o : Oper} {K : IV → A0 → Prop} {Qp : List PanicEntry → A0 → Prop} {t : TypeId} {x : Operand} {s : Prop} {r : IV} (ho : o.op = .load t x) (hok : okO N o = true)
    (h : ldN P H t (ev tm x) = some (s, r)) (hs : s) (hk : K r H) : Aj P N o tm H K Qp := by
 obtain ⟨dst, op, type, pos, after, guard⟩ := o; simp only at ho; subst ho; refine AF (by simp) fun w g a sm ra hN => ?_; subst hN; have hx := ra.ev (x := x) (by simp [okO, Op.operands] at hok; exact hok.1); obtain ⟨v, h1, h2⟩ := Jr sm hx h hs; exact ⟨v, w, g, H, r, .inl (by simp [execOp, h1]), .refl w g, sm, h2, hk⟩
def GB (xs : Array Value) : List Value → Nat → Array Value
  | [], _ => xs
  | v :: vs, off => GB (xs.setIfInBounds off v) vs (off + 1)
theorem C2 : ∀ (vs : List Value) (xs : Array Value) (off : Nat), (GB xs vs off).size = xs.size
  | [], _, _ => rfl
  | v :: vs, xs, off => by rw [GB, C2 vs]; simp
theorem I2 : ∀ (vs : List Value) (xs : Array Value) (off j : Nat), off + vs.length ≤ xs.size → (GB xs vs off)[j]? = if off ≤ j ∧ j < off + vs.length then vs[j - off]? else xs[j]?
  | [], xs, off, j, _ => by rw [GB, if_neg (by simp only [List.length_nil]; omega)]
  | v :: vs, xs, off, j, h => by
    simp only [List.length_cons] at h
    rw [GB, I2 vs _ _ _ (by simp; omega)]
    by_cases h1 : off + 1 ≤ j ∧ j < off + 1 + vs.length
    · rw [if_pos h1, if_pos (by simp only [List.length_cons]; omega)]
      have : j - off = (j - (off + 1)) + 1 := by omega
      rw [this, List.getElem?_cons_succ]
    · rw [if_neg h1]
      by_cases h2 : j = off
      · subst h2
        rw [if_pos (by simp only [List.length_cons]; omega)]
        have hb : j < xs.size := by omega
        simp [hb]
      · rw [if_neg (by simp only [List.length_cons]; omega), Array.getElem?_setIfInBounds_ne (by omega)]
theorem Ho {w : World} {b : Nat} {xs : Array Value} {el : TypeId} {f : Nat × Nat} (hb : w.heap[b]? = some (.cells xs el f)) (off : Nat) (v : Value) :
    w.setCell ⟨b, off, none⟩ v = w.putObj b (.cells (xs.setIfInBounds off v) el f) := by
 have hlt := BE hb; have hbe : w.heap[b] = .cells xs el f := by
  have := Array.getElem?_eq_getElem hlt; rw [hb] at this; exact (Option.some.inj this).symm
 unfold World.setCell World.putObj; congr 1; apply Array.ext_getElem?; intro i; rw [Array.getElem?_modify, Array.getElem?_setIfInBounds]; by_cases e : b = i
 ·subst e; simp [hlt, hbe]
 ·simp [e]
theorem Ja (w : World) (b : Nat) (o o' : Obj) : (w.putObj b o).putObj b o' = w.putObj b o' := by
 simp [World.putObj]
theorem KU {w : World} {b : Nat} {o : Obj} (h : w.heap[b]? = some o) : w.putObj b o = w := by
 have hlt := BE h; unfold World.putObj; have : w.heap.setIfInBounds b o = w.heap := by
  apply Array.ext_getElem?; intro i; rw [Array.getElem?_setIfInBounds]; by_cases e : b = i
  ·subst e; rw [if_pos rfl, if_pos hlt, h]
  ·simp [e]
 rw [this]
theorem Ch {b off : Nat} {el : TypeId} {f : Nat × Nat} : ∀ (vs : List Value) (i : Nat) (xs : Array Value) (w : World), w.heap[b]? = some (.cells xs el f) → Hj xs.size f → off + i + vs.length ≤ xs.size →
    (∀ v, v ∈ vs → v.oneCell' = true) → (storeCells ⟨b, off, none⟩ vs i).run P w = .ok () (w.putObj b (.cells (GB xs vs (off + i)) el f))
  | [], i, xs, w, hb, _, _, _ => by simp [storeCells, GB, KU hb]
  | v :: vs, i, xs, w, hb, hf, hl, ho => by
    simp only [List.length_cons] at hl
    have hlt := BE hb
    have hcell : w.cell? ⟨b, off + i, none⟩ = some xs[off + i] := by
      have : off + i < xs.size := by omega
      simp [World.cell?, hb, this]
    have hfr : w.frozen? ⟨b, off + i, none⟩ = false := by
      have := hf (off + i) (by omega)
      obtain ⟨lo, hi⟩ := f
      simp only [World.frozen?, hb, Bool.and_eq_false_iff, decide_eq_false_iff_not]
      simp only at this
      omega
    have hst : (store (⟨b, off + i, none⟩ : Addr) v).run P w = .ok () (w.setCell ⟨b, off + i, none⟩ v) := by
      rw [run_store P w _ v .plain (ho v (by simp)), hcell]
      simp [hfr]
    have hb' : (w.setCell ⟨b, off + i, none⟩ v).heap[b]? = some (.cells (xs.setIfInBounds (off + i) v) el f) := by
      rw [Ho hb, Bp _ _ _ hlt, if_pos rfl]
    have ih := Ch (off := off) vs (i + 1) _ _ hb' (by simpa using hf) (by rw [Array.size_setIfInBounds]; omega) (fun v hv => ho v (List.mem_cons_of_mem _ hv))
    simp only [storeCells, Sem.run_bind, addr_add, hst, Result.andThen_ok, ih]
    rw [Ho hb, Ja]
    rfl
theorem Ev {t : TypeId} {b off : Nat} {x : Value} {xs : Array Value} {el : TypeId} {f : Nat × Nat} {w : World} (hb : w.heap[b]? = some (.cells xs el f)) (hf : Hj xs.size f) (hsz : x.cells.size = P.cellsOf t) (h0 : 0 < P.cellsOf t)
    (hl : off + x.cells.size ≤ xs.size) (ho : ∀ v, v ∈ x.cells.toList → v.oneCell' = true) :
    (Instr.storeAt t (.pointer (some ⟨b, off, none⟩)) x).run P w = .ok () (w.putObj b (.cells (GB xs x.cells.toList off) el f)) := by
 have := Ch (P := P) (b := b) (off := off) (el := el) (f := f) x.cells.toList 0 xs w hb hf (by simp; omega) ho; simp [Instr.storeAt, Instr.sureAddr, storeVar, Av h0, hsz, this]
theorem Bx.put {w w' : World} {g : Gs} (m : AB w g w' g) {xs : Array Value} {cs vc : List IV} {vs : List Value} {off : Nat} (h : Bx w g xs cs) (hl : off + vc.length ≤ cs.length) (hv : vs.length = vc.length) (ho : ∀ v, v ∈ vs → v.oneCell' = true)
    (hr : ∀ (j : Nat) (y : Value) (c : IV), vs[j]? = some y → vc[j]? = some c → R w g y c) : Bx w' g (GB xs vs off) (CV cs vc off) := by
 refine ⟨by rw [C2, DA _ _ _ hl]; exact h.1, fun j c hj => ?_⟩; rw [KQ _ _ _ _ hl] at hj; rw [I2 _ _ _ _ (by have := h.1; omega), hv]; split at hj
 ·rename_i hin; rw [if_pos hin]; have hjl := (List.getElem?_eq_some_iff.1 hj).1; have hjv : j - off < vs.length := by omega
  exact ⟨vs[j - off], List.getElem?_eq_getElem hjv, ho _ (List.getElem_mem hjv), (hr _ _ _ (List.getElem?_eq_getElem hjv) hj).mono m⟩
 ·rename_i hin; rw [if_neg hin]; obtain ⟨x, q1, q2, q3⟩ := h.2 j c hj; exact ⟨x, q1, q2, q3.mono m⟩
theorem Cr {x : Value} (h : ∀ (j : Nat) (y : Value), x.cells[j]? = some y → y.oneCell' = true) : ∀ v, v ∈ x.cells.toList → v.oneCell' = true := by
 intro v hv; obtain ⟨j, hj⟩ := List.getElem?_of_mem hv; exact h j v (by simpa using hj)
theorem KV {o : Oper} {K : IV → A0 → Prop} {Qp : List PanicEntry → A0 → Prop} {t : TypeId} {x y : Operand} {k off : Nat} {cs vc : List IV} (ho : o.op = .store t x y) (hok : okO N o = true)
    (hx : ev tm x = .p k off) (hk : H.obj k = some (.cells cs)) (hv : AD (ev tm y) = some vc) (h1 : vc.length = P.cellsOf t) (h0 : 0 < P.cellsOf t) (hl : off + vc.length ≤ cs.length)
    (hK : K (.v undef) (H.set k (.cells (CV cs vc off)))) : Aj P N o tm H K Qp := by
 obtain ⟨dst, op, type, pos, after, guard⟩ := o; simp only at ho; subst ho; refine AF (by simp) fun w g a s r hN => ?_; subst hN; simp [okO, Op.operands] at hok; have rx := r.ev (x := x) hok.1.1; have ry := r.ev (x := y) hok.1.2; rw [hx] at rx; obtain ⟨b, xs, el, f, hmu, hxe, hb, hf, hc⟩ := s.H_ hk rx; obtain ⟨v1, v1', v2⟩ := Cu ry hv; have hlt := BE hb; have hcl := hc.1; have hrun := Ev (P := P) (t := t) (off := off) (x := a.eval y) hb hf (by omega) h0 (by omega) (Cr v1'); have hp := s.put (w' := w.putObj b (.cells (GB xs (a.eval y).cells.toList off) el f)) k b (.cells cs) (.cells (CV cs vc off)) hk rfl (by rw [hmu]; rfl) (by simp) rfl rfl rfl
  (fun i hi => World.putObj_heap_other hi)
  (fun m => ⟨b, _, el, f, hmu, by rw [Bp _ _ _ hlt, if_pos rfl], by rw [C2]; exact hf, hc.put m hl (by simp; omega) (Cr v1') (fun j y c q1 q2 => v2 j y c (by simpa using q1) q2)⟩)
 refine ⟨undef, _, g, _, .v undef, .inr ⟨?_, rfl⟩, hp.2, hp.1, .v _, hK⟩; simp [execOp, hxe, hrun]
theorem K4 {o : Oper} {K : IV → A0 → Prop} {Qp : List PanicEntry → A0 → Prop} {t T : TypeId} {x y : Operand} {k off : Nat} {cs vc : List IV} (ho : o.op = .store t x y) (hok : okO N o = true)
    (hx : ev tm x = .p k off) (hk : H.obj k = some (.ty T (.cells cs))) (hv : AD (ev tm y) = some vc) (h1 : vc.length = P.cellsOf t) (h0 : 0 < P.cellsOf t) (hl : off + vc.length ≤ cs.length)
    (hK : K (.v undef) (H.set k (.ty T (.cells (CV cs vc off))))) : Aj P N o tm H K Qp := by
 obtain ⟨dst, op, type, pos, after, guard⟩ := o; simp only at ho; subst ho; refine AF (by simp) fun w g a s r hN => ?_; subst hN; simp [okO, Op.operands] at hok; have rx := r.ev (x := x) hok.1.1; have ry := r.ev (x := y) hok.1.2; rw [hx] at rx; obtain ⟨b, xs, hmu, hxe, hb, hsz, hc⟩ := s.RC hk rx; obtain ⟨v1, v1', v2⟩ := Cu ry hv; have hlt := BE hb; have hcl := hc.1; have hrun := Ev (P := P) (t := t) (off := off) (x := a.eval y) hb (C7 _) (by omega) h0 (by omega) (Cr v1'); have hp := s.put (w' := w.putObj b (.cells (GB xs (a.eval y).cells.toList off) T (0, 0))) k b (.ty T (.cells cs)) (.ty T (.cells (CV cs vc off))) hk rfl (by rw [hmu]; rfl) (by simp) rfl rfl rfl
  (fun i hi => World.putObj_heap_other hi)
  (fun m => ⟨⟨b, _, T, (0, 0), hmu, by rw [Bp _ _ _ hlt, if_pos rfl], by rw [C2]; exact C7 _, hc.put m hl (by simp; omega) (Cr v1') (fun j y c q1 q2 => v2 j y c (by simpa using q1) q2)⟩,
    fun b' hb' => by
      rw [hmu] at hb'
      simp only [blk, Option.some.injEq] at hb'
      subst hb'
      exact ⟨_, by rw [Bp _ _ _ hlt, if_pos rfl], fun cs' e => by cases e; rw [C2, hsz]; simp [CV]; omega⟩⟩)
 refine ⟨undef, _, g, _, .v undef, .inr ⟨?_, rfl⟩, hp.2, hp.1, .v _, hK⟩; simp [execOp, hxe, hrun]
def Cm (sz : Nat) (es : List (List IV)) (vc : List IV) (off : Nat) : List (List IV) := es.set (off / sz) (CV (es.getD (off / sz) []) vc (off % sz))
theorem CT {sz : Nat} {es : List (List IV)} {vc : List IV} {off : Nat} : (Cm sz es vc off).length = es.length := by simp [Cm]
theorem Hp {sz : Nat} {vc : List IV} (h0 : 0 < sz) : ∀ (es : List (List IV)) (off : Nat), (∀ e, e ∈ es → e.length = sz) → off % sz + vc.length ≤ sz → off < es.length * sz → (Cm sz es vc off).flatten = CV es.flatten vc off
  | [], off, _, _, h => by simp at h
  | e :: es, off, hl, hv, h => by
    have he := hl e (by simp)
    rcases Nat.lt_or_ge off sz with ho | ho
    · have h1 : off / sz = 0 := Nat.div_eq_of_lt ho
      have h2 : off % sz = off := Nat.mod_eq_of_lt ho
      rw [h2] at hv
      simp only [Cm, h1, h2, List.set_cons_zero, List.getD_cons_zero, List.flatten_cons, CV]
      rw [List.take_append_of_le_length (by omega), List.drop_append_of_le_length (by omega)]
      simp only [List.append_assoc]
    · obtain ⟨q, rfl⟩ : ∃ q, off = sz + q := ⟨off - sz, by omega⟩
      have h1 : (sz + q) / sz = q / sz + 1 := by rw [Nat.add_div_left _ h0]
      have h2 : (sz + q) % sz = q % sz := by rw [Nat.add_mod_left]
      rw [h2] at hv
      have ih := Hp h0 es q (fun e he => hl e (by simp [he])) hv (by simp only [List.length_cons, Nat.add_mul] at h; omega)
      simp only [Cm] at ih
      simp only [Cm, h1, h2, List.set_cons_succ, List.getD_cons_succ, List.flatten_cons]
      rw [ih]
      simp only [CV]
      have h3 : sz + q = e.length + q := by omega
      have h4 : sz + q + vc.length = e.length + (q + vc.length) := by omega
      rw [h4, h3, List.take_length_add_append, List.drop_length_add_append]
      simp only [List.append_assoc]
theorem F_ {sz : Nat} : ∀ (es : List (List IV)), (∀ e, e ∈ es → e.length = sz) → es.flatten.length = es.length * sz
  | [], _ => by simp
  | e :: es, h => by
    rw [List.flatten_cons, List.length_append, F_ es (fun e he => h e (by simp [he])), h e (by simp), List.length_cons, Nat.add_mul]
    omega
theorem K5 {o : Oper} {K : IV → A0 → Prop} {Qp : List PanicEntry → A0 → Prop} {t : TypeId} {x y : Operand} {k n off sz : Nat} {es : List (List IV)} {vc : List IV} (ho : o.op = .store t x y) (hok : okO N o = true)
    (hx : ev tm x = .pr k n off) (hk : H.obj k = some (.row sz es)) (hn : es.length = n) (hv : AD (ev tm y) = some vc) (h1 : vc.length = P.cellsOf t) (h0 : 0 < P.cellsOf t) (hl : off % sz + vc.length ≤ sz) (hi : off < es.length * sz)
    (hK : K (.v undef) (H.set k (.row sz (Cm sz es vc off)))) : Aj P N o tm H K Qp := by
 obtain ⟨dst, op, type, pos, after, guard⟩ := o; simp only at ho; subst ho; refine AF (by simp) fun w g a s r hN => ?_; subst hN; simp [okO, Op.operands] at hok; have rx := r.ev (x := x) hok.1.1; have ry := r.ev (x := y) hok.1.2; rw [hx] at rx; obtain ⟨b, xs, el, f, cap, hmu, hxe, hb, hf, hc, hall, hcap, hmax, hsz, hcs⟩ := s.M5 hk hn rx; obtain ⟨v1, v1', v2⟩ := Cu ry hv; have hlt := BE hb; have hcl := hc.1; have hfl := F_ es hall; have hoff : off + vc.length ≤ es.flatten.length := by
  have e1 := Nat.div_add_mod off sz; have e2 : off / sz < es.length := (Nat.div_lt_iff_lt_mul hsz).2 hi; have e3 : (off / sz + 1) * sz ≤ es.length * sz := Nat.mul_le_mul_right _ e2; rw [hfl]; rw [Nat.add_mul, Nat.mul_comm] at e3; omega
 have hrun := Ev (P := P) (t := t) (off := off) (x := a.eval y) hb hf (by omega) h0 (by omega) (Cr v1'); have hp := s.put (w' := w.putObj b (.cells (GB xs (a.eval y).cells.toList off) el f)) k b (.row sz es) (.row sz (Cm sz es vc off)) hk (by simp [HO.sh, CT]) (by rw [hmu]; rfl) (by simp) rfl rfl rfl
  (fun i hi => World.putObj_heap_other hi)
  (fun m => ⟨_, cap, by rw [CT, hn]; exact hmu, by rw [CT]; exact hcap, by rw [CT]; exact hmax, fun e he => by
    simp only [Cm] at he
    rcases List.mem_or_eq_of_mem_set he with q | q
    · exact hall e q
    · subst q
      have e2 : off / sz < es.length := (Nat.div_lt_iff_lt_mul hsz).2 hi
      have e4 : (es.getD (off / sz) []).length = sz := by
        rw [List.getD_eq_getElem?_getD, List.getElem?_eq_getElem e2]
        exact hall _ (List.getElem_mem _)
      rw [DA _ _ _ (by omega)]
      exact e4, hsz, .inr ⟨b, _, el, f, rfl, by rw [Bp _ _ _ hlt, if_pos rfl], by rw [C2]; exact hf, by rw [C2]; exact hcs, by
        rw [Hp hsz es off hall hl hi]
        exact hc.put m hoff (by simp; omega) (Cr v1') (fun j y c q1 q2 => v2 j y c (by simpa using q1) q2)⟩⟩)
 refine ⟨undef, _, g, _, .v undef, .inr ⟨?_, rfl⟩, hp.2, hp.1, .v _, hK⟩; simp [execOp, hxe, hrun]
end Go.Idl
namespace Go.Idl
open Go Go.RowKit
variable {P : Program} {N : Nat} {tm : Tm} {H : A0}
theorem DC {sz : Nat} (h0 : 0 < sz) : ∀ {es : List (List IV)}, (∀ e, e ∈ es → e.length = sz) → ∀ q : Nat, es.flatten[q]? = (es[q / sz]?).bind (·[q % sz]?)
  | [], _, q => by simp
  | e :: es, h, q => by
    have he : e.length = sz := h e (by simp)
    rw [List.flatten_cons]
    rcases Nat.lt_or_ge q sz with hq | hq
    · rw [List.getElem?_append_left (by omega), Nat.div_eq_of_lt hq, Nat.mod_eq_of_lt hq]
      rfl
    · rw [List.getElem?_append_right (by omega), he, DC h0 (fun e he => h e (List.mem_cons_of_mem _ he))]
      have h1 : q / sz = (q - sz) / sz + 1 := by
        rw [Nat.div_eq_sub_div h0 hq]
      have h2 : q % sz = (q - sz) % sz := by
        rw [Nat.mod_eq_sub_mod hq]
      rw [h1, h2, List.getElem?_cons_succ]
theorem CW {sz : Nat} : ∀ {es : List (List IV)}, (∀ e, e ∈ es → e.length = sz) → es.flatten.length = es.length * sz
  | [], _ => by simp
  | e :: es, h => by
    rw [List.flatten_cons, List.length_append, CW (fun e he => h e (List.mem_cons_of_mem _ he)), h e (by simp), List.length_cons, Nat.add_mul]
    omega
structure KW (P : Program) (w : World) (g : Gs) (sz : Nat) (x : Value) (es : List (List IV)) (news : Array Value) : Prop where
  len : ∀ w', w'.heap = w.heap → (Builtin.lenOf x).run P w' = .ok es.length w'
  cells : ∀ w', w'.heap = w.heap → (Builtin.firstCells sz es.length x).run P w' = .ok news w'
  all : ∀ e, e ∈ es → e.length = sz
  size : news.size = es.flatten.length
  one : ∀ v, v ∈ news.toList → v.oneCell' = true
  rel : ∀ (j : Nat) (y : Value) (c : IV), news[j]? = some y → es.flatten[j]? = some c → R w g y c
theorem I6 {w : World} {g : Gs} {sz : Nat} {a : Option Addr} {cap : Nat} : KW P w g sz (.slice a 0 cap) [] #[] where
  len := fun w' _ => by simp [Builtin.lenOf]
  cells := fun w' _ => by cases a <;> simp [Builtin.firstCells, loadCells, loadCellsFrom]
  all := by simp
  size := by simp
  one := by simp
  rel := by simp
theorem Qm {w : World} {g : Gs} {sz : Nat} {x : Value} {es : List (List IV)} (h0 : 0 < sz) (hx : R w g x (.sl sz es)) : ∃ news, KW P w g sz x es news := by
 rcases hx.Eu with ⟨rfl, a, cap, rfl⟩ | ⟨b, off, cap, cv, rfl, hb, hlt, hlen, hcap, hsz, hc, ho, hr⟩
 ·exact ⟨_, I6⟩
 ·have hfl := CW hsz; have hget : ∀ (q : Nat) (c : IV), es.flatten[q]? = some c → ∃ e, es[q / sz]? = some e ∧ e[q % sz]? = some c := by
   intro q c hq; rw [DC h0 hsz] at hq; cases he : es[q / sz]? with
   | none => simp [he] at hq
   | some e => exact ⟨e, rfl, by simpa [he] using hq⟩
  have hval : ∀ q, q < es.length * sz → ∃ c, es.flatten[q]? = some c := fun q hq => ⟨_, List.getElem?_eq_getElem (by rw [hfl]; exact hq)⟩; refine ⟨((List.range (es.length * sz)).map fun q => cv (q / sz) (q % sz)).toArray, ?_, ?_, hsz, by simp [hfl], ?_, ?_⟩
  ·intro w' _; simp [Builtin.lenOf]
  ·intro w' hw; simp only [Builtin.firstCells]; refine run_loadCells w' _ _ (fun q => cv (q / sz) (q % sz)) fun q hq => ?_; rw [addr_add]; have hcell : w'.cell? ⟨b, off + q, none⟩ = w.cell? ⟨b, off + q, none⟩ := by simp [World.cell?, hw]
   rw [hcell]; obtain ⟨c, hcq⟩ := hval q hq; obtain ⟨e, h1, h2⟩ := hget q c hcq; have := hc _ e _ c h1 h2; rw [← this]; congr 2; have := Nat.div_add_mod q sz; rw [Nat.mul_comm] at this; omega
  ·intro v hv; simp only [List.toList_toArray, List.mem_map, List.mem_range] at hv; obtain ⟨q, hq, rfl⟩ := hv; obtain ⟨c, hcq⟩ := hval q hq; obtain ⟨e, h1, h2⟩ := hget q c hcq; exact ho _ e _ c h1 h2
  ·intro q y c hy hcq; obtain ⟨e, h1, h2⟩ := hget q c hcq; have hq : q < es.length * sz := by rw [← hfl]; exact (List.getElem?_eq_some_iff.1 hcq).1
   simp [hq] at hy; subst hy; exact hr _ e _ c h1 h2
def byt (l : List UInt8) : List (List IV) := l.map fun b => [.v (.int .u8 b.toNat)]
theorem CG (l : List UInt8) : (byt l).length = l.length := by simp [byt]
theorem Qn (l : List UInt8) : ∀ e, e ∈ byt l → e.length = 1 := by
 intro e he; simp only [byt, List.mem_map] at he; obtain ⟨b, _, rfl⟩ := he; rfl
theorem Hq (l : List UInt8) : (byt l).flatten = l.map fun b => .v (.int .u8 b.toNat) := by
 induction l with
 | nil => rfl
 | cons b l ih => simp only [byt, List.map_cons, List.flatten_cons] at ih ⊢; rw [ih]; rfl
theorem OC {w : World} {g : Gs} (s : ByteArray) : ∃ news, KW P w g 1 (.string s) (byt (bytes s)) news := by
 refine ⟨(s.data.map fun b => .int .u8 b.toNat), ?_, ?_, Qn _, ?_, ?_, ?_⟩
 ·intro w' _; simp [Builtin.lenOf, CG, ← BJ]
 ·intro w' _; have : s.extract 0 (byt (bytes s)).length = s := by
   rw [CG, ← BJ]; exact ByteArray.extract_zero_size
  simp [Builtin.firstCells, this]
 ·rw [Hq]; simp [bytes]
 ·intro v hv; simp only [Array.toList_map, List.mem_map] at hv; obtain ⟨b, _, rfl⟩ := hv; rfl
 ·intro j y c hy hc; rw [Hq] at hc; simp only [Array.getElem?_map, Option.map_eq_some_iff] at hy; obtain ⟨b, hb, rfl⟩ := hy; have : (bytes s)[j]? = some b := by simpa [bytes] using hb
  simp only [List.getElem?_map, this, Option.map_some, Option.some.injEq] at hc; subst hc; exact .v _
theorem N5 {w : World} {g : Gs} {sz : Nat} {x : Value} {es : List (List IV)} {k n : Nat} (s : Sim w g H) (hk : H.obj k = some (.row sz es)) (hn : es.length = n) (hx : R w g x (.os k n)) :
    ∃ news, KW P w g sz x es news := by
 obtain ⟨a, cap, h1, h2, h3, h4, h5, h6⟩ := s.obj k _ hk; have hsh : g.sh k = some (.row es.length) := by rw [s.sh, A0.sh, hk]; rfl
 have hmu : x = g.mu k := by
  cases hx with
  | os _ _ _ _ h _ => exact (h _ hsh).2 hn.symm
 rw [hmu, h1]; rcases h6 with ⟨rfl, rfl⟩ | ⟨b, xs, el, f, rfl, h7, h8, h9, h10⟩
 ·have : es = [] := List.eq_nil_of_length_eq_zero (by omega); subst this; exact ⟨_, I6⟩
 ·have hfl := CW h4; have hle := h10.1; refine ⟨((List.range (es.length * sz)).map fun q => xs.getD q undef).toArray, ?_, ?_, h4, by simp [hfl], ?_, ?_⟩
  ·intro w' _; simp [Builtin.lenOf]
  ·intro w' hw; simp only [Builtin.firstCells]; refine run_loadCells w' _ _ (fun q => xs.getD q undef) fun q hq => ?_; rw [addr_add, Nat.zero_add]; have hlt : q < xs.size := by omega
   simp [World.cell?, hw, h7, hlt]
  ·intro v hv; simp only [List.toList_toArray, List.mem_map, List.mem_range] at hv; obtain ⟨q, hq, rfl⟩ := hv; obtain ⟨y, q1, q2, _⟩ := h10.2 q _ (List.getElem?_eq_getElem (by rw [hfl]; exact hq)); simp [q1, q2]
  ·intro q y c hy hcq; have hq : q < es.length * sz := by rw [← hfl]; exact (List.getElem?_eq_some_iff.1 hcq).1
   obtain ⟨z, q1, _, q3⟩ := h10.2 q c hcq; simp [hq, q1] at hy; subst hy; exact q3
def elI (P : Program) (t : TypeId) : Option (TypeId × Nat × Nat) :=
  match P.underlying t with
  | some (.slice e) =>
    match zeroOf P e with
    | some z => if z.cells.size = P.cellsOf e ∧ 0 < P.cellsOf e ∧ 0 < P.bytesOf e then some (e, P.cellsOf e, P.bytesOf e) else none
    | none => none
  | _ => none
theorem G0 {t e : TypeId} {sz by_ : Nat} (h : elI P t = some (e, sz, by_)) : ∃ i z, P.underlying t = some (.slice e) ∧ P.info? e = some i ∧ i.zero = some z ∧ z.cells.size = sz ∧ i.size = sz ∧ i.bytes = by_ ∧ 0 < sz ∧ 0 < by_ := by
 unfold elI at h; split at h
 ·rename_i e' hu; split at h
  ·rename_i z hz; split at h
   ·rename_i hc; simp only [Option.some.injEq, Prod.mk.injEq] at h; obtain ⟨rfl, rfl, rfl⟩ := h; unfold zeroOf at hz; cases hi : P.info? e' with
    | none => simp [hi] at hz
    | some i =>
     simp only [hi, Option.bind_some] at hz; have h1 : P.cellsOf e' = i.size := by simp [Program.cellsOf, hi]
     have h2 : P.bytesOf e' = i.bytes := by simp [Program.bytesOf, hi]
     exact ⟨i, z, hu, rfl, hz, hc.1, h1.symm, h2.symm, hc.2.1, hc.2.2⟩
   ·cases h
  ·cases h
 ·cases h
def DK (P : Program) (t : TypeId) : Bool :=
  match P.underlying t with
  | some (.int _) => false
  | some _ => true
  | none => false
theorem Hr {t : TypeId} (h : DK P t = true) : ∃ d, P.underlying t = some d ∧ (match d with | .int _ => true | _ => false) = false := by
 unfold DK at h; split at h
 ·cases h
 ·rename_i d hd hu; refine ⟨d, hu, ?_⟩; cases d <;> first | rfl | exact absurd rfl (hd _)
 ·cases h
theorem GC {t t' e : TypeId} {i : TypeInfo} (ht : P.underlying t = some (.slice e)) (hi : P.info? e = some i) (ht' : DK P t' = true) {base : Option Addr} {sLen sCap : Nat} {x : Value} {es : List (List IV)} {news : Array Value} {w : World} {g : Gs}
    (hs : KW P w g i.size x es news) (hroom : sLen + es.length ≤ sCap) (ty : TypeId) :
    (Builtin.append_ #[t, t'] ty #[.slice base sLen sCap, x]).run P w =
      (match base with
        | some a => (storeCells (a.add (sLen * i.size)) news.toList).run P w
        | none => .ok () w).andThen fun _ w' => .ok (.slice base (sLen + es.length) sCap) w' := by
  obtain ⟨d, hu, hd⟩ := Hr ht'
  have hl := hs.len w rfl
  have hc := hs.cells w rfl
  have hsz : (sizeOf e).run P w = .ok i.size w := by simp [sizeOf, typeInfo, hi]
  unfold Builtin.append_
  simp only [List.getElem?_toArray, List.getElem?_cons_zero, List.getElem?_cons_succ, Sem.run_bind, run_underlying ht, run_underlying hu, Result.andThen_ok, hsz, Sem.run_pure]
  split
  · simp at hd
  · simp only [Bool.false_eq_true, if_false, hl, hroom, if_true, Bool.not_false, hc, Result.andThen_ok]
    cases base <;> simp [hl, hroom, hc]
theorem GF {t t' e : TypeId} {i : TypeInfo} {z : Value} (ht : P.underlying t = some (.slice e)) (hi : P.info? e = some i) (hz : i.zero = some z) (ht' : DK P t' = true) {base : Option Addr} {sLen sCap : Nat} {x : Value} {es : List (List IV)} {news olds : Array Value} {w : World} {g : Gs}
    (hs : KW P w g i.size x es news) (hroom : sCap < sLen + es.length) (hold : (Builtin.firstCells i.size sLen (.slice base sLen sCap)).run P w.drew = .ok olds w.drew) (hfit : (sLen + es.length) * i.bytes ≤ 140737488355328) (hb : 0 < i.bytes) (ty : TypeId) :
    (Builtin.append_ #[t, t'] ty #[.slice base sLen sCap, x]).run P w =
      .ok (.slice (some ⟨w.heap.size, 0, none⟩) (sLen + es.length) (grownCap w (sLen + es.length) sCap e))
        (w.drew.alloc (.cells (olds ++ news ++ Builtin.zeroCells z.cells (grownCap w (sLen + es.length) sCap e - (sLen + es.length))) e)) := by
 obtain ⟨d, hu, hd⟩ := Hr ht'
 ·have hl := hs.len w rfl; have hc := hs.cells w.drew rfl; have hn : ¬ (sLen + es.length ≤ sCap) := by omega
  have hb0 : ¬ i.bytes = 0 := by omega
  have hfit' := growslice_fits (bytes := i.bytes) hroom hfit; have h48 : ¬ (281474976710656 < Builtin.nextslicecap (sLen + es.length) sCap * i.bytes) := by omega
  have hsz : (sizeOf e).run P w = .ok i.size w := by simp [sizeOf, typeInfo, hi]
  have hti : ∀ w', (typeInfo e).run P w' = .ok i w' := by simp [typeInfo, hi]
  have hzv : ∀ w', (zeroValue e).run P w' = .ok z w' := by simp [zeroValue, typeInfo, hi, hz]
  have h48' : ¬ (Builtin.nextslicecap (sLen + es.length) sCap * i.bytes > 2 ^ 48) := by omega
  unfold Builtin.append_; simp only [List.getElem?_toArray, List.getElem?_cons_zero, List.getElem?_cons_succ, Sem.run_bind, run_underlying ht, run_underlying hu, Result.andThen_ok, hsz, Sem.run_pure]; split
  ·simp at hd
  ·simp only [Bool.false_eq_true, if_false, hl, hn, Bool.not_false, if_true, hti, hb0, h48', false_or, and_false, Sem.run_pure, run_choose, Question.forced, Result.andThen_ok]; simp [hl, hn, hb0, h48, hold, hc, hti, hzv, newRow, grownCap, Question.forced]
theorem E6 {t t' e : TypeId} {sz by_ : Nat} (he : elI P t = some (e, sz, by_)) (ht' : DK P t' = true) {w : World} {g : Gs} {a : Option Addr} {cap : Nat} {es0 es : List (List IV)} {x : Value} {news : Array Value}
    (ho : Ct w g (.slice a es0.length cap) (.row sz es0)) (hs : KW P w g sz x es news) (hfit : (es0.length + es.length) * by_ ≤ 140737488355328) (ty : TypeId) :
    ∃ v' w', (Builtin.append_ #[t, t'] ty #[.slice a es0.length cap, x]).run P w = .ok v' w' ∧ w.heap.size ≤ w'.heap.size ∧ w'.os = w.os ∧ w'.tape = w.tape ∧ w'.output = w.output ∧
      (∀ b, b < w.heap.size → blk (.slice a es0.length cap) = some b ∨ w'.heap[b]? = w.heap[b]?) ∧
      (∀ b, blk v' = some b → b < w'.heap.size ∧ (w.heap.size ≤ b ∨ blk (.slice a es0.length cap) = some b)) ∧
      (es.length = 0 → v' = .slice a es0.length cap) ∧
      (∀ g', AB w g w' g' → Ct w' g' v' (.row sz (es0 ++ es))) ∧ (Pin w (.slice a es0.length cap) e (.row sz es0) → Pin w' v' e (.row sz (es0 ++ es))) := by
 obtain ⟨i, z, hu, hi, hz, hzs, hsz, hby, h0, hb0⟩ := G0 he; subst hsz; subst hby
 obtain ⟨a', cap', hv, h1, h2, h3, _, h5⟩ := ho; simp only [Value.slice.injEq, true_and] at hv; obtain ⟨rfl, rfl⟩ := hv; have hall : ∀ e, e ∈ es0 ++ es → e.length = i.size := by
  intro e he; rcases List.mem_append.1 he with h | h
  ·exact h3 e h
  ·exact hs.all e h
 have hfl0 := CW h3; have hfl := CW hs.all; have hmax : (es0 ++ es).length ≤ D5 := by
  rw [List.length_append]; unfold D5; have : es0.length + es.length ≤ (es0.length + es.length) * i.bytes := Nat.le_mul_of_pos_right _ hb0; omega
 by_cases hroom : es0.length + es.length ≤ cap
 ·have hrun := GC (P := P) hu hi ht' (base := a) hs hroom ty; rcases h5 with ⟨rfl, rfl⟩ | ⟨b, xs, el, f, rfl, h6, h7, h8, h9⟩
  ·have e0 : es0 = [] := List.eq_nil_of_length_eq_zero (by omega); have e1 : es = [] := List.eq_nil_of_length_eq_zero (by omega); subst e0 e1; refine ⟨_, w, hrun, Nat.le_refl _, rfl, rfl, rfl, fun _ _ => .inr rfl, fun b hb => by simp [blk] at hb, fun _ => rfl, fun g' m => ⟨none, 0, rfl, by simp, hmax, hall, h0, .inl ⟨rfl, rfl⟩⟩, fun _ b hb => by simp [blk] at hb⟩
  ·have hlt := BE h6; have hcl := h9.1; have hmul : (es0.length + es.length) * i.size ≤ cap * i.size := Nat.mul_le_mul_right _ hroom; rw [Nat.add_mul] at hmul; have hst := Ch (P := P) (b := b) (off := es0.length * i.size) (el := el) (f := f) news.toList 0 xs w h6 h7 (by simp [hs.size, hfl]; omega) hs.one; simp only [addr_add, Nat.zero_add, hst, Result.andThen_ok, Nat.add_zero] at hrun; refine ⟨_, _, hrun, by simp, rfl, rfl, rfl, fun i hi' => ?_, fun b' hb' => ?_, fun h => by rw [h]; rfl, fun g' m => ?_, fun hp b' hb' => ?_⟩
   rotate_left 3
   ·simp only [blk, Option.some.injEq] at hb'; subst hb'; obtain ⟨xs', hx', _⟩ := hp _ rfl; rw [h6] at hx'; cases hx'; exact ⟨_, by rw [Bp _ _ _ hlt, if_pos rfl], fun _ e => by cases e⟩
   ·by_cases e : i = b
    ·exact .inl (by rw [e]; rfl)
    ·exact .inr (World.putObj_heap_other e)
   ·simp only [blk, Option.some.injEq] at hb'; subst hb'; exact ⟨by simpa using hlt, .inr rfl⟩
   ·refine ⟨_, cap, by rw [List.length_append], by rw [List.length_append]; exact hroom, hmax, hall, h0, .inr ⟨b, _, el, f, rfl, by rw [Bp _ _ _ hlt, if_pos rfl], by rw [C2]; exact h7, by rw [C2]; exact h8, ?_, ?_⟩⟩
    ·rw [C2, List.flatten_append, List.length_append, hfl0, hfl]; omega
    ·intro j c hj; rw [I2 _ _ _ _ (by simp [hs.size, hfl]; omega)]; simp only [Array.length_toList, hs.size, hfl]; rw [List.flatten_append] at hj; rcases Nat.lt_or_ge j (es0.length * i.size) with hjl | hjl
     ·rw [if_neg (by omega)]; rw [List.getElem?_append_left (by omega)] at hj; obtain ⟨y, q1, q2, q3⟩ := h9.2 j c hj; exact ⟨y, q1, q2, q3.mono m⟩
     ·rw [List.getElem?_append_right (by omega), hfl0] at hj; have hjn := (List.getElem?_eq_some_iff.1 hj).1; rw [hfl] at hjn; rw [if_pos (by omega)]; have hlt' : j - es0.length * i.size < news.size := by rw [hs.size, hfl]; exact hjn
      refine ⟨news[j - es0.length * i.size], by rw [Array.getElem?_toList]; exact Array.getElem?_eq_getElem hlt', hs.one _ (by rw [Array.mem_toList_iff]; exact Array.getElem_mem hlt'), (hs.rel _ _ _ (Array.getElem?_eq_getElem hlt') hj).mono m⟩
 ·have hnz : es.length ≠ 0 := by omega
  have ⟨olds, hold, ho1, ho2, ho3⟩ : ∃ olds : Array Value, (Builtin.firstCells i.size es0.length (.slice a es0.length cap)).run P w.drew = .ok olds w.drew ∧ olds.size = es0.flatten.length ∧ (∀ v, v ∈ olds.toList → v.oneCell' = true) ∧
   ∀ (j : Nat) (y : Value) (c : IV), olds[j]? = some y → es0.flatten[j]? = some c → R w g y c := by
   rcases h5 with ⟨rfl, rfl⟩ | ⟨b, xs, el, f, rfl, h6, h7, h8, h9⟩
   ·have e0 : es0 = [] := List.eq_nil_of_length_eq_zero (by omega); subst e0; exact ⟨#[], by simp [Builtin.firstCells], by simp, by simp, by simp⟩
   ·have hle := h9.1; refine ⟨((List.range (es0.length * i.size)).map fun q => xs.getD q undef).toArray, ?_, by simp [hfl0], ?_, ?_⟩
    ·simp only [Builtin.firstCells]; refine run_loadCells w.drew _ _ (fun q => xs.getD q undef) fun q hq => ?_; rw [addr_add, Nat.zero_add]; have hlt : q < xs.size := by omega
     simp [World.cell?, h6, hlt, World.drew, -World.drew_eq]
    ·intro v hv; simp only [List.toList_toArray, List.mem_map, List.mem_range] at hv; obtain ⟨q, hq, rfl⟩ := hv; obtain ⟨y, q1, q2, _⟩ := h9.2 q _ (List.getElem?_eq_getElem (by rw [hfl0]; exact hq)); simp [q1, q2]
    ·intro q y c hy hcq; have hq : q < es0.length * i.size := by rw [← hfl0]; exact (List.getElem?_eq_some_iff.1 hcq).1
     obtain ⟨z', q1, _, q3⟩ := h9.2 q c hcq; simp [hq, q1] at hy; subst hy; exact q3
  have hge := grownCap_ge w (es0.length + es.length) cap e
  refine ⟨_, _, GF (P := P) hu hi hz ht' hs (by omega) hold hfit hb0 ty, by simp, rfl, rfl, rfl, fun b hb => .inr (by rw [AV, if_neg (by simp; omega)]; rfl), fun b hb => ?_, fun h => absurd h hnz, fun g' m => ?_, fun _ b' hb' => ⟨_, by
    simp only [blk, Option.some.injEq] at hb'
    subst hb'
    rw [AV, if_pos (by simp)], fun _ e => by cases e⟩⟩
  ·simp only [blk, Option.some.injEq] at hb; subst hb; exact ⟨by simp, .inl (Nat.le_refl _)⟩
  ·refine ⟨_, _, by rw [List.length_append], by rw [List.length_append]; exact hge, hmax, hall, h0, .inr ⟨w.heap.size, _, e, (0, 0), rfl, by rw [AV, if_pos (by simp)], C7 _, ?_, ?_, ?_⟩⟩
   ·simp only [Array.size_append, size_zeroCells, hzs, ho1, hs.size, hfl0, hfl, ← Nat.add_mul]; apply Nat.mul_le_mul_right; omega
   ·rw [List.flatten_append, List.length_append]; simp only [Array.size_append, ho1, hs.size]; omega
   ·intro j c hj; rw [List.flatten_append] at hj; have hjl : j < es0.flatten.length + es.flatten.length := by
     have := (List.getElem?_eq_some_iff.1 hj).1
     rwa [List.length_append] at this
    rw [Array.getElem?_append_left (by rw [Array.size_append, ho1, hs.size]; exact hjl)]; rcases Nat.lt_or_ge j es0.flatten.length with h | h
    ·rw [List.getElem?_append_left h] at hj; have hlt : j < olds.size := by rw [ho1]; exact h
     rw [Array.getElem?_append_left hlt]; exact ⟨olds[j], Array.getElem?_eq_getElem hlt, ho2 _ (by rw [Array.mem_toList_iff]; exact Array.getElem_mem hlt), (ho3 _ _ _ (Array.getElem?_eq_getElem hlt) hj).mono m⟩
    ·rw [List.getElem?_append_right h] at hj; have hlt : j - olds.size < news.size := by rw [hs.size, ho1]; omega
     rw [Array.getElem?_append_right (by omega)]; refine ⟨news[j - olds.size], Array.getElem?_eq_getElem hlt, hs.one _ (by rw [Array.mem_toList_iff]; exact Array.getElem_mem hlt), (hs.rel _ _ _ (Array.getElem?_eq_getElem hlt) (by rw [ho1]; exact hj)).mono m⟩
end Go.Idl
namespace Go.Idl
open Go Go.RowKit
variable {P : Program} {N : Nat} {tm : Tm} {H : A0}
def M6 (H : A0) (sz : Nat) (y : IV) : Option (Prop × List (List IV)) :=
  match y with
  | .sl sz' es => if sz' = sz then some (True, es) else none
  | .v (.slice none 0 0) => some (True, [])
  | .v (.string s) => if sz = 1 then some (True, byt (bytes s)) else none
  | .os k n => match H.obj k with | some (.row sz' es) => if sz' = sz then some (AI (es.length = n), es) else none | some (.ty _ (.row sz' es)) => if sz' = sz then some (AI (es.length = n), es) else none | _ => none
  | _ => none
theorem E7 {w : World} {g : Gs} {sz : Nat} {x : Value} {y : IV} {s : Prop} {es : List (List IV)} (h0 : 0 < sz) (sm : Sim w g H) (hx : R w g x y) (h : M6 H sz y = some (s, es)) (hs : s) : ∃ news, KW P w g sz x es news := by
 unfold M6 at h; split at h
 ·split at h
  ·rename_i hz; subst hz; simp only [Option.some.injEq, Prod.mk.injEq] at h; obtain ⟨_, rfl⟩ := h; exact Qm h0 hx
  ·cases h
 ·simp only [Option.some.injEq, Prod.mk.injEq] at h; obtain ⟨_, rfl⟩ := h; rw [hx.v_eq]; exact ⟨_, I6⟩
 ·split at h
  ·rename_i hz; subst hz; simp only [Option.some.injEq, Prod.mk.injEq] at h; obtain ⟨_, rfl⟩ := h; rw [hx.v_eq]; exact OC _
  ·cases h
 ·split at h
  ·rename_i hk; split at h
   ·rename_i hz; subst hz; simp only [Option.some.injEq, Prod.mk.injEq] at h; obtain ⟨rfl, rfl⟩ := h; exact N5 sm hk hs hx
   ·cases h
  ·rename_i hk; split at h
   ·rename_i hz; subst hz; simp only [Option.some.injEq, Prod.mk.injEq] at h; obtain ⟨rfl, rfl⟩ := h; exact N5 (sm.OB hk) (by simp [A0.set]) hs hx
   ·cases h
  ·cases h
 ·cases h
def tyR (P : Program) (e : TypeId) (o : HO) : HO :=
  match P.underlying e with
  | some (.int .u8) => .ty e o
  | _ => o
def apU (P : Program) (H : A0) (t t' : TypeId) (x y : IV) : Option (Prop × IV × A0) :=
  match elI P t, DK P t' with
  | some (_, sz, by_), true =>
    match M6 H sz y with
    | some (s, es) =>
      match x with
      | .v (.slice none 0 0) => some (AI (es.length * by_ ≤ 140737488355328) ∧ s, .os H.next es.length, H.new (.row sz es))
      | .os k n =>
        match H.obj k with
        | some (.row sz' es0) => if sz' = sz then some (AI (es0.length = n) ∧ AI ((es0.length + es.length) * by_ ≤ 140737488355328) ∧ s, .os k (es0.length + es.length), H.set k (.row sz (es0 ++ es))) else none
        | _ => none
      | _ => none
    | none => none
  | _, _ => none
def apI (P : Program) (H : A0) (t t' : TypeId) (x y : IV) : Option (Prop × IV × A0) :=
  match elI P t, DK P t' with
  | some (e, sz, by_), true =>
    match M6 H sz y with
    | some (s, es) =>
      match x with
      | .v (.slice none 0 0) => some (AI (es.length * by_ ≤ 140737488355328) ∧ s, .os H.next es.length, H.new (tyR P e (.row sz es)))
      | .os k n =>
        match H.obj k with
        | some (.row sz' es0) => if sz' = sz then some (AI (es0.length = n) ∧ AI ((es0.length + es.length) * by_ ≤ 140737488355328) ∧ s, .os k (es0.length + es.length), H.set k (.row sz (es0 ++ es))) else none
        | some (.ty e0 (.row sz' es0)) => if sz' = sz ∧ e0 = e then some (AI (es0.length = n) ∧ AI ((es0.length + es.length) * by_ ≤ 140737488355328) ∧ s, .os k (es0.length + es.length), H.set k (.ty e0 (.row sz (es0 ++ es)))) else none
        | _ => none
      | _ => none
    | none => none
  | _, _ => none
theorem Cc {w' : World} {g : Gs} {k n : Nat} {v : Value} {nx : Nat} (hk : k < nx) (hv : ∃ a cap, v = .slice a n cap) : R w' (g.put k v (.row n) nx) v (.os k n) := by
 refine .os k n v hk (fun m hm => ?_) hv; simp only [Gs.put, if_true, Option.some.injEq, Sh.row.injEq] at hm; subst hm; exact ⟨Nat.le_refl _, fun _ => by simp [Gs.put]⟩
theorem Ia {o : Oper} {K : IV → A0 → Prop} {Qp : List PanicEntry → A0 → Prop} {t t' e : TypeId} {sz by_ : Nat} {x y : Operand} {es : List (List IV)} {s : Prop} (ho : o.op = .call { callee := .builtin .append, args := #[x, y], argTypes := #[t, t'] }) (hok : okO N o = true)
    (he : elI P t = some (e, sz, by_)) (hni : DK P t' = true) (hx : ev tm x = .v (.slice none 0 0)) (hy : M6 H sz (ev tm y) = some (s, es)) (hs : s) (hfit : es.length * by_ ≤ 140737488355328)
    (hK : K (.os H.next es.length) (H.new (.ty e (.row sz es)))) : Aj P N o tm H K Qp := by
 obtain ⟨dst, op, type, pos, after, guard⟩ := o; simp only at ho; subst ho; refine AF (by simp) fun w g a sm ra hN => ?_; subst hN; simp [okO, Op.operands, Call.operands] at hok; have rx := ra.ev (x := x) hok.1.1; have ry := ra.ev (x := y) hok.1.2; obtain ⟨i, z, hu, hi, hz, hzs, hsz, hby, h0, hb0⟩ := G0 he; obtain ⟨news, hn⟩ := E7 (P := P) h0 sm ry hy hs; rw [hx] at rx; have hxe := rx.v_eq; have hoR : Ct w g (.slice none ([] : List (List IV)).length 0) (.row sz []) := ⟨none, 0, rfl, by simp, by simp, by simp, h0, .inl ⟨rfl, rfl⟩⟩; obtain ⟨v', w', q1, q2, q3, q4, q5, q6, q7, q8, q9, q10⟩ := E6 he hni hoR hn (by simpa using hfit) type; have hpin := q10 (fun b hb => by simp [blk] at hb); have hup := sm.upd (w' := w') (H' := H.new (.ty e (.row sz es))) H.next v' (.ty e (.row sz es)) rfl (Nat.le_succ _) (Nat.lt_succ_self _) q2 q3 q4 q5
  (fun b hb => by rcases q6 b hb with h | h; exact absurd h (by simp [blk]); exact .inr h)
  (fun b hb => ⟨(q7 b hb).1, by rcases (q7 b hb).2 with h | h; exact .inl h; exact absurd h (by simp [blk])⟩) (.inl rfl)
  (fun g' m _ => ⟨by simpa using q9 g' m, by simpa using hpin⟩)
 obtain ⟨aa, cap, hv, _⟩ := q9 _ hup.2; simp only [List.nil_append] at hv; refine ⟨v', w', _, _, _, .inl ?_, hup.2, hup.1, Cc (Nat.lt_succ_self _) ⟨aa, cap, hv⟩, hK⟩; have q1' : (Builtin.append_ #[t, t'] type #[a.eval x, a.eval y]).run P w = .ok v' w' := by rw [hxe]; exact q1
 simp [execOp, resolve, invoke, builtin, q1']
theorem Jb {o : Oper} {K : IV → A0 → Prop} {Qp : List PanicEntry → A0 → Prop} {t t' e : TypeId} {sz by_ k n : Nat} {x y : Operand} {es0 es : List (List IV)} {s : Prop} (ho : o.op = .call { callee := .builtin .append, args := #[x, y], argTypes := #[t, t'] }) (hok : okO N o = true)
    (he : elI P t = some (e, sz, by_)) (hni : DK P t' = true) (hx : ev tm x = .os k n) (hk : H.obj k = some (.ty e (.row sz es0))) (hl : es0.length = n) (hy : M6 H sz (ev tm y) = some (s, es)) (hs : s) (hfit : (es0.length + es.length) * by_ ≤ 140737488355328)
    (hK : K (.os k (es0.length + es.length)) (H.set k (.ty e (.row sz (es0 ++ es))))) : Aj P N o tm H K Qp := by
 obtain ⟨dst, op, type, pos, after, guard⟩ := o; simp only at ho; subst ho; refine AF (by simp) fun w g a sm ra hN => ?_; subst hN; simp [okO, Op.operands, Call.operands] at hok; have rx := ra.ev (x := x) hok.1.1; have ry := ra.ev (x := y) hok.1.2; obtain ⟨i, z, hu, hi, hz, hzs, hsz, hby, h0, hb0⟩ := G0 he; obtain ⟨news, hn⟩ := E7 (P := P) h0 sm ry hy hs; rw [hx] at rx; have hsh : g.sh k = some (.row es0.length) := by rw [sm.sh, A0.sh, hk]; rfl
 have hmu : a.eval x = g.mu k := by
  generalize a.eval x = z at rx; cases rx with
  | os _ _ _ _ h _ => exact (h _ hsh).2 hl.symm
 obtain ⟨hoR, hpin0⟩ := sm.obj k _ hk; obtain ⟨aa, cap, hmv, _⟩ := id hoR; rw [hmv] at hoR hpin0; obtain ⟨v', w', q1, q2, q3, q4, q5, q6, q7, q8, q9, q10⟩ := E6 he hni hoR hn hfit type; have hpin := q10 hpin0; rw [← hmv] at q6 q7 q8; have hlive : (g.sh k).isSome = true := by rw [hsh]; rfl
 have hup := sm.upd (w' := w') (H' := H.set k (.ty e (.row sz (es0 ++ es)))) k v' (.ty e (.row sz (es0 ++ es))) rfl (Nat.le_refl _) (sm.lt k (by rw [hk]; rfl)) q2 q3 q4 q5
  (fun b hb => by rcases q6 b hb with h | h; exact .inl ⟨hlive, h⟩; exact .inr h)
  (fun b hb => ⟨(q7 b hb).1, by rcases (q7 b hb).2 with h | h; exact .inl h; exact .inr ⟨hlive, h⟩⟩)
  (.inr (.inr ⟨es0.length, _, hsh, rfl, by simp, fun e => q8 (by simpa using e)⟩))
  (fun g' m _ => ⟨q9 g' m, hpin⟩)
 obtain ⟨a2, cap2, hv, _⟩ := q9 _ hup.2; have q1' : (Builtin.append_ #[t, t'] type #[a.eval x, a.eval y]).run P w = .ok v' w' := by rw [hmu, hmv]; exact q1
 refine ⟨v', w', _, _, _, .inl (by simp [execOp, resolve, invoke, builtin, q1']), hup.2, hup.1, ?_, hK⟩; have := Cc (w' := w') (g := g) (k := k) (nx := (H.set k (.ty e (.row sz (es0 ++ es)))).next) (sm.lt k (by rw [hk]; rfl)) ⟨a2, cap2, hv⟩; rw [List.length_append] at this; simpa [HO.sh] using this
theorem Fk {o : Oper} {K : IV → A0 → Prop} {Qp : List PanicEntry → A0 → Prop} {t t' : TypeId} {x y : Operand} {s : Prop} {r : IV} {H' : A0} (ho : o.op = .call { callee := .builtin .append, args := #[x, y], argTypes := #[t, t'] }) (hok : okO N o = true)
    (h : apU P H t t' (ev tm x) (ev tm y) = some (s, r, H')) (hs : s) (hK : K r H') : Aj P N o tm H K Qp := by
 obtain ⟨dst, op, type, pos, after, guard⟩ := o; simp only at ho; subst ho; refine AF (by simp) fun w g a sm ra hN => ?_; subst hN; simp [okO, Op.operands, Call.operands] at hok; have rx := ra.ev (x := x) hok.1.1; have ry := ra.ev (x := y) hok.1.2; have fin : ∀ {v' : Value} {w' : World}, (Builtin.append_ #[t, t'] type #[a.eval x, a.eval y]).run P w = .ok v' w' →
  (execOp a.eval { dst := dst, op := .call { callee := .builtin .append, args := #[x, y], argTypes := #[t, t'] }, type := type, pos := pos, after := after, guard := guard : Oper}).run P w = .ok (.value v') w' := by
  intro v' w' h; simp [execOp, resolve, invoke, builtin, h]
 unfold apU at h; split at h
 ·rename_i e sz by_ he hni; obtain ⟨i, z, hu, hi, hz, hzs, hsz, hby, h0, hb0⟩ := G0 he; split at h
  ·rename_i s' es hsrc; split at h
   ·rename_i hx; simp only [Option.some.injEq, Prod.mk.injEq] at h; obtain ⟨rfl, rfl, rfl⟩ := h; obtain ⟨s1, s2⟩ := hs; obtain ⟨news, hn⟩ := E7 (P := P) h0 sm ry hsrc s2; rw [hx] at rx; have hxe := rx.v_eq; have s1' : es.length * by_ ≤ 140737488355328 := s1; have hfit : (([] : List (List IV)).length + es.length) * by_ ≤ 140737488355328 := by simpa using s1'
    have ho : Ct w g (.slice none ([] : List (List IV)).length 0) (.row sz []) := ⟨none, 0, rfl, by simp, by simp, by simp, h0, .inl ⟨rfl, rfl⟩⟩; obtain ⟨v', w', q1, q2, q3, q4, q5, q6, q7, q8, q9, _⟩ := E6 he hni ho hn hfit type; have hu := sm.upd (w' := w') (H' := H.new (.row sz es)) H.next v' (.row sz es) rfl (Nat.le_succ _) (Nat.lt_succ_self _) q2 q3 q4 q5
     (fun b hb => by rcases q6 b hb with h | h; exact absurd h (by simp [blk]); exact .inr h)
     (fun b hb => ⟨(q7 b hb).1, by rcases (q7 b hb).2 with h | h; exact .inl h; exact absurd h (by simp [blk])⟩) (.inl rfl)
     (fun g' m _ => by simpa using q9 g' m)
    obtain ⟨aa, cap, hv, _⟩ := q9 _ hu.2; simp only [List.nil_append] at hv; refine ⟨v', w', _, _, _, .inl (fin (by rw [hxe]; exact q1)), hu.2, hu.1, ?_, hK⟩; exact Cc (Nat.lt_succ_self _) ⟨aa, cap, hv⟩
   ·rename_i k n hx; split at h
    ·rename_i sz' es0 hk; split at h
     ·rename_i hze; subst hze; simp only [Option.some.injEq, Prod.mk.injEq] at h; obtain ⟨rfl, rfl, rfl⟩ := h; obtain ⟨s1, s2, s3⟩ := hs; have s1' : es0.length = n := s1; obtain ⟨news, hn⟩ := E7 (P := P) h0 sm ry hsrc s3; rw [hx] at rx; have hsh : g.sh k = some (.row es0.length) := by rw [sm.sh, A0.sh, hk]; rfl
      have hmu : a.eval x = g.mu k := by
       generalize a.eval x = z at rx; cases rx with
       | os _ _ _ _ h _ => exact (h _ hsh).2 s1'.symm
      have ho := sm.obj k _ hk; obtain ⟨aa, cap, hmv, _⟩ := id ho; rw [hmv] at ho; obtain ⟨v', w', q1, q2, q3, q4, q5, q6, q7, q8, q9, _⟩ := E6 he hni ho hn s2 type; rw [← hmv] at q6 q7 q8; have hlive : (g.sh k).isSome = true := by rw [hsh]; rfl
      have hu := sm.upd (w' := w') (H' := H.set k (.row sz' (es0 ++ es))) k v' (.row sz' (es0 ++ es)) rfl (Nat.le_refl _) (sm.lt k (by rw [hk]; rfl)) q2 q3 q4 q5
       (fun b hb => by rcases q6 b hb with h | h; exact .inl ⟨hlive, h⟩; exact .inr h)
       (fun b hb => ⟨(q7 b hb).1, by rcases (q7 b hb).2 with h | h; exact .inl h; exact .inr ⟨hlive, h⟩⟩)
       (.inr (.inr ⟨es0.length, _, hsh, rfl, by simp, fun e => q8 (by simpa using e)⟩))
       (fun g' m _ => q9 g' m)
      obtain ⟨a2, cap2, hv, _⟩ := q9 _ hu.2; refine ⟨v', w', _, _, _, .inl (fin (by rw [hmu, hmv]; exact q1)), hu.2, hu.1, ?_, hK⟩; have := Cc (w' := w') (g := g) (k := k) (nx := (H.set k (.row sz' (es0 ++ es))).next) (sm.lt k (by rw [hk]; rfl)) ⟨a2, cap2, hv⟩; rw [List.length_append] at this; simpa [HO.sh] using this
     ·cases h
    ·cases h
   ·cases h
  ·cases h
 ·cases h
theorem Sm (P : Program) (e : TypeId) (o : HO) : tyR P e o = o ∨ tyR P e o = .ty e o := by
 unfold tyR; split
 ·exact .inr rfl
 ·exact .inl rfl
theorem G1 {o : Oper} {K : IV → A0 → Prop} {Qp : List PanicEntry → A0 → Prop} {t t' : TypeId} {x y : Operand} {s : Prop} {r : IV} {H' : A0} (ho : o.op = .call { callee := .builtin .append, args := #[x, y], argTypes := #[t, t'] }) (hok : okO N o = true)
    (h : apI P H t t' (ev tm x) (ev tm y) = some (s, r, H')) (hs : s) (hK : K r H') : Aj P N o tm H K Qp := by
 unfold apI at h; split at h
 ·rename_i e sz by_ he hni; split at h
  ·rename_i s' es hsrc; split at h
   ·rename_i hx; simp only [Option.some.injEq, Prod.mk.injEq] at h; obtain ⟨rfl, rfl, rfl⟩ := h; rcases Sm P e (.row sz es) with ht | ht
    ·rw [ht] at hK; exact Fk ho hok (by simp only [apU, he, hni, hsrc, hx]) hs hK
    ·rw [ht] at hK; exact Ia ho hok he hni hx hsrc hs.2 hs.1 hK
   ·rename_i k n hx; split at h
    ·rename_i sz' es0 hk; refine Fk ho hok ?_ hs hK; simp only [apU, he, hni, hsrc, hx, hk]; exact h
    ·rename_i e0 sz' es0 hk; split at h
     ·rename_i hze; obtain ⟨rfl, rfl⟩ := hze; simp only [Option.some.injEq, Prod.mk.injEq] at h; obtain ⟨rfl, rfl, rfl⟩ := h; exact Jb ho hok he hni hx hk hs.1 hsrc hs.2.2 hs.2.1 hK
     ·cases h
    ·cases h
   ·cases h
  ·cases h
 ·cases h
theorem M7 {o : Oper} {K : IV → A0 → Prop} {Qp : List PanicEntry → A0 → Prop} {t e : TypeId} {x i : Operand} {k n sz : Nat} {kk : IntKind} {m : Int} {es : List (List IV)} (ho : o.op = .indexAddr t x i) (hok : okO N o = true)
    (hu : P.underlying t = some (.slice e)) (hx : ev tm x = .os k n) (hi : ev tm i = .v (.int kk m)) (hk : H.obj k = some (.row sz es)) (hl : es.length = n) (hc : 0 < P.cellsOf e) (h0 : 0 ≤ m) (h1 : m < n)
    (hK : K (.pr k n (m.toNat * P.cellsOf e)) H) : Aj P N o tm H K Qp := by
 obtain ⟨dst, op, type, pos, after, guard⟩ := o; simp only at ho; subst ho; refine AF (by simp) fun w g a sm ra hN => ?_; subst hN; simp [okO, Op.operands] at hok; have rx := ra.ev (x := x) hok.1.1; have ri := ra.ev (x := i) hok.1.2; rw [hx] at rx; rw [hi] at ri; obtain ⟨aa, cap, hxe, hr⟩ := rx.Ql sm ⟨sz, es, hk, hl⟩ m.toNat (by omega) (P.cellsOf e); refine ⟨_, w, g, H, _, .inl ?_, .refl w g, sm, hr, hK⟩; simp [execOp, hxe, ri.v_eq, run_indexAt_slice hu hc aa n cap kk m h0 h1 w]
def chunks (sz : Nat) : Nat → List IV → List (List IV)
  | 0, _ => []
  | n + 1, l => l.take sz :: chunks sz n (l.drop sz)
theorem DL (sz : Nat) : ∀ (n : Nat) (l : List IV), (chunks sz n l).length = n
  | 0, _ => rfl
  | n + 1, l => by simp [chunks, DL sz n]
theorem De (sz : Nat) : ∀ (n : Nat) (l : List IV), n * sz ≤ l.length → ∀ e, e ∈ chunks sz n l → e.length = sz
  | 0, _, _, e, he => by simp [chunks] at he
  | n + 1, l, h, e, he => by
    rw [Nat.add_mul] at h
    simp only [chunks, List.mem_cons] at he
    rcases he with rfl | he
    · simp; omega
    · exact De sz n _ (by simp; omega) e he
theorem Fw (sz : Nat) : ∀ (n : Nat) (l : List IV) (i : Nat) (e : List IV), (chunks sz n l)[i]? = some e → ∀ (j : Nat) (c : IV), e[j]? = some c → l[i * sz + j]? = some c ∧ j < sz
  | 0, _, i, e, h, _, _, _ => by simp [chunks] at h
  | n + 1, l, 0, e, h, j, c, hc => by
    simp only [chunks, List.getElem?_cons_zero, Option.some.injEq] at h
    subst h
    rw [List.getElem?_take] at hc
    split at hc
    · rename_i hj
      exact ⟨by simpa using hc, hj⟩
    · cases hc
  | n + 1, l, i + 1, e, h, j, c, hc => by
    simp only [chunks, List.getElem?_cons_succ] at h
    have := Fw sz n _ i e h j c hc
    rw [List.getElem?_drop] at this
    refine ⟨?_, this.2⟩
    rw [← this.1]
    congr 1
    rw [Nat.add_mul]
    omega
theorem Ib {w w' : World} {g g' : Gs} (m : AB w g w' g') {b sz n cap : Nat} {xs : Array Value} {el : TypeId} {f : Nat × Nat} {cs : List IV} (hb : w'.heap[b]? = some (.cells xs el f)) (ho : ¬ g'.ow b)
    (hc : Bx w g xs cs) (hn : n * sz ≤ cs.length) (hcap : n ≤ cap) (hmax : n ≤ D5) : R w' g' (.slice (some ⟨b, 0, none⟩) n cap) (.sl sz (chunks sz n cs)) := by
 have hlen := DL sz n cs; have hcell : ∀ q, w'.cell? ⟨b, q, none⟩ = xs[q]? := by intro q; simp [World.cell?, hb]
 have key : ∀ (i : Nat) (e : List IV) (j : Nat) (c : IV), (chunks sz n cs)[i]? = some e → e[j]? = some c → ∃ x, xs[i * sz + j]? = some x ∧ x.oneCell' = true ∧ R w g x c := fun i e j c h1 h2 => hc.2 _ _ (Fw sz n cs i e h1 j c h2).1; have := R.sl (w := w') (g := g') b 0 cap sz (chunks sz n cs) (fun i j => xs.getD (i * sz + j) undef) ho (BE hb) (by rw [hlen]; exact hmax) (by rw [hlen]; exact hcap) (De sz n cs hn)
  (fun i e j c h1 h2 => by obtain ⟨x, q1, _⟩ := key i e j c h1 h2; rw [Nat.zero_add, hcell, q1]; simp [q1])
  (fun i e j c h1 h2 => by obtain ⟨x, q1, q2, _⟩ := key i e j c h1 h2; simpa [q1] using q2)
  (fun i e j c h1 h2 => by obtain ⟨x, q1, _, q3⟩ := key i e j c h1 h2; simpa [q1] using q3.mono m)
 rwa [hlen] at this
def rep (n : Nat) (zs : List IV) : List IV := (List.replicate n zs).flatten
def bsI (P : Program) (t : TypeId) (len : Nat) (parts : List (Nat × IV)) : Option (Nat × List IV) :=
  match P.underlying t with
  | some (.slice e) =>
    match zeroOf P e with
    | some z =>
      if z.cells.size = P.cellsOf e ∧ 0 < P.cellsOf e ∧ z.cells.toList.all (·.oneCell') = true ∧ len * P.cellsOf e ≤ 16777216 then
        match El (fun i => some (i * P.cellsOf e, P.cellsOf e)) (rep len (z.cells.toList.map .v)) parts with
        | some rs => some (P.cellsOf e, rs)
        | none => none
      else none
    | none => none
  | _ => none
theorem Qo (n : Nat) (zs : List IV) (h0 : 0 < zs.length) (q : Nat) (hq : q < n * zs.length) : (rep n zs)[q]? = zs[q % zs.length]? := by
 have hall : ∀ e, e ∈ List.replicate n zs → e.length = zs.length := by intro e he; rw [(List.mem_replicate.1 he).2]
 rw [rep, DC h0 hall, List.getElem?_replicate]; rw [if_pos (by rw [Nat.div_lt_iff_lt_mul h0]; exact hq)]; rfl
theorem Ic (n : Nat) (zs : List IV) : (rep n zs).length = n * zs.length := by simp [rep]
theorem Js {place : Nat → Option (Nat × Nat)} : ∀ {is : List (Nat × IV)} {cs rs : List IV}, El place cs is = some rs → rs.length = cs.length
  | [], cs, rs, h => by simp only [El, Option.some.injEq] at h; rw [h]
  | (i, v) :: is, cs, rs, h => by
    simp only [El] at h
    split at h
    · split at h
      · rename_i hb
        rw [Js h, DA _ _ _ hb.2]
      · cases h
    · cases h
theorem Cv {t : TypeId} {len sz : Nat} {vs : Array (Nat × Value)} {is : List (Nat × IV)} {rs : List IV} {w : World} {g : Gs} (hp : E4 w g vs.toList is) (h : bsI P t len is = some (sz, rs)) :
    ∃ out el, (Instr.buildSlice t len vs).run P w = .ok (.slice (some ⟨w.heap.size, 0, none⟩) len len) (w.alloc (.cells out el)) ∧ out.size = rs.length ∧ rs.length = len * sz ∧ 0 < sz ∧ len * sz ≤ 16777216 ∧
      (∀ (j : Nat) (y : Value), out[j]? = some y → y.oneCell' = true) ∧ ∀ (j : Nat) (y : Value) (c : IV), out[j]? = some y → rs[j]? = some c → R w g y c := by
 unfold bsI at h; split at h
 ·rename_i e hu; split at h
  ·rename_i z hz; split at h
   ·rename_i hcond; obtain ⟨c1, c2, c3, c4⟩ := hcond; split at h
    ·rename_i rs' hf; simp only [Option.some.injEq, Prod.mk.injEq] at h; obtain ⟨rfl, rfl⟩ := h; have hzl : (z.cells.toList.map IV.v).length = P.cellsOf e := by simp [c1]
     have hcells : ((Array.range (len * P.cellsOf e)).map (fun q => z.cells[q % z.cells.size]!)).size = (rep len (z.cells.toList.map .v)).length := by rw [Ic, hzl]; simp
     have hval : ∀ (j : Nat) (y : Value), ((Array.range (len * P.cellsOf e)).map (fun q => z.cells[q % z.cells.size]!))[j]? = some y → j < len * P.cellsOf e ∧ z.cells[j % P.cellsOf e]? = some y := by
      intro j y hy; have hj : j < len * P.cellsOf e := by
       have := (Array.getElem?_eq_some_iff.1 hy).1; simpa using this
      have hm : j % z.cells.size < z.cells.size := Nat.mod_lt _ (by omega); simp [hj, getElem!_pos, hm] at hy; refine ⟨hj, ?_⟩; rw [← c1, Array.getElem?_eq_getElem hm, hy]
     have hone : ∀ (j : Nat) (y : Value), z.cells[j]? = some y → y.oneCell' = true := by
      intro j y h1; rw [List.all_eq_true] at c3; exact c3 y (by rw [Array.mem_toList_iff]; exact Array.mem_of_getElem? h1)
     obtain ⟨out, e1, e2, e3', e3⟩ := E5 hp hcells
      (fun j y hy => hone _ _ (hval j y hy).2)
      (fun j y c hy hc => by
        obtain ⟨hj, hzj⟩ := hval j y hy
        rw [Qo _ _ (by omega) _ (by rw [hzl]; exact hj), hzl] at hc
        simp only [List.getElem?_map, Array.getElem?_toList, hzj, Option.map_some, Option.some.injEq] at hc
        subst hc
        exact .v _) hf
     have hrl : rs'.length = len * P.cellsOf e := by rw [Js hf, Ic, hzl]
     have h24 : ¬ (16777216 < len * P.cellsOf e) := by omega
     refine ⟨out, e, ?_, e2, hrl, c2, c4, e3', e3⟩; by_cases hl0 : len * P.cellsOf e = 0
     ·have hlen0 : len = 0 := by
       rcases Nat.mul_eq_zero.1 hl0 with h | h
       ·exact h
       ·omega
      subst hlen0; have hr0 : ∀ F : Nat → Value, (Array.range 0).map F = #[] := fun F => by simp
      rw [Nat.zero_mul, hr0] at e1; simp [Instr.buildSlice, run_underlying hu, Av c2, hr0, e1, newRow]
     ·simp [Instr.buildSlice, run_underlying hu, Av c2, BT hz, h24, hl0, e1, newRow]
    ·cases h
   ·cases h
  ·cases h
 ·cases h
theorem DV {o : Oper} {K : IV → A0 → Prop} {Qp : List PanicEntry → A0 → Prop} {t : TypeId} {len sz : Nat} {parts : Array (Nat × Operand)} {rs : List IV} (ho : o.op = .buildSlice t len parts) (hok : okO N o = true)
    (h : bsI P t len (parts.toList.map fun q => (q.1, ev tm q.2)) = some (sz, rs)) (hK : K (.sl sz (chunks sz len rs)) H) : Aj P N o tm H K Qp := by
 obtain ⟨dst, op, type, pos, after, guard⟩ := o; simp only at ho; subst ho; refine AF (by simp) fun w g a sm ra hN => ?_; subst hN; simp only [okO, Bool.and_eq_true, List.all_eq_true] at hok; have hp : E4 w g (parts.map fun q => (q.1, a.eval q.2)).toList (parts.toList.map fun q => (q.1, ev tm q.2)) := by
  rw [Array.toList_map]; refine Dd ra _ fun q hq => hok.1 _ ?_; simp only [Op.operands, List.toList_toArray, List.mem_map]; exact ⟨q, hq, rfl⟩
 obtain ⟨out, el, q1, q2, q3, q4, q5, q6, q7⟩ := Cv (P := P) hp h; have hg := sm.grow (w' := w.alloc (.cells out el)) (by simp) rfl rfl rfl (fun b hb => by rw [AV, if_neg (by omega)]); refine ⟨_, _, g, H, _, .inl ?_, hg.2, hg.1, Ib hg.2 (f := (0, 0)) (by rw [AV, if_pos rfl]) (sm.fresh (Nat.le_refl _)) ⟨by omega, fun j c hj => ?_⟩ (by omega) (Nat.le_refl _) ?_, hK⟩
 ·simp [execOp, q1]
 ·have hj' : j < out.size := by rw [q2]; exact (List.getElem?_eq_some_iff.1 hj).1
  exact ⟨out[j], Array.getElem?_eq_getElem hj', q6 _ _ (Array.getElem?_eq_getElem hj'), q7 _ _ _ (Array.getElem?_eq_getElem hj') hj⟩
 ·unfold D5; have : len ≤ len * sz := Nat.le_mul_of_pos_right _ q4; omega
theorem GG {o : Oper} {K : IV → A0 → Prop} {Qp : List PanicEntry → A0 → Prop} {t : TypeId} {sz : Nat} {rs : List IV} (ho : o.op = .buildSlice t 0 #[])
    (h : bsI P t 0 [] = some (sz, rs)) (hK : K (.os H.next 0) (H.new (.row sz []))) : Aj P N o tm H K Qp := by
 obtain ⟨dst, op, type, pos, after, guard⟩ := o; simp only at ho; subst ho; refine AF (by simp) fun w g a sm ra hN => ?_; obtain ⟨out, el, q1, q2, q3, q4, q5, q6, q7⟩ := Cv (P := P) (t := t) (len := 0) (vs := #[]) (is := []) (w := w) (g := g) trivial h; have hn := sm.new (w' := w.alloc (.cells out el)) (.slice (some ⟨w.heap.size, 0, none⟩) 0 0) (.row sz []) (by simp) rfl rfl rfl (fun b hb => by rw [AV, if_neg (by omega)])
  (fun b hb => by simp only [blk, Option.some.injEq] at hb; subst hb; simp)
  (fun g' m _ => ⟨_, 0, rfl, by simp, by simp [D5], by simp, q4, .inr ⟨w.heap.size, out, el, (0, 0), rfl, by rw [AV, if_pos rfl], C7 _, by simp, by simp, by simp⟩⟩)
 refine ⟨_, _, _, _, _, .inl ?_, hn.2, hn.1, Cc (Nat.lt_succ_self _) ⟨_, _, rfl⟩, hK⟩; simp [execOp, q1]
def fnP (x : IV) : Option (FuncId × List IV) :=
  match x with
  | .v (.func (.func f) first cap) => if first.size = 0 ∧ cap.size = 0 then some (f, []) else none
  | .fn (.func f) [] cap => some (f, cap)
  | _ => none
theorem G2 {f : FuncId} (h : Bq P f = true) (args : Array Value) (w : World) : (callFunc f args).run P w = .ok (.enter f args) w := by
 unfold Bq at h; cases hf : P.funcs[f]? with
 | none => simp [hf] at h
 | some fn =>
  simp only [hf, Bool.and_eq_true, Bool.not_eq_true'] at h; obtain ⟨h1, h2⟩ := h; have h3 : ¬ fn.body = none := by intro e; simp [e] at h1
  have h4 : ¬ fn.name = "runtime.NumGoroutine" := by intro e; simp [e] at h2
  simp [callFunc, hf, h3, h4]
theorem OD {w : World} {g : Gs} {a : Act} (r : RA w g a tm) (l : Array Operand) (hl : ∀ q, q ∈ l.toList → opd a.tmps.size q = true) : RL w g (l.map a.eval) (l.toList.map (ev tm)) := by
 refine ⟨by simp, fun j x c h1 h2 => ?_⟩; simp only [Array.getElem?_map, Option.map_eq_some_iff] at h1; obtain ⟨q, hq, rfl⟩ := h1; simp only [List.getElem?_map, Array.getElem?_toList, hq, Option.map_some, Option.some.injEq] at h2; subst h2; exact r.ev (hl q (by rw [Array.mem_toList_iff]; exact Array.mem_of_getElem? hq))
theorem Jt {w : World} {g : Gs} {xs ys : Array Value} {is js : List IV} (h : RL w g xs is) (k : RL w g ys js) : RL w g (xs ++ ys) (is ++ js) := by
 refine ⟨by simp [h.1, k.1], fun j x c h1 h2 => ?_⟩; rcases Nat.lt_or_ge j xs.size with hj | hj
 ·rw [Array.getElem?_append_left hj] at h1; rw [List.getElem?_append_left (by rw [← h.1]; exact hj)] at h2; exact h.2 j x c h1 h2
 ·rw [Array.getElem?_append_right hj] at h1; rw [List.getElem?_append_right (by rw [← h.1]; exact hj), ← h.1] at h2; exact k.2 _ x c h1 h2
def Ju (K : IV → A0 → Prop) (Qp : List PanicEntry → A0 → Prop) : An → A0 → Prop
  | .ret r, H => K r H
  | .pan ch, H => Qp ch H
theorem Ie {o : Oper} {K : IV → A0 → Prop} {Qp : List PanicEntry → A0 → Prop} {x : Operand} {args : Array Operand} {ats : Array TypeId} {f : FuncId} {cap : List IV} (ho : o.op = .call { callee := .value x, args := args, argTypes := ats }) (hok : okO N o = true)
    (hf : fnP (ev tm x) = some (f, cap))
    (h : A2 P f (args.toList.map (ev tm) ++ cap) H (Ju K Qp)) : Aj P N o tm H K Qp := by
 obtain ⟨dst, op, type, pos, after, guard⟩ := o; simp only at ho; subst ho; refine ⟨by simp, fun rr w g a sm ra hN => ?_⟩; subst hN; simp only [okO, Bool.and_eq_true, List.all_eq_true, Op.operands, Call.operands, Array.toList_append, List.mem_append] at hok; have rx := ra.ev (x := x) (hok.1 x (.inl (by simp))); have rargs := OD ra args (fun q hq => hok.1 q (.inr hq)); have ⟨xs, hxe, hcap⟩ : ∃ xs : Array Value, a.eval x = .func (.func f) #[] xs ∧ RL w g xs cap := by
  unfold fnP at hf; split at hf
  ·rename_i f' first cap' hx
   split at hf
   ·rename_i hs; simp only [Option.some.injEq, Prod.mk.injEq] at hf; obtain ⟨rfl, rfl⟩ := hf; rw [hx] at rx; have e1 : first = #[] := Array.eq_empty_of_size_eq_zero hs.1
    have e2 : cap' = #[] := Array.eq_empty_of_size_eq_zero hs.2; exact ⟨#[], by rw [rx.v_eq, e1, e2], rfl, by simp⟩
   ·cases hf
  ·rename_i f' cap' hx; simp only [Option.some.injEq, Prod.mk.injEq] at hf; obtain ⟨rfl, rfl⟩ := hf; rw [hx] at rx; generalize a.eval x = z at rx; cases rx with
   | fn _ xs ys _ _ hl hl' hr hr' =>
    have e1 : xs = #[] := Array.eq_empty_of_size_eq_zero (by simpa using hl); exact ⟨ys, by rw [e1], hl', hr'⟩
  ·cases hf
 have hrun : (execOp a.eval { dst := dst, op := .call { callee := .value x, args := args, argTypes := ats }, type := type, pos := pos, after := after, guard := guard : Oper}).run P w = .ok (.enter f (args.map a.eval ++ xs)) w := by
  simp [execOp, resolve, hxe, Deferred.ofValue, invoke, G2 h.body]
 rw [hrun]; refine ⟨fun hd => by simp [FR] at hd, N2 ((h.run w g _ sm (Jt rargs hcap)).mono ?_)⟩
 rintro e w' ⟨ie, g', H', m, s', hre, hq⟩
 cases hre with
 | ret v i hr => exact ⟨v, i, g', H', rfl, m, s', hr, hq⟩
 | pan ch => exact ⟨ch, g', H', rfl, rfl, m, s', hq⟩
end Go.Idl
namespace Go.Idl
open Go Go.RowKit
variable {P : Program} {N : Nat} {tm : Tm} {H : A0}
inductive NB (n : Nat) : IV → Prop
  | v (x : Value) : NB n (.v x)
  | any : NB n .any
  | blk (b : Nat) (xs : Array Value) : NB n (.blk b xs)
  | sl (sz : Nat) (es : List (List IV)) (h : ∀ e, e ∈ es → ∀ c, c ∈ e → NB n c) : NB n (.sl sz es)
  | cp (cs : List IV) (h : ∀ c, c ∈ cs → NB n c) : NB n (.cp cs)
  | ag (cs : List IV) (h : ∀ c, c ∈ cs → NB n c) : NB n (.ag cs)
  | tu (cs : List IV) (h : ∀ c, c ∈ cs → NB n c) : NB n (.tu cs)
  | fn (f : Fn) (a b : List IV) (h : ∀ c, c ∈ a → NB n c) (h' : ∀ c, c ∈ b → NB n c) : NB n (.fn f a b)
  | ifc (t : TypeId) (x : IV) (h : NB n x) : NB n (.ifc t x)
  | p (k off : Nat) (h : k < n) : NB n (.p k off)
  | mp (k : Nat) (h : k < n) : NB n (.mp k)
  | os (k m : Nat) (h : k < n) : NB n (.os k m)
  | pr (k m off : Nat) (h : k < n) : NB n (.pr k m off)
  | bs (k off m : Nat) (h : k < n) : NB n (.bs k off m)
def Gs.to (g : Gs) (J : A0) : Gs := { g with sh := J.sh, nx := J.next }
def K6 (J H : A0) : Prop := ∀ k o, J.obj k = some o → H.obj k = some o
theorem K6.sh {J H : A0} {w : World} {g : Gs} (h : K6 J H) (s : Sim w g H) : ∀ k q, J.sh k = some q → g.sh k = some q := by
 intro k q hq; simp only [A0.sh, Option.map_eq_some_iff] at hq; obtain ⟨o, ho, rfl⟩ := hq; rw [s.sh, A0.sh, h k o ho]; rfl
theorem OE {g : Gs} {J : A0} (hs : ∀ k q, J.sh k = some q → g.sh k = some q) {b : Nat} (h : (g.to J).named b) : g.named b := by
 obtain ⟨k, h1, h2⟩ := h; simp only [Gs.to] at h1 h2; obtain ⟨q, hq⟩ := Option.isSome_iff_exists.1 h1; exact ⟨k, by rw [hs k q hq]; rfl, h2⟩
theorem Ig {g : Gs} {J : A0} (hs : ∀ k q, J.sh k = some q → g.sh k = some q) {b : Nat} (h : (g.to J).ow b) : g.ow b := by
 rcases h with h | h
 ·exact .inl h
 ·exact .inr (OE hs h)
theorem R.to {w : World} {g : Gs} {J : A0} (hs : ∀ k q, J.sh k = some q → g.sh k = some q) {x : Value} {i : IV} (h : R w g x i) (hn : NB J.next i) : R w (g.to J) x i := by
 induction h with
 | v x => exact .v x
 | any x => exact .any x
 | blk b xs el f x hb h => exact .blk b xs el f x (fun e => hb (Ig hs e)) h
 | sl0 a cap sz => exact .sl0 a cap sz
 | sl b off cap sz es cv hb hlt hlen hcap hsz hc ho _ ih =>
  cases hn with
  | sl _ _ hn => exact .sl b off cap sz es cv (fun e => hb (Ig hs e)) hlt hlen hcap hsz hc ho fun i e j c h1 h2 => ih i e j c h1 h2 (hn e (List.mem_of_getElem? h1) c (List.mem_of_getElem? h2))
 | cp b off cs cv hb hlt hc ho _ ih =>
  cases hn with
  | cp _ hn => exact .cp b off cs cv (fun e => hb (Ig hs e)) hlt hc ho fun j c h1 => ih j c h1 (hn c (List.mem_of_getElem? h1))
 | ag xs cs hl ho _ ih =>
  cases hn with
  | ag _ hn => exact .ag xs cs hl ho fun j x c h1 h2 => ih j x c h1 h2 (hn c (List.mem_of_getElem? h2))
 | tu xs cs hl _ ih =>
  cases hn with
  | tu _ hn => exact .tu xs cs hl fun j x c h1 h2 => ih j x c h1 h2 (hn c (List.mem_of_getElem? h2))
 | fn f xs ys fi ca hl hl' _ _ ih ih' =>
  cases hn with
  | fn _ _ _ hn hn' => exact .fn f xs ys fi ca hl hl' (fun j x c h1 h2 => ih j x c h1 h2 (hn c (List.mem_of_getElem? h2))) (fun j x c h1 h2 => ih' j x c h1 h2 (hn' c (List.mem_of_getElem? h2)))
 | ifc t x c _ ih =>
  cases hn with
  | ifc _ _ hn => exact .ifc t x c (ih hn)
 | p k off x hk hx h =>
  cases hn with
  | p _ _ hn => exact .p k off x hn hx fun s' hs' e => h s' (hs k s' hs') e
 | mp k x hk hx h =>
  cases hn with
  | mp _ hn => exact .mp k x hn hx fun s' hs' e => h s' (hs k s' hs') e
 | os k m x hk h hx =>
  cases hn with
  | os _ _ hn => exact .os k m x hn (fun m' hm => h m' (hs k _ hm)) hx
 | pr k m off x hk hx h =>
  cases hn with
  | pr _ _ _ hn => exact .pr k m off x hn hx (fun m' hm => h m' (hs k _ hm))
 | bs k off m x hk hx h =>
  cases hn with
  | bs _ _ _ hn => exact .bs k off m x hn hx fun s' hs' e => h s' (hs k s' hs') e
def Wk (i i' : IV) : Prop := ∀ (w : World) (g : Gs) (x : Value), R w g x i → R w g x i'
inductive Fz (H J : A0) : IV → IV → Prop
  | wk (i i' : IV) (hw : Wk i i') (h : NB J.next i') : Fz H J i i'
  | os (k m sz : Nat) (es es' : List (List IV)) (hk : J.obj k = none) (ho : H.obj k = some (.row sz es)) (hm : es.length = m) (hl : es'.length = es.length) (hl' : ∀ (i : Nat) (e e' : List IV), es[i]? = some e → es'[i]? = some e' → e'.length = e.length)
      (h : ∀ (i : Nat) (e e' : List IV), es[i]? = some e → es'[i]? = some e' → ∀ (j : Nat) (c c' : IV), e[j]? = some c → e'[j]? = some c' → Fz H J c c') : Fz H J (.os k m) (.sl sz es')
  | p (k off : Nat) (cs cs' : List IV) (hk : J.obj k = none) (ho : H.obj k = some (.cells cs)) (hl : cs'.length = cs.length) (h : ∀ (j : Nat) (c c' : IV), cs[j]? = some c → cs'[j]? = some c' → Fz H J c c') : Fz H J (.p k off) (.cp (cs'.drop off))
  | bs (k off m sz : Nat) (cs cs' : List IV) (hk : J.obj k = none) (ho : H.obj k = some (.cells cs)) (hl : cs'.length = cs.length) (hb : off + m * sz ≤ cs.length) (hm : m ≤ D5) (h : ∀ (j : Nat) (c c' : IV), cs[j]? = some c → cs'[j]? = some c' → Fz H J c c') :
      Fz H J (.bs k off m) (.sl sz (chunks sz m (cs'.drop off)))
  | tu (cs cs' : List IV) (hl : cs'.length = cs.length) (h : ∀ (j : Nat) (c c' : IV), cs[j]? = some c → cs'[j]? = some c' → Fz H J c c') : Fz H J (.tu cs) (.tu cs')
  | ag (cs cs' : List IV) (hl : cs'.length = cs.length) (h : ∀ (j : Nat) (c c' : IV), cs[j]? = some c → cs'[j]? = some c' → Fz H J c c') : Fz H J (.ag cs) (.ag cs')
  | cp (cs cs' : List IV) (hl : cs'.length = cs.length) (h : ∀ (j : Nat) (c c' : IV), cs[j]? = some c → cs'[j]? = some c' → Fz H J c c') : Fz H J (.cp cs) (.cp cs')
  | fn (f : Fn) (a a' b b' : List IV) (hl : a'.length = a.length) (hl' : b'.length = b.length) (h : ∀ (j : Nat) (c c' : IV), a[j]? = some c → a'[j]? = some c' → Fz H J c c') (h' : ∀ (j : Nat) (c c' : IV), b[j]? = some c → b'[j]? = some c' → Fz H J c c') : Fz H J (.fn f a b) (.fn f a' b')
theorem BD {α β : Type} {l : List α} {l' : List β} (h : l'.length = l.length) {j : Nat} {c' : β} (hj : l'[j]? = some c') : ∃ c, l[j]? = some c := by
 have := (List.getElem?_eq_some_iff.1 hj).1; exact ⟨l[j], List.getElem?_eq_getElem (by omega)⟩
theorem Sim.Fx {w : World} {g : Gs} {J : A0} (s : Sim w g H) (hj : K6 J H) {k b : Nat} (hk : J.obj k = none) (hl : (g.sh k).isSome = true) (hb : blk (g.mu k) = some b) : ¬ (g.to J).ow b := by
 rintro (h | ⟨k', h1, h2⟩)
 ·exact (s.bk k b hl hb).1 h
 ·simp only [Gs.to] at h1 h2; obtain ⟨q, hq⟩ := Option.isSome_iff_exists.1 h1; have := s.inj k k' b hl (by rw [hj.sh s k' q hq]; rfl) hb h2; subst this; simp [A0.sh, hk] at hq
theorem Fz.sound {w : World} {g : Gs} {J : A0} (s : Sim w g H) (hj : K6 J H) {i i' : IV} (f : Fz H J i i') : ∀ {x : Value}, R w g x i → R w (g.to J) x i' := by
 induction f with
 | wk i i' hw h => intro x hx; exact (hw w g x hx).to (hj.sh s) h
 | os k m sz es es' hk ho hm hl hl' _ ih =>
  intro x hx; obtain ⟨a, cap, h1, h2, h3, h4, h5, h6⟩ := s.obj k _ ho; have hsh : g.sh k = some (.row es.length) := by rw [s.sh, A0.sh, ho]; rfl
  have hmu : x = g.mu k := by
   cases hx with
   | os _ _ _ _ h _ => exact (h _ hsh).2 hm.symm
  rw [hmu, h1]; have hsz' : ∀ e', e' ∈ es' → e'.length = sz := by
   intro e' he'; obtain ⟨q, hq⟩ := List.getElem?_of_mem he'; obtain ⟨e, he⟩ := BD hl hq; rw [hl' q e e' he hq]; exact h4 e (List.mem_of_getElem? he)
  rcases h6 with ⟨rfl, rfl⟩ | ⟨b, xs, el, f, rfl, h7, h8, h9, h10⟩
  ·have e0 : es = [] := List.eq_nil_of_length_eq_zero (by omega); subst e0; have e1 : es' = [] := List.eq_nil_of_length_eq_zero (by simpa using hl); subst e1; exact .sl0 _ _ _
  ·have hb : ¬ (g.to J).ow b := s.Fx hj hk (by rw [hsh]; rfl) (by rw [h1]; rfl); have key : ∀ (i : Nat) (e' : List IV) (j : Nat) (c' : IV), es'[i]? = some e' → e'[j]? = some c' → ∃ y e c, es[i]? = some e ∧ e[j]? = some c ∧ xs[i * sz + j]? = some y ∧ y.oneCell' = true ∧ R w g y c := by
    intro i e' j c' q1 q2; obtain ⟨e, he⟩ := BD hl q1; obtain ⟨c, hc⟩ := BD (hl' i e e' he q1) q2; have hel := h4 e (List.mem_of_getElem? he); have hj : j < sz := by rw [← hel]; exact (List.getElem?_eq_some_iff.1 hc).1
    have hflat : es.flatten[i * sz + j]? = some c := by
     have hd : (i * sz + j) / sz = i := by rw [Nat.mul_comm, Nat.mul_add_div h5, Nat.div_eq_of_lt hj]; rfl
     have hmod : (i * sz + j) % sz = j := by rw [Nat.mul_comm, Nat.mul_add_mod, Nat.mod_eq_of_lt hj]
     rw [DC h5 h4, hd, hmod, he]; exact hc
    obtain ⟨y, q3, q4, q5⟩ := h10.2 _ _ hflat; exact ⟨y, e, c, he, hc, q3, q4, q5⟩
   have hcell : ∀ q, w.cell? ⟨b, q, none⟩ = xs[q]? := by intro q; simp [World.cell?, h7]
   rw [← hl]; refine .sl b 0 cap sz es' (fun i j => xs.getD (i * sz + j) undef) hb (BE h7) (by rw [hl]; exact h3) (by rw [hl]; exact h2) hsz' ?_ ?_ ?_
   ·intro i e' j c' q1 q2; obtain ⟨y, _, _, _, _, q3, _⟩ := key i e' j c' q1 q2; rw [Nat.zero_add, hcell, q3]; simp [q3]
   ·intro i e' j c' q1 q2; obtain ⟨y, _, _, _, _, q3, q4, _⟩ := key i e' j c' q1 q2; simpa [q3] using q4
   ·intro i e' j c' q1 q2; obtain ⟨y, e, c, q5, q6, q3, _, q7⟩ := key i e' j c' q1 q2; have := ih i e e' q5 q1 j c c' q6 q2 q7; simpa [q3] using this
 | p k off cs cs' hk ho hl _ ih =>
  intro x hx; obtain ⟨b, xs, el, f, h1, rfl, h2, h3, h4⟩ := s.H_ ho hx; have hb : ¬ (g.to J).ow b := s.Fx hj hk (by rw [s.sh, A0.sh, ho]; rfl) (by rw [h1]; rfl); have hcell : ∀ q, w.cell? ⟨b, q, none⟩ = xs[q]? := by intro q; simp [World.cell?, h2]
  have key : ∀ (j : Nat) (c' : IV), (cs'.drop off)[j]? = some c' → ∃ y c, cs[off + j]? = some c ∧ cs'[off + j]? = some c' ∧ xs[off + j]? = some y ∧ y.oneCell' = true ∧ R w g y c := by
   intro j c' q; rw [List.getElem?_drop] at q; obtain ⟨c, hc⟩ := BD hl q; obtain ⟨y, q1, q2, q3⟩ := h4.2 _ _ hc; exact ⟨y, c, hc, q, q1, q2, q3⟩
  refine .cp b off _ (fun j => xs.getD (off + j) undef) hb (BE h2) ?_ ?_ ?_
  ·intro j c' q; obtain ⟨y, c, _, _, q3, _⟩ := key j c' q; rw [hcell, q3]; simp [q3]
  ·intro j c' q; obtain ⟨y, c, _, _, q3, q4, _⟩ := key j c' q; simpa [q3] using q4
  ·intro j c' q; obtain ⟨y, c, q1, q2, q3, _, q5⟩ := key j c' q; have := ih _ c c' q1 q2 q5; simpa [q3] using this
 | bs k off m sz cs cs' hk ho hl hbd hm _ ih =>
  intro x hx; have hsh : g.sh k = some .fx := by rw [s.sh, A0.sh, ho]; rfl
  have ⟨b, cap, hmu, hxe⟩ : ∃ b cap, g.mu k = .pointer (some ⟨b, 0, none⟩) ∧ x = .slice (some ⟨b, off, none⟩) m cap := by
   cases hx with
   | bs _ _ _ _ _ _ h => exact h _ hsh rfl
  obtain ⟨b', xs, el, f, h1, h2, h3, h4⟩ := s.obj k _ ho; rw [hmu] at h1; simp only [Value.pointer.injEq, Option.some.injEq, Addr.mk.injEq, and_true] at h1; subst h1; have hb : ¬ (g.to J).ow b := s.Fx hj hk (by rw [hsh]; rfl) (by rw [hmu]; rfl); have hcell : ∀ q, w.cell? ⟨b, q, none⟩ = xs[q]? := by intro q; simp [World.cell?, h2]
  have hlen := DL sz m (cs'.drop off); have key : ∀ (i : Nat) (e' : List IV) (j : Nat) (c' : IV), (chunks sz m (cs'.drop off))[i]? = some e' → e'[j]? = some c' → ∃ y c, cs[off + i * sz + j]? = some c ∧ cs'[off + i * sz + j]? = some c' ∧ xs[off + i * sz + j]? = some y ∧ y.oneCell' = true ∧ R w g y c := by
   intro i e' j c' q1 q2; have q := (Fw sz m _ i e' q1 j c' q2).1; rw [List.getElem?_drop, ← Nat.add_assoc] at q; obtain ⟨c, hc⟩ := BD hl q; obtain ⟨y, q3, q4, q5⟩ := h4.2 _ _ hc; exact ⟨y, c, hc, q, q3, q4, q5⟩
  have hcap : m ≤ cap := by
   cases hx with
   | bs _ _ _ _ _ hx' _ =>
    obtain ⟨a, cap', h5, h6⟩ := hx'; rw [hxe] at h5; simp only [Value.slice.injEq] at h5; obtain ⟨_, _, rfl⟩ := h5; exact h6
  subst hxe
  ·have := R.sl (w := w) (g := g.to J) b off cap sz (chunks sz m (cs'.drop off)) (fun i j => xs.getD (off + i * sz + j) undef) hb (BE h2) (by rw [hlen]; exact hm) (by rw [hlen]; exact hcap) (De sz m _ (by rw [List.length_drop]; omega))
    (fun i e' j c' q1 q2 => by obtain ⟨y, c, _, _, q3, _⟩ := key i e' j c' q1 q2; rw [hcell, q3]; simp [q3])
    (fun i e' j c' q1 q2 => by obtain ⟨y, c, _, _, q3, q4, _⟩ := key i e' j c' q1 q2; simpa [q3] using q4)
    (fun i e' j c' q1 q2 => by
      obtain ⟨y, c, q5, q6, q3, _, q7⟩ := key i e' j c' q1 q2
      have := ih _ c c' q5 q6 q7
      simpa [q3] using this)
   rwa [hlen] at this
 | tu cs cs' hl _ ih =>
  intro x hx; cases hx with
  | tu xs _ hl' hr =>
   refine .tu xs cs' (by omega) fun j y c' q1 q2 => ?_; obtain ⟨c, hc⟩ := BD hl q2; exact ih j c c' hc q2 (hr j y c q1 hc)
 | ag cs cs' hl _ ih =>
  intro x hx; cases hx with
  | ag xs _ hl' ho hr =>
   refine .ag xs cs' (by omega) ho fun j y c' q1 q2 => ?_; obtain ⟨c, hc⟩ := BD hl q2; exact ih j c c' hc q2 (hr j y c q1 hc)
 | cp cs cs' hl _ ih =>
  intro x hx; cases hx with
  | cp b off _ cv hb hlt hc ho hr =>
   refine .cp b off cs' cv (fun e => hb (Ig (hj.sh s) e)) hlt ?_ ?_ ?_
   ·intro j c' q; obtain ⟨c, hj⟩ := BD hl q; exact hc j c hj
   ·intro j c' q; obtain ⟨c, hj⟩ := BD hl q; exact ho j c hj
   ·intro j c' q; obtain ⟨c, hj⟩ := BD hl q; exact ih j c c' hj q (hr j c hj)
 | fn f a a' b b' hl hl' _ _ ih ih' =>
  intro x hx; cases hx with
  | fn _ xs ys _ _ h1 h2 hr hr' =>
   refine .fn f xs ys a' b' (by omega) (by omega) ?_ ?_
   ·intro j y c' q1 q2; obtain ⟨c, hc⟩ := BD hl q2; exact ih j c c' hc q2 (hr j y c q1 hc)
   ·intro j y c' q1 q2; obtain ⟨c, hc⟩ := BD hl' q2; exact ih' j c c' hc q2 (hr' j y c q1 hc)
theorem R.nb {w : World} {g : Gs} {x : Value} {i : IV} (h : R w g x i) : NB g.nx i := by
 induction h with
 | v x => exact .v x
 | any x => exact .any
 | blk b xs el f x hb h => exact .blk b xs
 | sl0 a cap sz => exact .sl _ _ (by simp)
 | sl b off cap sz es cv hb hlt hlen hcap hsz hc ho _ ih =>
  refine .sl _ _ fun e he c hc => ?_; obtain ⟨i, hi⟩ := List.getElem?_of_mem he; obtain ⟨j, hj⟩ := List.getElem?_of_mem hc; exact ih i e j c hi hj
 | cp b off cs cv hb hlt hc ho _ ih =>
  refine .cp _ fun c hc => ?_; obtain ⟨j, hj⟩ := List.getElem?_of_mem hc; exact ih j c hj
 | ag xs cs hl ho _ ih =>
  refine .ag _ fun c hc => ?_; obtain ⟨j, hj⟩ := List.getElem?_of_mem hc; have hlt : j < xs.size := by rw [hl]; exact (List.getElem?_eq_some_iff.1 hj).1
  exact ih j _ c (Array.getElem?_eq_getElem hlt) hj
 | tu xs cs hl _ ih =>
  refine .tu _ fun c hc => ?_; obtain ⟨j, hj⟩ := List.getElem?_of_mem hc; have hlt : j < xs.size := by rw [hl]; exact (List.getElem?_eq_some_iff.1 hj).1
  exact ih j _ c (Array.getElem?_eq_getElem hlt) hj
 | fn f xs ys fi ca hl hl' _ _ ih ih' =>
  refine .fn _ _ _ (fun c hc => ?_) (fun c hc => ?_)
  ·obtain ⟨j, hj⟩ := List.getElem?_of_mem hc; have hlt : j < xs.size := by rw [hl]; exact (List.getElem?_eq_some_iff.1 hj).1
   exact ih j _ c (Array.getElem?_eq_getElem hlt) hj
  ·obtain ⟨j, hj⟩ := List.getElem?_of_mem hc; have hlt : j < ys.size := by rw [hl']; exact (List.getElem?_eq_some_iff.1 hj).1
   exact ih' j _ c (Array.getElem?_eq_getElem hlt) hj
 | ifc t x c _ ih => exact .ifc _ _ ih
 | p k off x hk hx h => exact .p _ _ hk
 | mp k x hk hx h => exact .mp _ hk
 | os k m x hk h hx => exact .os _ _ hk
 | pr k m off x hk hx h => exact .pr _ _ _ hk
 | bs k off m x hk hx h => exact .bs _ _ _ hk
theorem NB.mono {n n' : Nat} (hn : n ≤ n') {i : IV} (h : NB n i) : NB n' i := by
 induction h with
 | v x => exact .v x
 | any => exact .any
 | blk b xs => exact .blk b xs
 | sl sz es _ ih => exact .sl _ _ ih
 | cp cs _ ih => exact .cp _ ih
 | ag cs _ ih => exact .ag _ ih
 | tu cs _ ih => exact .tu _ ih
 | fn f a b _ _ ih ih' => exact .fn _ _ _ ih ih'
 | ifc t x _ ih => exact .ifc _ _ ih
 | p k off h => exact .p _ _ (by omega)
 | mp k h => exact .mp _ (by omega)
 | os k m h => exact .os _ _ (by omega)
 | pr k m off h => exact .pr _ _ _ (by omega)
 | bs k off m h => exact .bs _ _ _ (by omega)
def NBo (n : Nat) : HO → Prop
  | .cells cs => ∀ c, c ∈ cs → NB n c
  | .row _ es => ∀ e, e ∈ es → ∀ c, c ∈ e → NB n c
  | .obj _ => True
  | .map es => ∀ e, e ∈ es → NB n e.2
  | .Dx _ _ es => ∀ e, e ∈ es → NB n e.2
  | .it km _ _ _ => km < n
  | .ty _ o => NBo n o
theorem NBo.mono {n m : Nat} (h : n ≤ m) {o : HO} (k : NBo n o) : NBo m o := by
 induction o with
 | cells _ => exact fun c hc => (k c hc).mono h
 | row _ _ => exact fun e he c hc => (k e he c hc).mono h
 | obj _ => trivial
 | map _ => exact fun e he => (k e he).mono h
 | Dx _ _ _ => exact fun e he => (k e he).mono h
 | it _ _ _ _ => exact Nat.lt_of_lt_of_le k h
 | ty _ _ ih => exact ih k
theorem Bx.nb {w : World} {g : Gs} {xs : Array Value} {cs : List IV} (h : Bx w g xs cs) : ∀ c, c ∈ cs → NB g.nx c := by
 intro c hc; obtain ⟨j, hj⟩ := List.getElem?_of_mem hc; obtain ⟨x, _, _, hr⟩ := h.2 j c hj; exact hr.nb
theorem Ct.nb {w : World} {g : Gs} {x : Value} {o : HO} (h : Ct w g x o) : NBo g.nx o := by
 induction o with
 | cells cs =>
  obtain ⟨b, xs, el, f, _, _, _, hc⟩ := h; exact hc.nb
 | row sz es =>
  obtain ⟨a, cap, _, h1, _, _, _, h2⟩ := h; rcases h2 with ⟨_, rfl⟩ | ⟨b, xs, el, f, _, _, _, _, hc⟩
  ·have : es = [] := List.eq_nil_of_length_eq_zero (by omega); subst this; intro e he; simp at he
  ·intro e he c hc'; exact hc.nb c (List.mem_flatten.2 ⟨e, he, hc'⟩)
 | obj o => trivial
 | map es =>
  obtain ⟨b, ents, clock, _, _, h3⟩ := h; intro e he; obtain ⟨i, hi⟩ := List.getElem?_of_mem he; have hlt : i < ents.size := by rw [h3.size]; exact (List.getElem?_eq_some_iff.1 hi).1
  exact (h3.ent i _ e (Array.getElem?_eq_getElem hlt) hi).2.nb
 | Dx bs c es =>
  obtain ⟨b, ents, _, _, h3, _⟩ := h; intro e he; obtain ⟨i, hi⟩ := List.getElem?_of_mem he; have hlt : i < ents.size := by rw [h3.size]; exact (List.getElem?_eq_some_iff.1 hi).1
  exact (h3.ent i _ e (Array.getElem?_eq_getElem hlt) hi).2.nb
 | it km since seen c =>
  obtain ⟨b, bm, _, _, h3⟩ := h; cases h3 with
  | mp _ _ hk _ _ => exact hk
 | ty t o ih => exact ih h.1
theorem Bx.to {w : World} {g : Gs} {J : A0} (hs : ∀ k q, J.sh k = some q → g.sh k = some q) {xs : Array Value} {cs : List IV} (h : Bx w g xs cs) (hn : ∀ c, c ∈ cs → NB J.next c) : Bx w (g.to J) xs cs :=
  ⟨h.1, fun j c hj => let ⟨x, h1, h2, h3⟩ := h.2 j c hj; ⟨x, h1, h2, h3.to hs (hn c (List.mem_of_getElem? hj))⟩⟩
theorem Ct.to {w : World} {g : Gs} {J : A0} (hs : ∀ k q, J.sh k = some q → g.sh k = some q) {x : Value} {o : HO} (h : Ct w g x o) (hn : NBo J.next o) : Ct w (g.to J) x o := by
 induction o with
 | cells cs =>
  obtain ⟨b, xs, el, f, h1, h2, h3, hc⟩ := h; exact ⟨b, xs, el, f, h1, h2, h3, hc.to hs hn⟩
 | row sz es =>
  obtain ⟨a, cap, h1, h2, h3, h4, h5, h6⟩ := h; refine ⟨a, cap, h1, h2, h3, h4, h5, ?_⟩; rcases h6 with h6 | ⟨b, xs, el, f, h7, h8, h9, h10, hc⟩
  ·exact .inl h6
  ·exact .inr ⟨b, xs, el, f, h7, h8, h9, h10, hc.to hs fun c hc' => by obtain ⟨e, he, hc''⟩ := List.mem_flatten.1 hc'; exact hn e he c hc''⟩
 | obj o => exact h
 | map es =>
  obtain ⟨b, ents, clock, h1, h2, h3⟩ := h; exact ⟨b, ents, clock, h1, h2, h3.imp fun x e he hx => hx.to hs (hn e he)⟩
 | Dx bs c es =>
  obtain ⟨b, ents, h1, h2, h3, h4⟩ := h; exact ⟨b, ents, h1, h2, h3.imp fun x e he hx => hx.to hs (hn e he), h4⟩
 | it km since seen c =>
  obtain ⟨b, bm, h1, h2, h3⟩ := h; exact ⟨b, bm, h1, h2, h3.to hs (.mp _ hn)⟩
 | ty t o ih => exact ⟨ih h.1 hn, h.2⟩
structure Cw (H H' J : A0) : Prop where
  lo : H.next ≤ J.next
  hi : J.next ≤ H'.next
  sub : K6 J H'
  lt : ∀ k o, J.obj k = some o → k < J.next
  nb : J.next = H'.next ∨ ∀ k o, J.obj k = some o → H.obj k = some o ∨ NBo J.next o
  sn : J.sn = H.sn
theorem Cw.sim {w0 w : World} {g0 g : Gs} {H H' J : A0} (h : Cw H H' J) (s0 : Sim w0 g0 H) (m : AB w0 g0 w g) (s : Sim w g H') : Sim w (g.to J) J ∧ AB w0 g0 w (g.to J) := by
 have hs := h.sub.sh s
 suffices hm : AB w0 g0 w (g.to J) from by
  refine ⟨⟨rfl, fun _ => rfl, ?_, ?_, ?_, ?_, s.old, fun p hp i hi => (s0.snap p (by rw [← h.sn]; exact hp) i hi).mono hm⟩, hm⟩
  ·intro k hk; obtain ⟨o, ho⟩ := Option.isSome_iff_exists.1 hk; exact h.lt k o ho
  ·intro k b h1 h2; obtain ⟨q, hq⟩ := Option.isSome_iff_exists.1 h1; exact s.bk k b (by rw [hs k q hq]; rfl) h2
  ·intro k k' b h1 h2 h3 h4; obtain ⟨q, hq⟩ := Option.isSome_iff_exists.1 h1; obtain ⟨q', hq'⟩ := Option.isSome_iff_exists.1 h2; exact s.inj k k' b (by rw [hs k q hq]; rfl) (by rw [hs k' q' hq']; rfl) h3 h4
  ·intro k o ho; refine (s.obj k o (h.sub k o ho)).to hs ?_; have hnb := (s.obj k o (h.sub k o ho)).nb; rcases h.nb with e | e
   ·rw [e, ← s.nx]; exact hnb
   ·rcases e k o ho with e | e
    ·have h0 := (s0.obj k o e).nb; rw [s0.nx] at h0; exact h0.mono h.lo
    ·exact e
 refine ⟨m.size, m.os, m.tape, m.output, m.keep, fun b hb ho => m.own b hb (Ig hs ho), m.oth, by show g0.nx ≤ J.next; rw [s0.nx]; exact h.lo, ?_, ?_⟩
 ·intro k hk hf; exact m.fx k hk (hs k _ hf)
 ·intro k m' hk hf; exact m.row k m' hk (hs k _ hf)
end Go.Idl
namespace Go.Idl
open Go Go.RowKit
variable {P : Program} {N : Nat} {tm : Tm} {H : A0}
structure Agr (w w' : World) (g : Gs) : Prop where
  size : w'.heap.size = w.heap.size
  os : w'.os = w.os
  tape : w'.tape = w.tape
  output : w'.output = w.output
  cells : ∀ (b : Nat) xs el f, w.heap[b]? = some (Obj.cells xs el f) → w'.heap[b]? = w.heap[b]?
  own : ∀ b, g.named b → w'.heap[b]? = w.heap[b]?
theorem Agr.refl (w : World) (g : Gs) : Agr w w g := ⟨rfl, rfl, rfl, rfl, fun _ _ _ _ _ => rfl, fun _ _ => rfl⟩
theorem Agr.cell {w w' : World} {g : Gs} (h : Agr w w' g) {a : Addr} {x : Value} (hx : w.cell? a = some x) : w'.cell? a = some x := by
 unfold World.cell? at hx ⊢; cases hb : w.heap[a.block]? with
 | none => simp [hb] at hx
 | some o =>
  cases o with
  | cells xs el f => rw [h.cells _ _ _ _ hb, hb]; rw [hb] at hx; exact hx
  | _ => simp [hb] at hx
theorem R.agr {w w' : World} {g : Gs} (h : Agr w w' g) {x : Value} {i : IV} (hx : R w g x i) : R w' g x i := by
 induction hx with
 | v x => exact .v x
 | any x => exact .any x
 | blk b xs el f x hb h1 => exact .blk b xs el f x hb ((h.cells _ _ _ _ h1).trans h1)
 | sl0 a cap sz => exact .sl0 a cap sz
 | sl b off cap sz es cv hb hlt hlen hcap hsz hc ho _ ih => exact .sl b off cap sz es cv hb (by rw [h.size]; exact hlt) hlen hcap hsz (fun i e j c h1 h2 => h.cell (hc i e j c h1 h2)) ho ih
 | cp b off cs cv hb hlt hc ho _ ih => exact .cp b off cs cv hb (by rw [h.size]; exact hlt) (fun j c h1 => h.cell (hc j c h1)) ho ih
 | ag xs cs hl ho _ ih => exact .ag xs cs hl ho ih
 | tu xs cs hl _ ih => exact .tu xs cs hl ih
 | fn f xs ys fi ca hl hl' _ _ ih ih' => exact .fn f xs ys fi ca hl hl' ih ih'
 | ifc t x c _ ih => exact .ifc t x c ih
 | p k off x hk hx h => exact .p k off x hk hx h
 | mp k x hk hx h => exact .mp k x hk hx h
 | os k m x hk h hx => exact .os k m x hk h hx
 | pr k m off x hk hx h => exact .pr k m off x hk hx h
 | bs k off m x hk hx h => exact .bs k off m x hk hx h
theorem Bx.agr {w w' : World} {g : Gs} (h : Agr w w' g) {xs : Array Value} {cs : List IV} (hc : Bx w g xs cs) : Bx w' g xs cs :=
  ⟨hc.1, fun j c hj => let ⟨x, h1, h2, h3⟩ := hc.2 j c hj; ⟨x, h1, h2, h3.agr h⟩⟩
theorem Sim.agr {w w' : World} {g : Gs} (h : Agr w w' g) (s : Sim w g H) : Sim w' g H := by
 refine ⟨s.nx, s.sh, s.lt, fun k b h1 h2 => ⟨(s.bk k b h1 h2).1, by rw [h.size]; exact (s.bk k b h1 h2).2⟩, s.inj, fun k o ho => ?_, fun b hb => by rw [h.size]; exact s.old b hb, fun p hp i hi => (s.snap p hp i hi).agr h⟩; have hob := s.obj k o ho; have hn : ∀ b, blk (g.mu k) = some b → w'.heap[b]? = w.heap[b]? := fun b hb => h.own b ⟨k, by rw [s.sh, A0.sh, ho]; rfl, hb⟩; clear ho
 induction o with
 | cells cs =>
  obtain ⟨b, xs, el, f, h1, h2, h3, hc⟩ := hob; exact ⟨b, xs, el, f, h1, (hn b (by rw [h1]; rfl)).trans h2, h3, hc.agr h⟩
 | row sz es =>
  obtain ⟨a, cap, h1, h2, h3, h4, h5, h6⟩ := hob; refine ⟨a, cap, h1, h2, h3, h4, h5, ?_⟩; rcases h6 with h6 | ⟨b, xs, el, f, h7, h8, h9, h10, hc⟩
  ·exact .inl h6
  ·exact .inr ⟨b, xs, el, f, h7, (hn b (by rw [h1, h7]; rfl)).trans h8, h9, h10, hc.agr h⟩
 | obj o =>
  obtain ⟨b, h1, h2, h3⟩ := hob; exact ⟨b, h1, (hn b (by rw [h1]; rfl)).trans h2, h3⟩
 | map es =>
  obtain ⟨b, ents, clock, h1, h2, h3⟩ := hob; exact ⟨b, ents, clock, h1, (hn b (by rw [h1]; rfl)).trans h2, h3.imp fun x e _ hx => hx.agr h⟩
 | Dx bs c es =>
  obtain ⟨b, ents, h1, h2, h3, h4⟩ := hob; exact ⟨b, ents, h1, (hn b (by rw [h1]; rfl)).trans h2, h3.imp fun x e _ hx => hx.agr h, h4⟩
 | it km since seen c =>
  obtain ⟨b, bm, h1, h2, h3⟩ := hob; exact ⟨b, bm, h1, (hn b (by rw [h1]; rfl)).trans h2, h3.agr h⟩
 | ty t o ih => exact ⟨ih hob.1, hob.2.keep hn⟩
theorem E8 {fn : Func} {tmps : Array Value} {R' : Ending → World → Prop} {u : FrameMode} {B : Nat} {w0 : World} (hB : w0.heap.size ≤ B) (hu : u ≠ .run) : ∀ (ds : List Deferred) {w : World} {g g0 : Gs},
    Bf none B w g ds → AB w0 g0 w g → (∀ w', Agr w w' g → AB w0 g0 w' g → LeavesIn (FR none) 0 P fn tmps R' [] u w') → LeavesInM (FR none) 0 P fn tmps R' ds u w
  | [], w, g, g0, _, m0, k => k w (.refl w g) m0
  | d :: ds, w, g, g0, ⟨⟨r, h1, h2, h3, h4, h5, h6⟩, hm⟩, m0, k => by
    refine ⟨hu, .inl ⟨r, _, by rw [h1], run_takeDeferred h4, ?_⟩⟩
    have hag : Agr w (w.putObj r (.deferred none)) g := by
      refine ⟨by simp, rfl, rfl, rfl, fun b xs el f hb => ?_, fun b hb => ?_⟩
      · exact World.putObj_heap_other (fun e => by subst e; rw [h4] at hb; cases hb)
      · exact World.putObj_heap_other (fun e => by subst e; exact h5 (.inr hb))
    have hm0 : AB w0 g0 (w.putObj r (.deferred none)) g := by
      refine ⟨by simpa using m0.size, m0.os, m0.tape, m0.output, fun b hb hn => ?_, m0.own, m0.oth, m0.nx, m0.fx, m0.row⟩
      rw [← m0.keep b hb hn]
      exact World.putObj_heap_other (by omega)
    have hmk : ∀ (l : List Deferred), (∀ d', d' ∈ l → d'.target ≠ .collected r) → Bf none B w g l → Bf none B (w.putObj r (.deferred none)) g l := by
      intro l
      induction l with
      | nil => exact fun _ _ r e => by cases e
      | cons e l ih =>
        rintro hne ⟨⟨q, q1, q2, q3, q4, q5, q6⟩, q7⟩
        refine ⟨⟨q, q1, q2, by simpa using q3, ?_, q5, q6⟩, ih (fun d' hd => hne d' (List.mem_cons_of_mem _ hd)) q7⟩
        rw [← q4]
        refine World.putObj_heap_other fun e' => ?_
        subst e'
        exact hne e (by simp) (by rw [q1])
    refine E8 hB hu ds (hmk ds h6 hm) hm0 fun w' a' m' => k w' ?_ m'
    refine ⟨by rw [a'.size, hag.size], a'.os.trans hag.os, a'.tape.trans hag.tape, a'.output.trans hag.output, fun b xs el f hb => ?_, fun b hb => (a'.own b hb).trans (hag.own b hb)⟩
    have e1 := hag.cells b xs el f hb
    exact (a'.cells b xs el f (e1.trans hb)).trans e1
def rvI (P : Program) (H : A0) (tm : Tm) : ResultVar → Option (Prop × IV)
  | .tmp t => some (True, tm t)
  | .cell a t => ldN P H t (tm a)
def GH (P : Program) (H : A0) (tm : Tm) : List ResultVar → Option (Prop × List IV)
  | [] => some (True, [])
  | r :: rs =>
    match rvI P H tm r with
    | some (s, x) => match GH P H tm rs with | some (s', xs) => some (s ∧ s', x :: xs) | none => none
    | none => none
def KX : List IV → IV
  | [x] => x
  | l => .tu l
def rvN (N : Nat) : ResultVar → Bool
  | .tmp t => decide (t < N)
  | .cell a _ => decide (a < N)
theorem NL {w : World} {g : Gs} {tmps : Array Value} (sm : Sim w g H) (ra : ∀ i, i < tmps.size → R w g (tmps.getD i undef) (tm i)) {r : ResultVar} (hr : rvN tmps.size r = true) {s : Prop} {i : IV} (h : rvI P H tm r = some (s, i)) (hs : s) :
    ∃ v, (match r with | .tmp t => pure (tmps.getD t undef) | .cell a t => do loadVar t (← asAddr (tmps.getD a undef)) : Sem Value).run P w = .ok v w ∧ R w g v i := by
 cases r with
 | tmp t =>
  simp only [rvI, Option.some.injEq, Prod.mk.injEq] at h; obtain ⟨_, rfl⟩ := h; exact ⟨_, by simp, ra t (by simpa [rvN] using hr)⟩
 | cell a t =>
  obtain ⟨v, h1, h2⟩ := Jr (P := P) sm (ra a (by simpa [rvN] using hr)) h hs; refine ⟨v, ?_, h2⟩; rw [← h1]; simp only [Instr.loadAt]; generalize tmps.getD a undef = x at h1; cases x with
  | pointer q =>
   cases q with
   | none => simp [Instr.loadAt, Instr.sureAddr, stuck] at h1
   | some q => simp [Instr.sureAddr, asAddr]
  | _ => simp [Instr.loadAt, Instr.sureAddr, stuck] at h1
theorem Ih {w : World} {g : Gs} {tmps : Array Value} (sm : Sim w g H) (ra : ∀ i, i < tmps.size → R w g (tmps.getD i undef) (tm i)) : ∀ (l : List ResultVar), (∀ r, r ∈ l → rvN tmps.size r = true) → ∀ {s : Prop} {is : List IV}, GH P H tm l = some (s, is) → s →
    ∃ vs : List Value, (l.mapM fun r : ResultVar => (match r with | .tmp t => pure (tmps.getD t undef) | .cell a t => do loadVar t (← asAddr (tmps.getD a undef)) : Sem Value)).run P w = .ok vs w ∧ vs.length = is.length ∧ ∀ (j : Nat) (x : Value) (c : IV), vs[j]? = some x → is[j]? = some c → R w g x c
  | [], _, s, is, h, _ => by
    simp only [GH, Option.some.injEq, Prod.mk.injEq] at h
    obtain ⟨_, rfl⟩ := h
    exact ⟨[], by simp, rfl, by simp⟩
  | r :: rs, hl, s, is, h, hs => by
    unfold GH at h
    split at h
    · rename_i s1 x h1
      split at h
      · rename_i s2 xs h2
        simp only [Option.some.injEq, Prod.mk.injEq] at h
        obtain ⟨rfl, rfl⟩ := h
        obtain ⟨v, q1, q2⟩ := NL (P := P) sm ra (hl r (by simp)) h1 hs.1
        obtain ⟨vs, q3, q4, q5⟩ := Ih sm ra rs (fun r hr => hl r (by simp [hr])) h2 hs.2
        refine ⟨v :: vs, ?_, by simp [q4], ?_⟩
        · simp only [List.mapM_cons, Sem.run_bind, q1, Result.andThen, q3, Sem.run_pure]
        · intro j x c e1 e2
          cases j with
          | zero => simp at e1 e2; subst e1; subst e2; exact q2
          | succ j => simp at e1 e2; exact q5 j x c e1 e2
      · cases h
    · cases h
def GhR (r : IV) (H : A0) (r' : IV) (J : A0) : Prop := ∀ (w : World) (g : Gs), Sim w g H → ∃ g', AB w g w g' ∧ Sim w g' J ∧ ∀ x, R w g x r → R w g' x r'
theorem GhR.refl (r : IV) (H : A0) : GhR r H r H := fun w g s => ⟨g, .refl w g, s, fun _ h => h⟩
theorem GhR.trans {r r1 r2 : IV} {H H1 H2 : A0} (h : GhR r H r1 H1) (k : GhR r1 H1 r2 H2) : GhR r H r2 H2 := fun w g s => by
  obtain ⟨g1, m1, s1, h1⟩ := h w g s
  obtain ⟨g2, m2, s2, h2⟩ := k w g1 s1
  exact ⟨g2, m1.tr m2 s s1, s2, fun x hx => h2 x (h1 x hx)⟩
theorem GhR.wk {r r' : IV} {H : A0} (h : Wk r r') : GhR r H r' H := fun w g s => ⟨g, .refl w g, s, fun x hx => h w g x hx⟩
def Vz (H0 H : A0) (r : IV) (J : A0) (r' : IV) : Prop := ∀ (w0 : World) (g0 : Gs) (w : World) (g : Gs), Sim w0 g0 H0 → AB w0 g0 w g → Sim w g H → ∃ g', AB w0 g0 w g' ∧ Sim w g' J ∧ ∀ x, R w g x r → R w g' x r'
def KY (r : IV) (H0 : A0) (Q : An → A0 → Prop) (H : A0) : Prop := (∃ r' J, Cw H0 H J ∧ Fz H J r r' ∧ Q (.ret r') J) ∨ ∃ r' J, (GhR r H r' J ∨ Vz H0 H r J r') ∧ Q (.ret r') J
def K7 (P : Program) (rs : List ResultVar) (H0 : A0) (Q : An → A0 → Prop) (tm : Tm) (H : A0) : Prop :=
  ∃ s is, GH P H tm rs = some (s, is) ∧ s ∧ KY (KX is) H0 Q H
def M8 (P : Program) (rs : List ResultVar) (H0 : A0) (Q : An → A0 → Prop) : Exit → Tm → A0 → Prop
  | .normal, tm, H => K7 P rs H0 Q tm H
  | .ret, tm, H => K7 P rs H0 Q tm H
  | .panic ch, _, H => (∃ J, Cw H0 H J ∧ Q (.pan ch) J) ∨ Q (.pan ch) H
  | .exit _, _, _ => False
  | .goto _, _, _ => False
  | .outgrown, _, _ => False
def tm0 (args : List IV) : Tm := fun i => args.getD i (.v undef)
def A0.Wf (H : A0) : Prop := ∀ k, H.next ≤ k → H.obj k = none
theorem Sim.wf {w : World} {g : Gs} (s : Sim w g H) : H.Wf := by
 intro k hk; cases h : H.obj k with
 | none => rfl
 | some o => have := s.lt k (by rw [h]; rfl); omega
theorem Ew {fn : Func} {w : World} {g : Gs} {tmps : Array Value} (sm : Sim w g H) (ra : ∀ i, i < tmps.size → R w g (tmps.getD i undef) (tm i)) (hl : ∀ r, r ∈ fn.results.toList → rvN tmps.size r = true) {s : Prop} {is : List IV}
    (h : GH P H tm fn.results.toList = some (s, is)) (hs : s) : ∃ v, (results fn tmps).run P w = .ok v w ∧ R w g v (KX is) := by
 obtain ⟨vs, h1, h2, h3⟩ := Ih (P := P) sm ra _ hl h hs; have hm : ∀ F : ResultVar → Sem Value, fn.results.mapM F = (do return (← fn.results.toList.mapM F).toArray) := fun F => by
  generalize fn.results = rs; cases rs with | _ l => rw [List.mapM_toArray]; simp
 refine ⟨if h : vs.toArray.size = 1 then vs.toArray[0] else .tuple vs.toArray, ?_, ?_⟩
 ·unfold results; simp only [Sem.run_bind]; rw [hm]; simp only [Sem.run_bind, Sem.run_pure]; have h1' := h1
  erw [h1']
  simp [Result.andThen]
 ·match vs, is, h2 with
  | [v], [i], _ => simpa [KX] using h3 0 v i rfl rfl
  | [], [], _ => simpa [KX] using R.tu #[] [] rfl (by simp)
  | v1 :: v2 :: vs, i1 :: i2 :: is, h2 =>
   simp only [KX]; have : ¬ (v1 :: v2 :: vs).toArray.size = 1 := by simp
   rw [dif_neg this]; exact .tu _ _ (by simpa using h2) (fun j x c e1 e2 => h3 j x c (by simpa using e1) e2)
theorem Fl {f : FuncId} {fn : Func} {c : Code} {args : List IV} {Q : An → A0 → Prop} (hbd : Bq P f = true) (hf : P.funcs[f]? = some fn) (hb : fn.body = some c) (hn : args.length ≤ fn.ntmps) (hr : (fn.results.toList.all (rvN fn.ntmps)) = true)
    (h : H.Wf → IWp P fn.ntmps c (M8 P fn.results.toList H Q) (tm0 args) H) : A2 P f args H Q := by
 refine ⟨hbd, fun w g vs s rl => ?_⟩; have hN : (vs ++ Array.replicate (fn.ntmps - vs.size) undef).size = fn.ntmps := by
  have := rl.1; simp; omega
 refine callsIn_wide.1 (callsIn_of_wp_marks (F := FR none) (n := 0) hf hb trivial (wpIn_mono ((h s.wf).run none w.heap.size [] w g { tmps := vs ++ Array.replicate (fn.ntmps - vs.size) undef, defers := [] } s ?_ hN (Nat.le_refl _) ⟨[], rfl, fun r e => by cases e⟩) ?_))
 ·intro i hi; simp only at hi; rcases Nat.lt_or_ge i vs.size with hlt | hge
  ·have hil : i < args.length := by rw [← rl.1]; exact hlt
   have := rl.2 i vs[i] args[i] (Array.getElem?_eq_getElem hlt) (List.getElem?_eq_getElem hil); have e1 : (vs ++ Array.replicate (fn.ntmps - vs.size) undef).getD i undef = vs[i] := by
    rw [Array.getD_eq_getD_getElem?, Array.getElem?_append_left hlt]; simp [hlt]
   have e2 : tm0 args i = args[i] := by simp [tm0, hil]
   rw [e1, e2]; exact this
  ·have hil : ¬ i < args.length := by rw [← rl.1]; omega
   have e1 : (vs ++ Array.replicate (fn.ntmps - vs.size) undef).getD i undef = undef := by
    rw [Array.getD_eq_getD_getElem?, Array.getElem?_append_right hge, Array.getElem?_replicate]; split <;> rfl
   have e2 : tm0 args i = .v undef := by simp [tm0, List.getElem?_eq_none (by omega : args.length ≤ i)]
   rw [e1, e2]; exact .v _
 ·rintro e a' w' ⟨tm', g', H', m, s', ra, hN', hm, hne, hq⟩
  obtain ⟨ms, hms, hm⟩ := hm; rw [List.append_nil] at hms; subst hms; have hrn : ∀ r, r ∈ fn.results.toList → rvN a'.tmps.size r = true := by
   rw [hN']; exact List.all_eq_true.1 hr
  have key : K7 P fn.results.toList H Q tm' H' → LeavesInM (FR none) 0 P fn a'.tmps (fun e w' => ∃ ie g' H', AB w g w' g' ∧ Sim w' g' H' ∧ RE w' g' e ie ∧ Q ie H') a'.defers .returning w' := by
   rintro ⟨st, is, h1, h2, h3⟩
   refine E8 (Nat.le_refl _) (by simp) a'.defers hm m fun w'' ag m'' => ?_; have s'' := s'.agr ag; obtain ⟨v, q1, q2⟩ := Ew (P := P) s'' (fun i hi => (ra i hi).agr ag) hrn h1 h2; rcases h3 with ⟨r', J, h3, h4, h5⟩ | ⟨r', J, h3 | h3, h5⟩
   ·obtain ⟨sJ, mJ⟩ := h3.sim s m'' s''; exact ⟨v, q1, _, _, J, mJ, sJ, .ret _ _ (h4.sound s'' h3.sub q2), h5⟩
   ·obtain ⟨g3, m3, s3, h4⟩ := h3 w'' g' s''; exact ⟨v, q1, _, _, J, m''.tr m3 s s'', s3, .ret _ _ (h4 _ q2), h5⟩
   ·obtain ⟨g3, m3, s3, h4⟩ := h3 w g w'' g' s m'' s''; exact ⟨v, q1, _, _, J, m3, s3, .ret _ _ (h4 _ q2), h5⟩
  cases e with
  | normal => exact key hq
  | ret => exact key hq
  | panic ch =>
   refine E8 (Nat.le_refl _) (by simp) a'.defers hm m fun w'' ag m'' => ?_; rcases hq with ⟨J, h3, h5⟩ | h5
   ·obtain ⟨sJ, mJ⟩ := h3.sim s m'' (s'.agr ag); exact ⟨_, _, J, mJ, sJ, .pan _, h5⟩
   ·exact ⟨_, _, H', m'', s'.agr ag, .pan _, h5⟩
  | exit id => exact hq.elim
  | goto id => exact hq.elim
  | outgrown => exact hq.elim
structure Ext (H H' : A0) : Prop where
  wf : H.Wf
  le : H.next ≤ H'.next
  sub : ∀ k o, H.obj k = some o → H'.obj k = some o
  sn : H'.sn = H.sn
theorem Ext.refl (h : H.Wf) : Ext H H := ⟨h, Nat.le_refl _, fun _ _ h => h, rfl⟩
theorem Ext.new {H' : A0} (h : Ext H H') (o : HO) : Ext H (H'.new o) := by
 refine ⟨h.wf, Nat.le_succ_of_le h.le, fun k o' hk => ?_, h.sn⟩; simp only [A0.new]; by_cases e : k = H'.next
 ·have h1 := h.wf k (by rw [e]; exact h.le); rw [h1] at hk; cases hk
 ·rw [if_neg e]; exact h.sub k o' hk
theorem Ext.set {H' : A0} (h : Ext H H') {k : Nat} (hk : H.next ≤ k) (o : HO) : Ext H (H'.set k o) := by
 refine ⟨h.wf, h.le, fun i o' hi => ?_, h.sn⟩; simp only [A0.set]; by_cases e : i = k
 ·have h1 := h.wf i (by rw [e]; exact hk); rw [h1] at hi; cases hi
 ·rw [if_neg e]; exact h.sub i o' hi
theorem Ext.del {H' : A0} (h : Ext H H') {k : Nat} (hk : H.next ≤ k) : Ext H (H'.del k) := by
 refine ⟨h.wf, h.le, fun i o' hi => ?_, h.sn⟩; simp only [A0.del]; by_cases e : i = k
 ·have h1 := h.wf i (by rw [e]; exact hk); rw [h1] at hi; cases hi
 ·rw [if_neg e]; exact h.sub i o' hi
theorem Ext.trans {H' H'' : A0} (h : Ext H H') (h' : Ext H' H'') : Ext H H'' := ⟨h.wf, Nat.le_trans h.le h'.le, fun k o e => h'.sub k o (h.sub k o e), h'.sn.trans h.sn⟩
theorem Ext.DN {H' : A0} (h : Ext H H') : Cw H H' H := by
 refine ⟨Nat.le_refl _, h.le, h.sub, fun k o hk => ?_, .inr fun k o hk => .inl hk, rfl⟩; rcases Nat.lt_or_ge k H.next with e | e
 ·exact e
 ·rw [h.wf k e] at hk; cases hk
def Gh (tm : Tm) (H : A0) (tm' : Tm) (H' : A0) : Prop := ∀ (w : World) (g : Gs), Sim w g H → ∃ g', AB w g w g' ∧ Sim w g' H' ∧ ∀ a, RA w g a tm → RA w g' a tm'
theorem Gh.refl (tm : Tm) (H : A0) : Gh tm H tm H := fun w g s => ⟨g, .refl w g, s, fun _ r => r⟩
theorem Gh.trans {tm tm1 tm2 : Tm} {H H1 H2 : A0} (h : Gh tm H tm1 H1) (k : Gh tm1 H1 tm2 H2) : Gh tm H tm2 H2 := fun w g s => by
  obtain ⟨g1, m1, s1, r1⟩ := h w g s
  obtain ⟨g2, m2, s2, r2⟩ := k w g1 s1
  exact ⟨g2, m1.tr m2 s s1, s2, fun a r => r2 a (r1 a r)⟩
theorem Gh.wk {tm tm' : Tm} {H : A0} (h : ∀ i, Wk (tm i) (tm' i)) : Gh tm H tm' H := fun w g s => ⟨g, .refl w g, s, fun _ r i hi => h i _ _ _ (r i hi)⟩
theorem Gh.slot {tm : Tm} {H : A0} {d : Nat} {x : IV} (h : Wk (tm d) x) : Gh tm H (upd tm d x) H := .wk fun i => by
  unfold upd
  split
  · rename_i e; subst e; exact h
  · exact fun _ _ _ h => h
theorem IWp.gh {c : Code} {Q : Exit → Tm → A0 → Prop} {tm tm' : Tm} {H H' : A0} (hg : Gh tm H tm' H') (h : IWp P N c Q tm' H') : IWp P N c Q tm H := by
 refine ⟨fun rr B D w g a s r hN hB hm => ?_⟩; obtain ⟨g1, m1, s1, r1⟩ := hg w g s; exact wpIn_mono (h.run rr B D w g1 a s1 (r1 a r) hN hB (hm.mono m1)) fun e a' w' hp => Post.tr m1 s s1 hp
theorem G3 (H : A0) (hw : H.Wf) (k : Nat) : Cw H H (H.del k) := by
 refine ⟨Nat.le_refl _, Nat.le_refl _, fun i o h => ?_, fun i o h => ?_, .inl rfl, rfl⟩
 ·simp only [A0.del] at h; split at h
  ·cases h
  ·exact h
 ·simp only [A0.del] at h; split at h
  ·cases h
  ·rcases Nat.lt_or_ge i H.next with e | e
   ·exact e
   ·rw [hw i e] at h; cases h
theorem Gh.freeze {tm : Tm} {H : A0} {d k sz : Nat} {es : List (List IV)} (hk : H.obj k = some (.row sz es)) (hd : tm d = .os k es.length) : Gh tm H (upd tm d (.sl sz es)) (H.del k) := by
 intro w g s; have he := G3 H s.wf k; obtain ⟨s1, m1⟩ := he.sim s (.refl w g) s; refine ⟨_, m1, s1, fun a r i hi => ?_⟩; show R w _ _ (if i = d then _ else _); by_cases e : i = d
 ·rw [if_pos e]; subst e; have h1 := r i hi; rw [hd] at h1; refine (Fz.os k es.length sz es es (by simp [A0.del]) hk rfl rfl (fun j e e' h1 h2 => by rw [h1] at h2; cases h2; rfl) fun j e e' h1 h2 q c c' h3 h4 => ?_).sound s he.sub h1; rw [h1] at h2; cases h2; rw [h3] at h4; cases h4; refine .wk _ _ (fun _ _ _ h => h) ?_; have hnb := (s.obj k _ hk).nb; rw [s.nx] at hnb; exact hnb e (List.mem_of_getElem? h1) c (List.mem_of_getElem? h3)
 ·rw [if_neg e]; have h1 := r i hi; refine h1.to (he.sub.sh s) ?_; have := h1.nb
  rwa [s.nx] at this
def UpI (I : Tm → A0 → Prop) (tm : Tm) (H : A0) : Prop := ∃ tm1 H1, Gh tm H tm1 H1 ∧ I tm1 H1
def Up (I : Tm → A0 → Prop) (μ : Tm → A0 → Nat) (m : Nat) (tm : Tm) (H : A0) : Prop := ∃ tm1 H1, Gh tm H tm1 H1 ∧ I tm1 H1 ∧ μ tm1 H1 < m
theorem UpI.same {I : Tm → A0 → Prop} {tm : Tm} {H : A0} (h : I tm H) : UpI I tm H := ⟨tm, H, .refl _ _, h⟩
theorem Up.same {I : Tm → A0 → Prop} {μ : Tm → A0 → Nat} {m : Nat} {tm : Tm} {H : A0} (h : I tm H) (hm : μ tm H < m) : Up I μ m tm H := ⟨tm, H, .refl _ _, h, hm⟩
theorem Up.gh {I : Tm → A0 → Prop} {μ : Tm → A0 → Nat} {m : Nat} {tm tm' : Tm} {H H' : A0} (hg : Gh tm H tm' H') (h : Up I μ m tm' H') : Up I μ m tm H := by
 obtain ⟨tm1, H1, h1, h2⟩ := h; exact ⟨tm1, H1, hg.trans h1, h2⟩
theorem UpI.gh {I : Tm → A0 → Prop} {tm tm' : Tm} {H H' : A0} (hg : Gh tm H tm' H') (h : UpI I tm' H') : UpI I tm H := by
 obtain ⟨tm1, H1, h1, h2⟩ := h; exact ⟨tm1, H1, hg.trans h1, h2⟩
theorem NM {c : Code} {Q : Exit → Tm → A0 → Prop} (I : Tm → A0 → Prop) (μ : Tm → A0 → Nat) (h0 : UpI I tm H)
    (round : ∀ tm H, I tm H → IWp P N c (D9 (Up I μ (μ tm H)) Q) tm H) : IWp P N (.loop c) Q tm H := by
 obtain ⟨tm1, H1, hg, hI⟩ := h0; refine IWp.gh hg ?_; refine ⟨fun rr B D w0 g0 a0 s0 r0 hN0 hB0 hm0 => ?_⟩; intro b k cs hro hb hr; have key : ∀ j tm H, μ tm H = j → I tm H → ∀ (w : World) (g : Gs) (a : Act), AB w0 g0 w g → Sim w g H → RA w g a tm → a.tmps.size = N → Marks rr B D w g a.defers →
  ∃ e a' w', Post rr B D N Q w0 g0 e a' w' ∧ ArrivesIn (Machine.fenced P (FR rr)) P (lone (b.atR a (.code c :: .inLoop c :: k)) cs w) b k cs e a' w' := by
  intro j
  induction j using Nat.strongRecOn with
  | _ j ih =>
   intro tm H hn hI w g a m s r hN hm; obtain ⟨e, a₁, w₁, ⟨tm1, g1, H1, m1, s1, r1, n1, k1, ne, q⟩, harr⟩ := (round tm H hI).run rr B D w g a s r hN (Nat.le_trans hB0 m.size) hm b (.inLoop c :: k) cs hro hb hr; have mm := m.tr m1 s0 s; cases e with
   | normal =>
    obtain ⟨tm2, H2, hg, hI1, hlt⟩ := q; obtain ⟨g2, m2, s2, r2⟩ := hg w₁ g1 s1; obtain ⟨e₂, a₂, w₂, hq₂, harr₂⟩ := ih (μ tm2 H2) (hn ▸ hlt) tm2 H2 rfl hI1 w₁ g2 a₁ (mm.tr m2 s0 s1) s2 (r2 _ r1) n1 (k1.mono m2); exact ⟨e₂, a₂, w₂, hq₂, .of_steps (StepsIn.trans harr (.one (fenced_calm hb hr rfl) stepR_inLoop)) harr₂⟩
   | exit id => exact ⟨_, a₁, w₁, ⟨tm1, g1, H1, mm, s1, r1, n1, k1, ne, q⟩, .pass (x := .inLoop c) rfl (fun _ _ => .inl (by simp)) harr⟩
   | goto l => exact ⟨_, a₁, w₁, ⟨tm1, g1, H1, mm, s1, r1, n1, k1, ne, q⟩, .pass (x := .inLoop c) rfl (fun _ _ => .inl (by simp)) harr⟩
   | ret => exact ⟨_, a₁, w₁, ⟨tm1, g1, H1, mm, s1, r1, n1, k1, ne, q⟩, .pass (x := .inLoop c) rfl (fun _ _ => .inl (by simp)) harr⟩
   | panic ch => exact ⟨_, a₁, w₁, ⟨tm1, g1, H1, mm, s1, r1, n1, k1, ne, q⟩, .pass (x := .inLoop c) rfl (fun _ _ => .inl (by simp)) harr⟩
   | outgrown => exact absurd rfl ne
 obtain ⟨e, a', w', hq, harr⟩ := key _ tm1 H1 rfl hI w0 g0 a0 (.refl _ _) s0 r0 hN0 hm0; exact ⟨e, a', w', hq, .of_steps (.one (fenced_calm hb hr rfl) stepR_loop) harr⟩
end Go.Idl
namespace Go.Idl
open Go Go.RowKit
variable {P : Program} {N : Nat} {tm : Tm} {H : A0}
def AJ : TypeDesc → Value → Bool
  | .string, .string _ => true
  | .int j, .int k _ => decide (j = k)
  | _, _ => false
def DW : Value → Value → Bool
  | .string a, .string b => a == b
  | .int _ a, .int _ b => a == b
  | _, _ => false
def lkI (k : Value) (es : List (Value × IV)) : Option IV := (es.find? fun e => DW k e.1).map (·.2)
def Ep (k : Value) (v : IV) : List (Value × IV) → List (Value × IV)
  | [] => [(k, v)]
  | e :: es => if DW k e.1 = true then (k, v) :: es else e :: Ep k v es
def Fc (k : Value) : List (Value × IV) → List (Value × IV)
  | [] => []
  | e :: es => if DW k e.1 = true then es else e :: Fc k es
theorem OF {d : TypeDesc} {a b : Value} (ha : AJ d a = true) (hb : AJ d b = true) (h : DW a b = true) : a = b := by
 unfold AJ at ha hb; split at ha
 ·cases b <;> simp at hb; simp only [DW, Go.MapKept.bytes_beq] at h; rw [h]
 ·rename_i j k n; cases b <;> simp at hb; simp only [DW, beq_iff_eq] at h; simp only [decide_eq_true_eq] at ha; rw [h, ← ha, ← hb]
 ·cases ha
theorem M9 {d : TypeDesc} {a b : Value} (ha : AJ d a = true) (hb : AJ d b = true) : Instr.sameNow d a b = some (DW a b) := by
 unfold AJ at ha hb; split at ha
 ·cases b <;> simp at hb; rfl
 ·rename_i j k n; cases b <;> simp at hb; simp only [decide_eq_true_eq] at ha; subst ha; subst hb; simp [Instr.sameNow, DW]
 ·cases ha
theorem run_checkKey {kt : TypeId} {d : TypeDesc} {k : Value} (hd : P.underlying kt = some d) (hk : AJ d k = true) (e : Bool) (w : World) : (Instr.checkKey e 10000 kt k).run P w = .ok () w := by
 unfold Instr.checkKey; simp only [Sem.run_bind, run_underlying hd, Result.andThen_ok]; unfold AJ at hk; split at hk
 ·rfl
 ·rfl
 ·cases hk
theorem Ma {d : TypeDesc} {k : Value} (hk : AJ d k = true) : DW k k = true := by
 unfold AJ at hk; split at hk
 ·simp only [DW, Go.MapKept.bytes_beq]
 ·simp [DW]
 ·cases hk
theorem Hs {d : TypeDesc} {k : Value} (hk : AJ d k = true) : ∀ (ms : List MapEntry) (es : List (Value × IV)) (i : Nat), ms.length = es.length → (∀ (j : Nat) (me : MapEntry) (e : Value × IV), ms[j]? = some me → es[j]? = some e → me.key = e.1) → (∀ e, e ∈ es → AJ d e.1 = true) →
    (lkI k es = none ∧ Instr.findNow d k ms i = some none ∧ (∀ v, Ep k v es = es ++ [(k, v)]) ∧ Fc k es = es ∧ ∀ e, e ∈ es → e.1 ≠ k) ∨
    ∃ (j : Nat) (me : MapEntry) (e : Value × IV), ms[j]? = some me ∧ es[j]? = some e ∧ lkI k es = some e.2 ∧ Instr.findNow d k ms i = some (some (i + j, me.val)) ∧ e.1 = k ∧ (∀ v, Ep k v es = es.set j (k, v)) ∧ Fc k es = es.eraseIdx j
  | [], [], i, _, _, _ => .inl ⟨rfl, rfl, fun _ => rfl, rfl, by simp⟩
  | m :: ms, e :: es, i, hl, hkey, hok => by
    have hme : m.key = e.1 := hkey 0 m e rfl rfl
    have hoke := hok e (by simp)
    have hs := M9 hk hoke
    cases hq : DW k e.1 with
    | true =>
      refine .inr ⟨0, m, e, rfl, rfl, by simp [lkI, hq], ?_, (OF hk hoke hq).symm, fun v => by simp [Ep, hq], by simp [Fc, hq]⟩
      simp [Instr.findNow, hme, hs, hq]
    | false =>
      have hstep : Instr.findNow d k (m :: ms) i = Instr.findNow d k ms (i + 1) := by simp [Instr.findNow, hme, hs, hq]
      have hlk : lkI k (e :: es) = lkI k es := by simp [lkI, hq]
      rcases Hs hk ms es (i + 1) (by simpa using hl) (fun j me e' h1 h2 => hkey (j + 1) me e' (by simpa using h1) (by simpa using h2)) (fun e' h => hok e' (by simp [h])) with ⟨h1, h2, h3, h4, h5⟩ | ⟨j, me, e', h1, h2, h3, h4, h5, h6, h7⟩
      · refine .inl ⟨hlk.trans h1, hstep.trans h2, fun v => by simp [Ep, hq, h3], by simp [Fc, hq, h4], fun e' he' => ?_⟩
        rcases List.mem_cons.1 he' with rfl | he'
        · intro e1
          rw [e1, Ma hk] at hq
          cases hq
        · exact h5 e' he' 
      · exact .inr ⟨j + 1, me, e', by simpa using h1, by simpa using h2, hlk.trans h3, by rw [hstep, h4]; congr 3; omega, h5, fun v => by simp [Ep, hq, h6], by simp [Fc, hq, h7]⟩
  | [], _ :: _, _, hl, _, _ => by simp at hl
  | _ :: _, [], _, hl, _, _ => by simp at hl
theorem Eo.rel {w : World} {g : Gs} {ents : Array MapEntry} {clock : Nat} {es : List (Value × IV)} (h : Eo w g ents clock es) {d : TypeDesc} {k : Value} (hk : AJ d k = true) (hok : (es.all fun e => AJ d e.1) = true) :
    (lkI k es = none ∧ Instr.findNow d k ents.toList 0 = some none ∧ (∀ v, Ep k v es = es ++ [(k, v)]) ∧ Fc k es = es ∧ ∀ e, e ∈ es → e.1 ≠ k) ∨
    ∃ (j : Nat) (me : MapEntry) (e : Value × IV), ents[j]? = some me ∧ es[j]? = some e ∧ lkI k es = some e.2 ∧ Instr.findNow d k ents.toList 0 = some (some (j, me.val)) ∧ e.1 = k ∧ me.key = k ∧ (∀ v, Ep k v es = es.set j (k, v)) ∧ Fc k es = es.eraseIdx j := by
 rcases Hs hk ents.toList es 0 (by simpa using h.size) (fun j me e h1 h2 => (h.ent j me e (by simpa using h1) h2).1) (fun e he => List.all_eq_true.1 hok e he) with h1 | ⟨j, me, e, h1, h2, h3, h4, h5, h6, h7⟩
 ·exact .inl h1
 ·exact .inr ⟨j, me, e, by simpa using h1, h2, h3, by simpa using h4, h5, ((h.ent j me e (by simpa using h1) h2).1).trans h5, h6, h7⟩
def G4 (P : Program) : Nat → TypeId → List Nat
  | 0, _ => []
  | n + 1, t =>
    match P.underlying t with
    | some (.struct fs) => (fs.toList.map fun f => G4 P n f.type).flatten
    | some (.array k e) => (List.replicate k (G4 P n e)).flatten
    | some (.slice e) => [P.cellsOf e]
    | _ => [0]
def zvc : List Value → List Nat → List IV
  | .slice none 0 0 :: cs, ss => .sl (ss.headD 0) [] :: zvc cs ss.tail
  | c :: cs, ss => .v c :: zvc cs ss.tail
  | [], _ => []
theorem GI {w : World} {g : Gs} : ∀ (cs : List Value) (ss : List Nat), (zvc cs ss).length = cs.length ∧ ∀ (j : Nat) (x : Value) (c : IV), cs[j]? = some x → (zvc cs ss)[j]? = some c → R w g x c
  | [], _ => ⟨rfl, by simp⟩
  | c :: cs, ss => by
    obtain ⟨h1, h2⟩ := GI (w := w) (g := g) cs ss.tail
    unfold zvc
    split
    · rename_i cs' ss' he
      cases he
      refine ⟨by simp [h1], fun j x i e1 e2 => ?_⟩
      cases j with
      | zero => simp at e1 e2; subst e1; subst e2; exact .sl0 _ _ _
      | succ j => exact h2 j x i (by simpa using e1) (by simpa using e2)
    · rename_i c' cs' ss' hne he
      cases he
      refine ⟨by simp [h1], fun j x i e1 e2 => ?_⟩
      cases j with
      | zero => simp at e1 e2; subst e1; subst e2; exact .v _
      | succ j => exact h2 j x i (by simpa using e1) (by simpa using e2)
    · rename_i he
      cases he
def zvI (P : Program) (t : TypeId) : Option IV :=
  match zeroOf P t with
  | some (.slice none 0 0) => match P.underlying t with | some (.slice e) => some (.sl (P.cellsOf e) []) | _ => none
  | some (.agg cs) => if (cs.toList.all (·.oneCell')) = true then some (.ag (zvc cs.toList (G4 P 9 t))) else none
  | some z => some (.v z)
  | none => none
theorem NN {t : TypeId} {i : IV} (h : zvI P t = some i) (w : World) : ∃ z, (zeroValue t).run P w = .ok z w ∧ ∀ g, R w g z i := by
 unfold zvI at h; split at h
 ·rename_i hz; split at h
  ·simp only [Option.some.injEq] at h; subst h; exact ⟨_, BT hz w, fun g => .sl0 _ _ _⟩
  ·cases h
 ·rename_i cs hz; split at h
  ·rename_i hone; simp only [Option.some.injEq] at h; subst h; refine ⟨_, BT hz w, fun g => .ag _ _ ?_ (fun j x hx => List.all_eq_true.1 hone x (by rw [Array.mem_toList_iff]; exact Array.mem_of_getElem? hx)) fun j x c h1 h2 => ?_⟩
   ·rw [(GI (w := w) (g := g) cs.toList _).1]; simp
   ·exact (GI cs.toList _).2 j x c (by rw [Array.getElem?_toList]; exact h1) h2
  ·cases h
 ·rename_i z _ _ hz; simp only [Option.some.injEq] at h; subst h; exact ⟨_, BT hz w, fun g => .v _⟩
 ·cases h
def okI (ok : Bool) (z : IV) : Option IV → IV
  | some i => if ok = true then .tu [i, .v (.bool true)] else i
  | none => if ok = true then .tu [z, .v (.bool false)] else z
def lkX (P : Program) (H : A0) (t : TypeId) (x i : IV) (ok : Bool) : Option (Prop × IV) :=
  match P.underlying t with
  | some (.map kt et) =>
    match P.underlying kt, zvI P et, i with
    | some d, some z, .v k =>
      match x with
      | .mp m =>
        match H.obj m with
        | some (.map es) => some (AJ d k = true ∧ (es.all fun e => AJ d e.1) = true, okI ok z (lkI k es))
        | some (.Dx _ _ es) => some (AJ d k = true ∧ (es.all fun e => AJ d e.1) = true, okI ok z (lkI k es))
        | _ => none
      | .v (.map none) => some (AJ d k = true, okI ok z none)
      | _ => none
    | _, _, _ => none
  | _ => none
theorem Mb {w : World} {g : Gs} {x : Value} {i : IV} (h : R w g x i) (b : Bool) : R w g (.tuple #[x, .bool b]) (.tu [i, .v (.bool b)]) := by
 refine .tu _ _ rfl fun j y c h1 h2 => ?_
 match j with
 | 0 => simp at h1 h2; subst h1; subst h2; exact h
 | 1 => simp at h1 h2; subst h1; subst h2; exact .v _
 | j + 2 => simp at h1
theorem Ii {t kt et : TypeId} {d : TypeDesc} {b : Nat} {ents : Array MapEntry} {clock : Nat} {k z : Value} {w : World} (ht : P.underlying t = some (.map kt et)) (hd : P.underlying kt = some d) (hk : AJ d k = true)
    (hb : w.heap[b]? = some (.map ents clock)) {r : Option (Nat × Value)} (hf : Instr.findNow d k ents.toList 0 = some r) (hz : (zeroValue et).run P w = .ok z w) (ok : Bool) :
    (Instr.lookup t (.map (some b)) k ok).run P w = .ok (match r with | some (_, v) => if ok = true then .tuple #[v, .bool true] else v | none => if ok = true then .tuple #[z, .bool false] else z) w := by
 unfold Instr.lookup; have hg : (getObj b).run P w = .ok (.map ents clock) w := by simp [getObj, Sem.run, hb]
 have hfk : (Instr.findKey kt k ents.toList).run P w = .ok r w := by
  unfold Instr.findKey; simp only [Sem.run_bind, run_underlying hd, Result.andThen_ok, hf]; rfl
 simp only [Sem.run_bind, run_underlying ht, Result.andThen_ok, hg, Sem.run_pure, run_checkKey hd hk, hfk]; cases r with
 | none =>
  simp only [Sem.run_bind, hz, Result.andThen_ok, Sem.run_pure]
 | some p => simp only [Sem.run_bind, Sem.run_pure, Result.andThen_ok]
theorem KZ {t kt et : TypeId} {d : TypeDesc} {k z : Value} {w : World} (ht : P.underlying t = some (.map kt et)) (hd : P.underlying kt = some d) (hk : AJ d k = true)
    (hz : (zeroValue et).run P w = .ok z w) (ok : Bool) :
    (Instr.lookup t (.map none) k ok).run P w = .ok (if ok = true then .tuple #[z, .bool false] else z) w := by
 unfold Instr.lookup; have hfk : (Instr.findKey kt k []).run P w = .ok none w := by
  unfold Instr.findKey; simp only [Sem.run_bind, run_underlying hd, Result.andThen_ok, Instr.findNow]; rfl
 simp only [Sem.run_bind, run_underlying ht, Result.andThen_ok, Sem.run_pure, run_checkKey hd hk, hfk, hz]
theorem Sim.Ij {w : World} {g : Gs} (s : Sim w g H) {m : Nat} {o : HO} (ho : H.obj m = some o) (hsh : o.sh = .fx) {x : Value} (hx : R w g x (.mp m)) : x = g.mu m := by
 have hsh' : g.sh m = some .fx := by rw [s.sh, A0.sh, ho, Option.map_some, hsh]
 cases hx with
 | mp _ _ _ _ h => exact (h .fx hsh' rfl).symm
theorem Sim.Ik {w : World} {g : Gs} (s : Sim w g H) {m : Nat} {es : List (Value × IV)} (ho : H.obj m = some (.map es) ∨ ∃ bs c, H.obj m = some (.Dx bs c es)) {x : Value} (hx : R w g x (.mp m)) :
    ∃ b ents clock, x = .map (some b) ∧ g.mu m = .map (some b) ∧ w.heap[b]? = some (.map ents clock) ∧ Eo w g ents clock es := by
 rcases ho with ho | ⟨bs, c, ho⟩
 ·obtain ⟨b, ents, clock, h1, h2, h3⟩ := s.obj m _ ho; have hxe := s.Ij ho rfl hx; exact ⟨b, ents, clock, hxe.trans h1, h1, h2, h3⟩
 ·obtain ⟨b, ents, h1, h2, h3, _⟩ := s.obj m _ ho; have hxe := s.Ij ho rfl hx; exact ⟨b, ents, c, hxe.trans h1, h1, h2, h3⟩
theorem G5 {o : Oper} {K : IV → A0 → Prop} {Qp : List PanicEntry → A0 → Prop} {t : TypeId} {x i : Operand} {ok : Bool} {s : Prop} {r : IV} (ho : o.op = .lookup t x i ok) (hok : okO N o = true)
    (h : lkX P H t (ev tm x) (ev tm i) ok = some (s, r)) (hs : s) (hK : K r H) : Aj P N o tm H K Qp := by
 obtain ⟨dst, op, type, pos, after, guard⟩ := o; simp only at ho; subst ho; refine AF (by simp) fun w g a sm ra hN => ?_; subst hN; simp [okO, Op.operands] at hok; have rx := ra.ev (x := x) hok.1.1; have ri := ra.ev (x := i) hok.1.2; have fin : ∀ {v : Value}, (Instr.lookup t (a.eval x) (a.eval i) ok).run P w = .ok v w → R w g v r → ∃ x' w' g' H' i', ((execOp a.eval ⟨dst, .lookup t x i ok, type, pos, after, guard⟩).run P w = .ok (.value x') w' ∨ ((execOp a.eval ⟨dst, .lookup t x i ok, type, pos, after, guard⟩).run P w = .ok .skip w' ∧ x' = undef)) ∧
  AB w g w' g' ∧ Sim w' g' H' ∧ R w' g' x' i' ∧ K i' H' := fun hr hv => ⟨_, w, g, H, r, .inl (by simp [execOp, hr]), .refl w g, sm, hv, hK⟩
 unfold lkX at h; split at h
 ·rename_i kt et ht; split at h
  ·rename_i d z k hd hz hi; rw [hi] at ri; have hie := ri.v_eq; obtain ⟨zv, hzr, hzR⟩ := NN hz w; have key : ∀ (m : Nat) (es : List (Value × IV)), ev tm x = .mp m → (H.obj m = some (.map es) ∨ ∃ bs c, H.obj m = some (.Dx bs c es)) → some (AJ d k = true ∧ (es.all fun e => AJ d e.1) = true, okI ok z (lkI k es)) = some (s, r) → ∃ x' w' g' H' i', ((execOp a.eval ⟨dst, .lookup t x i ok, type, pos, after, guard⟩).run P w = .ok (.value x') w' ∨ ((execOp a.eval ⟨dst, .lookup t x i ok, type, pos, after, guard⟩).run P w = .ok .skip w' ∧ x' = undef)) ∧
    AB w g w' g' ∧ Sim w' g' H' ∧ R w' g' x' i' ∧ K i' H' := by
    intro m es hx hm h; simp only [Option.some.injEq, Prod.mk.injEq] at h; obtain ⟨rfl, rfl⟩ := h; rw [hx] at rx; obtain ⟨b, ents, clock, hxe, _, hb, he⟩ := sm.Ik hm rx; rcases he.rel hs.1 hs.2 with ⟨h1, h2, _⟩ | ⟨j, me, e, h1, h2, h3, h4, h5, h6, _⟩
    ·refine fin (v := if ok = true then .tuple #[zv, .bool false] else zv) ?_ ?_
     ·rw [hxe, hie]; exact Ii ht hd hs.1 hb h2 hzr ok
     ·rw [h1]; cases ok
      ·exact hzR g
      ·exact Mb (hzR g) false
    ·refine fin (v := if ok = true then .tuple #[me.val, .bool true] else me.val) ?_ ?_
     ·rw [hxe, hie]; exact Ii ht hd hs.1 hb h4 hzr ok
     ·rw [h3]; have hv := (he.ent j me e h1 h2).2; cases ok
      ·exact hv
      ·exact Mb hv true
   split at h
   ·rename_i m hx; split at h
    ·rename_i es hm; exact key m es hx (.inl hm) h
    ·rename_i bs c es hm; exact key m es hx (.inr ⟨bs, c, hm⟩) h
    ·cases h
   ·rename_i hx; simp only [Option.some.injEq, Prod.mk.injEq] at h; obtain ⟨rfl, rfl⟩ := h; rw [hx] at rx; have hxe := rx.v_eq; refine fin (v := if ok = true then .tuple #[zv, .bool false] else zv) ?_ ?_
    ·rw [hxe, hie]; exact KZ ht hd hs hzr ok
    ·cases ok
     ·exact hzR g
     ·exact Mb (hzR g) false
   ·cases h
  ·cases h
 ·cases h
theorem sameBits_self {d : TypeDesc} {k : Value} (hk : AJ d k = true) : Instr.sameBits 10000 k k = true := by
 unfold AJ at hk; split at hk
 ·simp only [Instr.sameBits, Go.MapKept.bytes_beq]
 ·simp [Instr.sameBits]
 ·cases hk
theorem DD {w : World} {r : Nat} {es : Array MapEntry} {clock : Nat} (o : Obj) (hb : w.heap[r]? = some (.map es clock)) : (setObj r o).run P w = .ok () (w.putObj r o) := by
 simp [setObj, Sem.run, hb, World.putObj]
theorem CU {t kt et : TypeId} {d : TypeDesc} {b : Nat} {ents : Array MapEntry} {clock : Nat} {k v : Value} {w : World} (ht : P.underlying t = some (.map kt et)) (hd : P.underlying kt = some d) (hk : AJ d k = true)
    (hb : w.heap[b]? = some (.map ents clock)) {r : Option (Nat × Value)} (hf : Instr.findNow d k ents.toList 0 = some r) (hr : ∀ p, r = some p → ∃ me, ents[p.1]? = some me ∧ me.key = k) :
    (Instr.mapUpdate t (.map (some b)) k v).run P w = .ok () (w.putObj b (match r with | some (i, _) => .map (ents.modify i fun e => { e with key := k, val := v }) clock | none => .map (ents.push { key := k, val := v, born := clock }) (clock + 1))) := by
 unfold Instr.mapUpdate; have hg : (getObj b).run P w = .ok (.map ents clock) w := by simp [getObj, Sem.run, hb]
 have hfk : (Instr.findKey kt k ents.toList).run P w = .ok r w := by
  unfold Instr.findKey; simp only [Sem.run_bind, run_underlying hd, Result.andThen_ok, hf]; rfl
 simp only [Sem.run_bind, run_underlying ht, Result.andThen_ok, hg, Sem.run_pure, run_checkKey hd hk, hfk]; cases r with
 | none => exact DD _ hb
 | some p =>
  obtain ⟨me, h1, h2⟩ := hr p rfl; have hks : (Instr.keyThatStays (((ents[p.1]?).map (·.key)).getD k) k).run P w = .ok k w := by
   unfold Instr.keyThatStays; simp [h1, h2, sameBits_self hk]
  simp only [Sem.run_bind, hks, Result.andThen_ok]; exact DD _ hb
theorem Df {w : World} {g : Gs} (s : Sim w g H) {m b : Nat} {o o' : HO} (ho : H.obj m = some o) (h1 : o.sh = .fx) (h2 : o'.sh = .fx) (hmu : g.mu m = .map (some b)) (ob : Obj)
    (hR : AB w g (w.putObj b ob) g → Ct (w.putObj b ob) g (g.mu m) o') : Sim (w.putObj b ob) g (H.set m o') ∧ AB w g (w.putObj b ob) g :=
  s.put m b o o' ho (by rw [h1, h2]) (by rw [hmu]; rfl) (by simp) rfl rfl rfl (fun i hi => World.putObj_heap_other hi) hR
def muX (P : Program) (H : A0) (t : TypeId) (x i y : IV) : Option (Prop × IV × A0) :=
  match P.underlying t with
  | some (.map kt _) =>
    match P.underlying kt, i, x with
    | some d, .v k, .mp m =>
      match H.obj m with
      | some (.map es) => some (AJ d k = true ∧ (es.all fun e => AJ d e.1) = true, .v undef, H.set m (.map (Ep k y es)))
      | _ => none
    | _, _, _ => none
  | _ => none
theorem Eo.set {w w' : World} {g : Gs} {ents : Array MapEntry} {clock j : Nat} {es : List (Value × IV)} (h : Eo w g ents clock es) (m : AB w g w' g) {k v : Value} {y : IV} (hy : R w g v y) (hj : j < es.length) (hkj : (es[j]'hj).1 = k) :
    Eo w' g (ents.modify j fun e => { e with key := k, val := v }) clock (es.set j (k, y)) := by
 refine ⟨by simp [h.size], fun i me e h1 h2 => ?_, fun me hme => ?_, ?_, ?_⟩
 ·rw [Array.getElem?_modify] at h1; by_cases e' : j = i
  ·subst e'; rw [if_pos rfl] at h1; rw [List.getElem?_set_self hj] at h2; simp only [Option.some.injEq] at h2; subst h2; cases hq : ents[j]? with
   | none => simp [hq] at h1
   | some q =>
    simp [hq] at h1; subst h1; exact ⟨rfl, hy.mono m⟩
  ·rw [if_neg e'] at h1; rw [List.getElem?_set_ne e'] at h2; have := h.ent i me e h1 h2; exact ⟨this.1, this.2.mono m⟩
 ·obtain ⟨i, hi⟩ := List.getElem?_of_mem hme; rw [Array.getElem?_toList, Array.getElem?_modify] at hi; split at hi
  ·cases hq : ents[i]? with
   | none => simp [hq] at hi
   | some q =>
    simp [hq] at hi; subst hi; exact h.born q (by rw [Array.mem_toList_iff]; exact Array.mem_of_getElem? hq)
  ·exact h.born me (by rw [Array.mem_toList_iff]; exact Array.mem_of_getElem? hi)
 ·have e : (ents.modify j fun e => { e with key := k, val := v }).toList.map (·.born) = ents.toList.map (·.born) := by
   apply List.ext_getElem?; intro i; simp only [List.getElem?_map, Array.getElem?_toList, Array.getElem?_modify]; split
   ·cases ents[i]? <;> rfl
   ·rfl
  rw [e]; exact h.nodup
 ·rw [List.map_set]; have : (es.map (·.1)).set j k = es.map (·.1) := by
   rw [← hkj]; apply List.ext_getElem?; intro i; rw [List.getElem?_set]; split
   ·rename_i e; subst e; simp [hj]
   ·rfl
  rw [this]; exact h.keys
theorem Eo.push {w w' : World} {g : Gs} {ents : Array MapEntry} {clock : Nat} {es : List (Value × IV)} (h : Eo w g ents clock es) (m : AB w g w' g) {k v : Value} {y : IV} (hy : R w g v y) (hnk : ∀ e, e ∈ es → e.1 ≠ k) :
    Eo w' g (ents.push { key := k, val := v, born := clock }) (clock + 1) (es ++ [(k, y)]) := by
 refine ⟨by simp [h.size], fun i me e h1 h2 => ?_, fun me hme => ?_, ?_, ?_⟩
 ·rw [Array.getElem?_push] at h1; rcases Nat.lt_or_ge i es.length with hi | hi
  ·rw [if_neg (by rw [h.size]; omega)] at h1; rw [List.getElem?_append_left hi] at h2; have := h.ent i me e h1 h2; exact ⟨this.1, this.2.mono m⟩
  ·rw [List.getElem?_append_right hi] at h2; have e0 : i = es.length := by
    have := (List.getElem?_eq_some_iff.1 h2).1; simp at this; omega
   subst e0; rw [if_pos h.size.symm] at h1; simp at h1 h2; subst h1; subst h2; exact ⟨rfl, hy.mono m⟩
 ·simp at hme; rcases hme with hme | rfl
  ·exact Nat.lt_succ_of_lt (h.born me (by simpa using hme))
  ·exact Nat.lt_succ_self _
 ·simp only [Array.toList_push, List.map_append, List.map_cons, List.map_nil]; rw [List.nodup_append]; refine ⟨h.nodup, by simp, ?_⟩; intro a ha b hb; simp only [List.mem_map] at ha; obtain ⟨me, h1, rfl⟩ := ha; simp at hb; have := h.born me h1; omega
 ·rw [List.map_append, List.nodup_append]; refine ⟨h.keys, by simp, fun a ha b hb => ?_⟩; obtain ⟨e, he, rfl⟩ := List.mem_map.1 ha; simp at hb; subst hb; exact hnk e he
theorem Eo.erase {w w' : World} {g : Gs} {ents : Array MapEntry} {clock j : Nat} {es : List (Value × IV)} (h : Eo w g ents clock es) (m : AB w g w' g) (hj : j < es.length) : Eo w' g (ents.eraseIdxIfInBounds j) clock (es.eraseIdx j) := by
 have hlt : j < ents.size := by rw [h.size]; exact hj
 have e : (ents.eraseIdxIfInBounds j).toList = ents.toList.eraseIdx j := by
  rw [Array.toList_eraseIdxIfInBounds]
 refine ⟨?_, fun i me e' h1 h2 => ?_, fun me hme => ?_, ?_, ?_⟩
 ·rw [← Array.length_toList, e, List.length_eraseIdx, List.length_eraseIdx]; simp [h.size]
 ·rw [← Array.getElem?_toList, e, List.getElem?_eraseIdx] at h1; rw [List.getElem?_eraseIdx] at h2; split at h1
  ·rename_i hi; rw [if_pos hi] at h2; have := h.ent i me e' (by simpa using h1) h2; exact ⟨this.1, this.2.mono m⟩
  ·rename_i hi; rw [if_neg hi] at h2; have := h.ent (i + 1) me e' (by simpa using h1) h2; exact ⟨this.1, this.2.mono m⟩
 ·rw [e] at hme; exact h.born me (List.mem_of_mem_eraseIdx hme)
 ·rw [e]; exact h.nodup.sublist ((List.eraseIdx_sublist _ _).map _)
 ·exact h.keys.sublist ((List.eraseIdx_sublist _ _).map _)
theorem HJ {o : Oper} {K : IV → A0 → Prop} {Qp : List PanicEntry → A0 → Prop} {t : TypeId} {x i y : Operand} {s : Prop} {r : IV} {H' : A0} (ho : o.op = .mapUpdate t x i y) (hok : okO N o = true)
    (h : muX P H t (ev tm x) (ev tm i) (ev tm y) = some (s, r, H')) (hs : s) (hK : K r H') : Aj P N o tm H K Qp := by
 obtain ⟨dst, op, type, pos, after, guard⟩ := o; simp only at ho; subst ho; refine AF (by simp) fun w g a sm ra hN => ?_; subst hN; simp [okO, Op.operands] at hok; have rx := ra.ev (x := x) hok.1.1; have ri := ra.ev (x := i) hok.1.2.1; have ry := ra.ev (x := y) hok.1.2.2; unfold muX at h; split at h
 ·rename_i kt et ht; split at h
  ·rename_i d k m hd hi hx; split at h
   ·rename_i es hm; simp only [Option.some.injEq, Prod.mk.injEq] at h; obtain ⟨rfl, rfl, rfl⟩ := h; rw [hi] at ri; rw [hx] at rx; have hie := ri.v_eq; obtain ⟨b, ents, clock, hxe, hmu, hb, he⟩ := sm.Ik (.inl hm) rx; have hlt := BE hb; rcases he.rel hs.1 hs.2 with ⟨h1, h2, h3, _, h8⟩ | ⟨j, me, e, h1, h2, h3, h4, h5, h6, h7, _⟩
    ·have hrun := CU (P := P) (v := a.eval y) ht hd hs.1 hb h2 (fun p e => by cases e); have hp := Df sm hm rfl rfl hmu (.map (ents.push { key := k, val := a.eval y, born := clock }) (clock + 1)) (o' := .map (Ep k (ev tm y) es))
      (fun mm => ⟨b, _, _, hmu, by rw [Bp _ _ _ hlt, if_pos rfl], by rw [h3]; exact he.push mm ry h8⟩)
     exact ⟨undef, _, g, _, .v undef, .inr ⟨by simp [execOp, hxe, hie, hrun], rfl⟩, hp.2, hp.1, .v _, hK⟩
    ·have hj : j < es.length := (List.getElem?_eq_some_iff.1 h2).1; have hrun := CU (P := P) (v := a.eval y) ht hd hs.1 hb h4 (fun p e => by cases e; exact ⟨me, h1, h6⟩); have hp := Df sm hm rfl rfl hmu (.map (ents.modify j fun e => { e with key := k, val := a.eval y }) clock) (o' := .map (Ep k (ev tm y) es))
      (fun mm => ⟨b, _, _, hmu, by rw [Bp _ _ _ hlt, if_pos rfl], by rw [h7]; exact he.set mm ry hj (by rw [List.getElem?_eq_getElem hj] at h2; cases h2; exact h5)⟩)
     exact ⟨undef, _, g, _, .v undef, .inr ⟨by simp [execOp, hxe, hie, hrun], rfl⟩, hp.2, hp.1, .v _, hK⟩
   ·cases h
  ·cases h
 ·cases h
theorem K8 {o : Oper} {K : IV → A0 → Prop} {Qp : List PanicEntry → A0 → Prop} {t : TypeId} {x i y : Operand} {s : Prop} {r : IV} {H' : A0} (ho : o.op = .insert t x i y) (hok : okO N o = true)
    (h : muX P H t (ev tm x) (ev tm i) (ev tm y) = some (s, r, H')) (hs : s) (hK : K r H') : Aj P N o tm H K Qp := by
 obtain ⟨dst, op, type, pos, after, guard⟩ := o; simp only at ho; subst ho; refine AF (by simp) fun w g a sm ra hN => ?_; subst hN; simp [okO, Op.operands] at hok; have rx := ra.ev (x := x) hok.1.1; have ri := ra.ev (x := i) hok.1.2.1; have ry := ra.ev (x := y) hok.1.2.2; unfold muX at h; split at h
 ·rename_i kt et ht; split at h
  ·rename_i d k m hd hi hx; split at h
   ·rename_i es hm; simp only [Option.some.injEq, Prod.mk.injEq] at h; obtain ⟨rfl, rfl, rfl⟩ := h; rw [hi] at ri; rw [hx] at rx; have hie := ri.v_eq; obtain ⟨b, ents, clock, hxe, hmu, hb, he⟩ := sm.Ik (.inl hm) rx; have hlt := BE hb; rcases he.rel hs.1 hs.2 with ⟨h1, h2, h3, _, h8⟩ | ⟨j, me, e, h1, h2, h3, h4, h5, h6, h7, _⟩
    ·have hrun := CU (P := P) (v := a.eval y) ht hd hs.1 hb h2 (fun p e => by cases e); have hp := Df sm hm rfl rfl hmu (.map (ents.push { key := k, val := a.eval y, born := clock }) (clock + 1)) (o' := .map (Ep k (ev tm y) es))
      (fun mm => ⟨b, _, _, hmu, by rw [Bp _ _ _ hlt, if_pos rfl], by rw [h3]; exact he.push mm ry h8⟩)
     exact ⟨undef, _, g, _, .v undef, .inr ⟨by simp [execOp, hxe, hie, hrun], rfl⟩, hp.2, hp.1, .v _, hK⟩
    ·have hj : j < es.length := (List.getElem?_eq_some_iff.1 h2).1; have hrun := CU (P := P) (v := a.eval y) ht hd hs.1 hb h4 (fun p e => by cases e; exact ⟨me, h1, h6⟩); have hp := Df sm hm rfl rfl hmu (.map (ents.modify j fun e => { e with key := k, val := a.eval y }) clock) (o' := .map (Ep k (ev tm y) es))
      (fun mm => ⟨b, _, _, hmu, by rw [Bp _ _ _ hlt, if_pos rfl], by rw [h7]; exact he.set mm ry hj (by rw [List.getElem?_eq_getElem hj] at h2; cases h2; exact h5)⟩)
     exact ⟨undef, _, g, _, .v undef, .inr ⟨by simp [execOp, hxe, hie, hrun], rfl⟩, hp.2, hp.1, .v _, hK⟩
   ·cases h
  ·cases h
 ·cases h
def dlX (P : Program) (H : A0) (t : TypeId) (x i : IV) : Option (Prop × IV × A0) :=
  match P.underlying t with
  | some (.map kt _) =>
    match P.underlying kt, i, x with
    | some d, .v k, .mp m =>
      match H.obj m with
      | some (.map es) => some (AJ d k = true ∧ (es.all fun e => AJ d e.1) = true, .tu [], H.set m (.map (Fc k es)))
      | _ => none
    | _, _, _ => none
  | _ => none
theorem Il {t t' kt et ty : TypeId} {d : TypeDesc} {b : Nat} {ents : Array MapEntry} {clock : Nat} {k : Value} {w : World} (ht : P.underlying t = some (.map kt et)) (hd : P.underlying kt = some d) (hk : AJ d k = true)
    (hb : w.heap[b]? = some (.map ents clock)) {r : Option (Nat × Value)} (hf : Instr.findNow d k ents.toList 0 = some r) :
    (Builtin.delete_ #[t, t'] ty #[.map (some b), k]).run P w = .ok (.tuple #[]) (w.putObj b (.map (match r with | some (i, _) => ents.eraseIdxIfInBounds i | none => ents) clock)) := by
 unfold Builtin.delete_; have hg : (getObj b).run P w = .ok (.map ents clock) w := by simp [getObj, Sem.run, hb]
 have hfk : (Instr.findKey kt k ents.toList).run P w = .ok r w := by
  unfold Instr.findKey; simp only [Sem.run_bind, run_underlying hd, Result.andThen_ok, hf]; rfl
 simp only [List.getElem?_toArray, List.getElem?_cons_zero, List.getElem?_cons_succ, Sem.run_bind, run_underlying ht, Result.andThen_ok, hg, run_checkKey hd hk, hfk]; cases r with
 | none => simp only [DD _ hb, Result.andThen_ok, Sem.run_bind, Sem.run_pure]
 | some p => simp only [DD _ hb, Result.andThen_ok, Sem.run_bind, Sem.run_pure]
theorem K9 {o : Oper} {K : IV → A0 → Prop} {Qp : List PanicEntry → A0 → Prop} {t t' : TypeId} {x i : Operand} {s : Prop} {r : IV} {H' : A0} (ho : o.op = .call { callee := .builtin .delete, args := #[x, i], argTypes := #[t, t'] }) (hok : okO N o = true)
    (h : dlX P H t (ev tm x) (ev tm i) = some (s, r, H')) (hs : s) (hK : K r H') : Aj P N o tm H K Qp := by
 obtain ⟨dst, op, type, pos, after, guard⟩ := o; simp only at ho; subst ho; refine AF (by simp) fun w g a sm ra hN => ?_; subst hN; simp [okO, Op.operands, Call.operands] at hok; have rx := ra.ev (x := x) hok.1.1; have ri := ra.ev (x := i) hok.1.2; unfold dlX at h; split at h
 ·rename_i kt et ht; split at h
  ·rename_i d k m hd hi hx; split at h
   ·rename_i es hm; simp only [Option.some.injEq, Prod.mk.injEq] at h; obtain ⟨rfl, rfl, rfl⟩ := h; rw [hi] at ri; rw [hx] at rx; have hie := ri.v_eq; obtain ⟨b, ents, clock, hxe, hmu, hb, he⟩ := sm.Ik (.inl hm) rx; have hlt := BE hb; have fin : ∀ ents', (Builtin.delete_ #[t, t'] type #[.map (some b), k]).run P w = .ok (.tuple #[]) (w.putObj b (.map ents' clock)) → (AB w g (w.putObj b (.map ents' clock)) g → Eo (w.putObj b (.map ents' clock)) g ents' clock (Fc k es)) →
     ∃ x' w' g' H' i', ((execOp a.eval ⟨dst, .call { callee := .builtin .delete, args := #[x, i], argTypes := #[t, t'] }, type, pos, after, guard⟩).run P w = .ok (.value x') w' ∨ ((execOp a.eval ⟨dst, .call { callee := .builtin .delete, args := #[x, i], argTypes := #[t, t'] }, type, pos, after, guard⟩).run P w = .ok .skip w' ∧ x' = undef)) ∧
      AB w g w' g' ∧ Sim w' g' H' ∧ R w' g' x' i' ∧ K i' H' := by
     intro ents' hrun hent; have hp := Df sm hm rfl rfl hmu (.map ents' clock) (o' := .map (Fc k es)) (fun mm => ⟨b, _, _, hmu, by rw [Bp _ _ _ hlt, if_pos rfl], hent mm⟩); refine ⟨.tuple #[], _, g, _, .tu [], .inl ?_, hp.2, hp.1, .tu _ _ rfl (by simp), hK⟩; simp [execOp, resolve, Deferred.ofValue, invoke, builtin, hxe, hie, hrun]
    rcases he.rel hs.1 hs.2 with ⟨h1, h2, _, h3, _⟩ | ⟨j, me, e, h1, h2, h3, h4, h5, h6, _, h7⟩
    ·exact fin ents (Il ht hd hs.1 hb h2) fun mm => by rw [h3]; exact he.imp fun x e _ hx => hx.mono mm
    ·have hj : j < es.length := (List.getElem?_eq_some_iff.1 h2).1; exact fin _ (Il ht hd hs.1 hb h4) fun mm => by rw [h7]; exact he.erase mm hj
   ·cases h
  ·cases h
 ·cases h
theorem Jc {o : Oper} {K : IV → A0 → Prop} {Qp : List PanicEntry → A0 → Prop} {t : TypeId} (ho : o.op = .makeMap t none) (hK : K (.mp H.next) (H.new (.map []))) : Aj P N o tm H K Qp := by
 obtain ⟨dst, op, type, pos, after, guard⟩ := o; simp only at ho; subst ho; refine AF (by simp) fun w g a sm ra hN => ?_; have hn := sm.new (w' := w.alloc (.map #[] 0)) (.map (some w.heap.size)) (.map []) (by simp) rfl rfl rfl (fun b hb => by rw [AV, if_neg (by omega)]) (fun b hb => by simp only [blk, Option.some.injEq] at hb; subst hb; simp)
  (fun g' m _ => ⟨w.heap.size, #[], 0, rfl, by rw [AV, if_pos rfl], by simp, fun i me e h1 h2 => by simp at h2, by simp, by simp, by simp⟩)
 refine ⟨.map (some w.heap.size), _, _, _, _, .inl ?_, hn.2, hn.1, ?_, hK⟩
 ·simp [execOp, Instr.makeMap]
 ·refine .mp _ _ (by simp [Gs.put]) ⟨_, rfl⟩ fun s' _ _ => by simp [Gs.put]
def lnX (P : Program) (H : A0) (t : TypeId) (x : IV) : Option (Prop × IV) :=
  match P.underlying t, x with
  | some (.map _ _), .mp m =>
    match H.obj m with
    | some (.map es) => some (True, .v (.int .i64 es.length))
    | _ => none
  | _, _ => none
theorem Ka {o : Oper} {K : IV → A0 → Prop} {Qp : List PanicEntry → A0 → Prop} {t : TypeId} {x : Operand} {s : Prop} {r : IV} (ho : o.op = .call { callee := .builtin .len, args := #[x], argTypes := #[t] }) (hok : okO N o = true)
    (h : lnX P H t (ev tm x) = some (s, r)) (hK : K r H) : Aj P N o tm H K Qp := by
 obtain ⟨dst, op, type, pos, after, guard⟩ := o; simp only at ho; subst ho; refine AF (by simp) fun w g a sm ra hN => ?_; subst hN; simp [okO, Op.operands, Call.operands] at hok; have rx := ra.ev (x := x) hok.1; unfold lnX at h; split at h
 ·rename_i kt et m ht hx; split at h
  ·rename_i es hm; simp only [Option.some.injEq, Prod.mk.injEq] at h; obtain ⟨_, rfl⟩ := h; rw [hx] at rx; obtain ⟨b, ents, clock, hxe, hmu, hb, he⟩ := sm.Ik (.inl hm) rx; have hg : (getObj b).run P w = .ok (.map ents clock) w := by simp [getObj, Sem.run, hb]
   refine ⟨.int .i64 es.length, w, g, H, _, .inl ?_, .refl w g, sm, .v _, hK⟩; have hl : (Builtin.len_ #[t] type #[.map (some b)]).run P w = .ok (.int .i64 es.length) w := by
    unfold Builtin.len_; simp only [List.getElem?_toArray, List.getElem?_cons_zero, Sem.run_bind, run_underlying ht, Result.andThen_ok, hg, Sem.run_pure, goInt, he.size]
   simp [execOp, resolve, Deferred.ofValue, invoke, builtin, hxe, hl]
  ·cases h
 ·cases h
end Go.Idl
