/- The entry of any text, or that it is of none. Part 4. Conditions: none. -/
import Derived.Test.YtolkpoeioagibaaGreatDoorPartC
import Derived.Shelf.Sort.Plain
import Derived.Shelf.Strings.Builder1
import Derived.Test.YtolkpoeioagibaaGreatDoorProg
import Derived.Ground.NamesProg
import Derived.Shelf.Strconv.Itoa3
import Derived.Shelf.SlGeneric
import Derived.Ground.Names8Prog
import Derived.Shelf.Spec.SlicesGrow
import Derived.Shelf.SlIter.Nil
import Derived.Shelf.SortM.Plain
import Derived.Shelf.SortM.SortNone
import Derived.Ground.GgzProg
import Derived.Ground.SlgmProg
set_option linter.unusedSimpArgs false
set_option linter.unusedVariables false

namespace Go.Idl

open Go Go.RowKit Go.Proofs Go.Shelf

variable {P : Program} {H : IHeap}

theorem ICalls_sortStr {ρ : Go.Shelf.Ren} {f : FuncId} (Ly : Lays.n190 P ρ) (hf : ρ.f 190 = f) (hb : hasBody P f = true) {K : IEnd → IHeap → Prop} (l : List (List UInt8)) (k : Nat) (hk : H.obj k = some (.cells (l.map fun s => .v (str s)))) (hl : l.length < 4611686018427387904)
    (hK : K (.ret (.tu [])) (H.set k (.cells ((l.mergeSort fun x y => decide (x ≤ y)).map fun s => .v (str s))))) : ICalls P f [.bs k 0 l.length] H K := by
  refine ⟨hb, fun w g vs s rl => ?_⟩
  obtain ⟨hsz, hrl⟩ := rl
  have h0 : 0 < vs.size := by rw [hsz]; simp
  have hv := hrl 0 vs[0] (.bs k 0 l.length) (Array.getElem?_eq_getElem (by rw [hsz]; simp)) rfl
  obtain ⟨b, xs, el, fr, h1, h2, h3, h4⟩ := s.obj k _ hk
  have hsh : g.sh k = some .fx := by rw [s.sh, IHeap.sh, hk]; rfl
  have ⟨cap, hx⟩ : ∃ cap, vs[0] = .slice (some ⟨b, 0, none⟩) l.length cap := by
    generalize vs[0] = x at hv
    cases hv with
    | bs _ _ _ _ _ _ h =>
      obtain ⟨b', cap, q1, q2⟩ := h .fx hsh rfl
      rw [h1] at q1
      cases q1
      exact ⟨cap, q2⟩
  have hvs : vs = #[.slice (some ⟨b, 0, none⟩) l.length cap] := by
    apply Array.ext
    · simpa using hsz
    · intro i h5 h6
      have e : i = 0 := by rw [hsz] at h5; simpa using h5
      subst e
      simpa using hx
  have hcell : ∀ j (hj : j < l.length), xs[j]? = some (str l[j]) := by
    intro j hj
    obtain ⟨x, q1, _, q2⟩ := h4.2 j (.v (str l[j])) (by simp [hj])
    rw [q1, q2.v_eq]
  have hH : Go.Sort.Holds encStr w b 0 l.toArray := by
    intro j hj
    have hj' : j < l.length := by simpa using hj
    have e : l.toArray[j]! = l[j] := by simp [hj']
    refine ⟨?_, ?_⟩
    · rw [e]
      simp only [World.cell?, h2, Nat.zero_add]
      simpa [encStr] using hcell j hj'
    · simp only [World.frozen?, h2, Nat.zero_add]
      have hlt : j < xs.size := (Array.getElem?_eq_some_iff.1 (hcell j hj')).1
      have := h3 j hlt
      obtain ⟨lo, hi⟩ := fr
      simp only [Bool.and_eq_false_iff, decide_eq_false_iff_not]
      by_cases e : lo ≤ j
      · exact .inr fun e' => this ⟨e, e'⟩
      · exact .inl e
  have hc := Go.Proofs.Any.slices_Sort_string Ly b 0 cap l w hH (heap_lt h2) hl
  rw [hf, ← hvs] at hc
  refine hc.mono ?_
  rintro e w' ⟨rfl, n, os, rfl⟩
  generalize hS : (l.mergeSort fun x y => decide (x ≤ y)) = S at *
  have hSl : S.length = l.length := by rw [← hS]; simp
  have hlt := heap_lt h2
  have hheap : (Go.Sort.grow (Go.Sort.putRow encStr (Go.Sort.ahead w n) b 0 S.toArray) os).heap = w.heap.modify b (Go.Sort.onCells (Go.Sort.putCells encStr 0 S.toArray)) ++ os := rfl
  have hat : (Go.Sort.grow (Go.Sort.putRow encStr (Go.Sort.ahead w n) b 0 S.toArray) os).heap[b]? = some (.cells (Go.Sort.putCells encStr 0 S.toArray xs) el fr) := by
    rw [hheap, Array.getElem?_append_left (by simpa using hlt), Array.getElem?_modify, if_pos rfl, h2]
    rfl
  have hne : ∀ i, i < w.heap.size → i ≠ b → (Go.Sort.grow (Go.Sort.putRow encStr (Go.Sort.ahead w n) b 0 S.toArray) os).heap[i]? = w.heap[i]? := by
    intro i hi hn
    rw [hheap, Array.getElem?_append_left (by simpa using hi), Array.getElem?_modify, if_neg (Ne.symm hn)]
  have hsize : w.heap.size ≤ (Go.Sort.grow (Go.Sort.putRow encStr (Go.Sort.ahead w n) b 0 S.toArray) os).heap.size := by
    rw [hheap]; simp
  have hg : ∀ o : HO, o.sh = .fx → g.put k (g.mu k) o.sh (H.set k o).next = g := by
    intro o ho
    rw [ho]
    show g.put k (g.mu k) .fx H.next = g
    rw [← s.nx]
    exact g.put_self k _ hsh
  have hu := s.upd (H' := H.set k (.cells (S.map fun s => .v (str s)))) (w' := Go.Sort.grow (Go.Sort.putRow encStr (Go.Sort.ahead w n) b 0 S.toArray) os) k (g.mu k) (.cells (S.map fun s => .v (str s))) rfl (Nat.le_refl _) (s.lt k (by rw [hk]; rfl)) hsize rfl rfl rfl
    (fun i hi => by
      by_cases e : i = b
      · exact .inl ⟨by rw [hsh]; rfl, by rw [h1, e]; rfl⟩
      · exact .inr (hne i hi e))
    (fun i hi => by
      rw [h1] at hi
      cases hi
      exact ⟨Nat.lt_of_lt_of_le hlt hsize, .inr ⟨by rw [hsh]; rfl, by rw [h1]; rfl⟩⟩)
    (.inr (.inl ⟨hsh, rfl, rfl⟩))
    (fun g' m e => by
      have hxl : l.length ≤ xs.size := by have := h4.1; simpa using this
      refine ⟨b, _, el, fr, h1, hat, ?_, ?_, ?_⟩
      · simpa [Go.Sort.putCells] using h3
      · simp [Go.Sort.putCells]; omega
      · intro j c hj
        simp only [List.getElem?_map, Option.map_eq_some_iff] at hj
        obtain ⟨x, hx', rfl⟩ := hj
        have hjl := (List.getElem?_eq_some_iff.1 hx').1
        have hjx : j < xs.size := by omega
        refine ⟨str x, ?_, rfl, .v _⟩
        have e2 : S[j]? = some x := hx'
        simp [Go.Sort.putCells, hjx, hjl, encStr]
        exact (List.getElem?_eq_some_iff.1 e2).2)
  rw [hg _ rfl] at hu
  exact ⟨.ret (.tu []), g, _, hu.2, hu.1, .ret _ _ (.tu #[] [] rfl (by simp)), hK⟩

end Go.Idl

namespace Go.Idl

open Go Go.RowKit

variable {P : Program} {N : Nat} {tm : Tm} {H : IHeap}

theorem IOper_clear {o : Oper} {K : IV → IHeap → Prop} {Qp : List PanicEntry → IHeap → Prop} {t e : TypeId} {x : Operand} {k off n : Nat} {z z0 : Value} {cs : List IV} (ho : o.op = .call { callee := .builtin .clear, args := #[x], argTypes := #[t] }) (hok : okO N o = true)
    (hu : P.underlying t = some (.slice e)) (hz : zeroOf P e = some z) (hz0 : z.cells = #[z0]) (hone : z0.oneCell' = true) (hx : ev tm x = .bs k off n) (hk : H.obj k = some (.cells cs)) (hn : 0 < n) (hl : off + n ≤ cs.length)
    (hK : K (.tu []) (H.set k (.cells (putL cs (List.replicate n (.v z0)) off)))) : IOper P N o tm H K Qp := by
  obtain ⟨dst, op, type, pos, after, guard⟩ := o
  simp only at ho
  subst ho
  refine IOper_of (by simp) fun w g a s r hN => ?_
  subst hN
  have rx := r.ev (x := x) (by simp [okO, Op.operands, Call.operands] at hok; exact hok.1)
  rw [hx] at rx
  obtain ⟨b, xs, el, f, hmu, hb, hf, hc⟩ := s.obj k _ hk
  have hsh : g.sh k = some .fx := by rw [s.sh, IHeap.sh, hk]; rfl
  have ⟨cap, hxe⟩ : ∃ cap, a.eval x = .slice (some ⟨b, off, none⟩) n cap := by
    generalize a.eval x = y at rx
    cases rx with
    | bs _ _ _ _ _ _ h =>
      obtain ⟨b', cap, q1, q2⟩ := h .fx hsh rfl
      rw [hmu] at q1
      cases q1
      exact ⟨cap, q2⟩
  have hlt := heap_lt hb
  have hzc : (Builtin.zeroCells z.cells n).toList = List.replicate n z0 := by
    unfold Builtin.zeroCells
    rw [hz0]
    apply List.ext_getElem
    · simp
    · intro i h1 h2
      simp [Nat.mod_one]
  have hcl := hc.1
  have hrun := run_storeCells_free (P := P) (b := b) (off := off) (el := el) (f := f) (List.replicate n z0) 0 xs w hb hf (by simp; omega) (fun v hv => by rw [List.eq_of_mem_replicate hv]; exact hone)
  have hp := s.put (w' := w.putObj b (.cells (putA xs (List.replicate n z0) off) el f)) k b (.cells cs) (.cells (putL cs (List.replicate n (.v z0)) off)) hk rfl (by rw [hmu]; rfl) (by simp) rfl rfl rfl
    (fun i hi => World.putObj_heap_other hi)
    (fun m => ⟨b, _, el, f, hmu, by rw [putObj_get _ _ _ hlt, if_pos rfl], by rw [putA_size]; exact hf, hc.put m (by simpa using hl) (by simp) (fun v hv => by rw [List.eq_of_mem_replicate hv]; exact hone) (fun j y c q1 q2 => by
      have e1 := List.eq_of_mem_replicate (List.mem_of_getElem? q1)
      have e2 := List.eq_of_mem_replicate (List.mem_of_getElem? q2)
      subst e1
      subst e2
      exact .v _)⟩)
  refine ⟨.tuple #[], _, g, _, .tu [], .inl ?_, hp.2, hp.1, .tu #[] [] rfl (by simp), hK⟩
  have hn' : n ≠ 0 := by omega
  obtain ⟨n, rfl⟩ : ∃ m, n = m + 1 := ⟨n - 1, by omega⟩
  rw [Nat.add_zero] at hrun
  have hcr : (Builtin.clear_ #[t] type #[.slice (some ⟨b, off, none⟩) (n + 1) cap]).run P w = .ok (.tuple #[]) (w.putObj b (.cells (putA xs (List.replicate (n + 1) z0) off) el f)) := by
    simp [Builtin.clear_, run_underlying hu, run_zeroValue hz, hzc, hrun]
  simp [execOp, resolve, invoke, builtin, hxe, hcr]

@[go_sem] theorem vcOp_clear {d : Option Tmp} {t : TypeId} {p : String} {af : Array Edge} {gd : Option (Nat × Bool)} {K : IV → IHeap → Prop} {Qp : List PanicEntry → IHeap → Prop} {x : Operand} {a : TypeId} :
    vcOp P N ⟨d, .call ⟨.builtin .clear, #[x], #[a]⟩, t, p, af, gd⟩ tm H K Qp = IOper P N ⟨d, .call ⟨.builtin .clear, #[x], #[a]⟩, t, p, af, gd⟩ tm H K Qp := rfl

end Go.Idl

namespace Go.Idl

open Go Go.RowKit

variable {P : Program} {N : Nat} {tm : Tm} {H : IHeap}

theorem run_toBytes {e : TypeId} (s : ByteArray) (w : World) : ∃ w' cap xs f, (Conv.stringToBytes e s).run P w = .ok (.slice (some ⟨w.heap.size, 0, none⟩) s.size cap) w' ∧ s.size ≤ cap ∧
    w.heap.size < w'.heap.size ∧ w'.os = w.os ∧ w'.tape = w.tape ∧ w'.output = w.output ∧ (∀ b, b < w.heap.size → w'.heap[b]? = w.heap[b]?) ∧ w'.heap[w.heap.size]? = some (.cells xs e f) ∧ xs.size = cap ∧
    FreeZ xs.size f ∧ (∀ j, j < s.size → xs[j]? = some (.int .u8 ((bytes s).getD j 0).toNat)) := by
  let cap := grownCap w s.size 0 e
  let xs : Array Value := (s.data.map fun b => Value.int .u8 b.toNat) ++ Array.replicate (cap - s.size) (.int .u8 0)
  have hge : s.size ≤ cap := grownCap_ge w s.size 0 e
  have hsz : xs.size = cap := by
    have : s.data.size = s.size := rfl
    simp [xs]; omega
  have hhp : (w.drew.alloc (.cells xs e)).heap.size = w.heap.size + 1 := by
    show (w.heap.push _).size = _
    simp
  have hnew : (w.drew.alloc (.cells xs e)).heap[w.heap.size]? = some (.cells xs e (0, 0)) := by
    have := World.alloc_heap_new w.drew (.cells xs e)
    exact this
  have hfz : ∀ i, ((w.drew.alloc (.cells xs e)).freeze ⟨w.heap.size, xs.size, none⟩ 1).heap[i]? = if i = w.heap.size then some (.cells xs e (xs.size, xs.size + 1)) else w.heap[i]? := by
    intro i
    simp only [World.freeze]
    rw [if_neg (by omega), Array.getElem?_modify]
    by_cases h : i = w.heap.size
    · rw [if_pos h.symm, if_pos h, h, hnew]
      rfl
    · rw [if_neg (fun h' => h h'.symm), if_neg h, alloc_get]
      have : ¬ i = w.drew.heap.size := h
      rw [if_neg this]
      rfl
  refine ⟨(w.drew.alloc (.cells xs e)).freeze ⟨w.heap.size, xs.size, none⟩ 1, cap, xs, (xs.size, xs.size + 1), ?_, hge, ?_, rfl, rfl, rfl, fun b hb => by rw [hfz, if_neg (by omega)], by rw [hfz, if_pos rfl], hsz, fun i hi h => by simp at h; omega, fun j hj => ?_⟩
  · unfold Conv.stringToBytes
    have hsh : (w.drew.alloc (.cells xs e)).shape? w.heap.size = some (e, xs.size) := by simp only [World.shape?, hnew]
    have hch : (choose (.appendCap s.size 0 e)).run P w = .ok cap w.drew := by
      rw [run_choose]
      simp only [Question.forced, Bool.false_eq_true, if_false]
      rfl
    simp only [Sem.run_bind, hch, Result.andThen_ok, newRow, run_newObj_alloc, Sem.run_pure, markStringish, run_shape]
    have hxs : (s.data.map fun b => Value.int .u8 b.toNat) ++ Array.replicate (cap - s.size) (.int .u8 0) = xs := rfl
    rw [hxs]
    have hdh : w.drew.heap.size = w.heap.size := rfl
    rw [hdh, hsh]
    simp only [run_freeze, Result.andThen_ok]
  · show w.heap.size < ((w.drew.alloc (.cells xs e)).freeze ⟨w.heap.size, xs.size, none⟩ 1).heap.size
    simp only [World.freeze]
    rw [if_neg (by omega)]
    rw [Array.size_modify, hhp]
    omega
  · have hj' : j < s.data.size := hj
    have e1 : (bytes s).getD j 0 = s.data[j] := by
      simp only [bytes, List.getD_eq_getElem?_getD, Array.getElem?_toList, Array.getElem?_eq_getElem hj', Option.getD_some]
    rw [e1]
    simp only [xs]
    rw [Array.getElem?_append_left (by simpa using hj'), Array.getElem?_map, Array.getElem?_eq_getElem hj']
    rfl

@[go_sem] theorem roundQ_normal {K : IHeap → Prop} {J : Exit → IHeap → Prop} : roundQ K J .normal tm H = K H := rfl

@[go_sem] theorem roundQ_ret {K : IHeap → Prop} {J : Exit → IHeap → Prop} : roundQ K J .ret tm H = J .ret H := rfl

@[go_sem] theorem roundQ_exit {K : IHeap → Prop} {J : Exit → IHeap → Prop} {id : Nat} : roundQ K J (.exit id) tm H = J (.exit id) H := rfl

section

variable {l : Nat} {J : Tm → IHeap → Prop} {Q : Exit → Tm → IHeap → Prop}

@[go_sem] theorem jumpQ_normal : jumpQ l J Q .normal tm H = Q .normal tm H := rfl

@[go_sem] theorem jumpQ_ret : jumpQ l J Q .ret tm H = Q .ret tm H := rfl

@[go_sem] theorem jumpQ_exit {id : Nat} : jumpQ l J Q (.exit id) tm H = Q (.exit id) tm H := rfl

@[go_sem] theorem jumpQ_goto {l' : Nat} : jumpQ l J Q (.goto l') tm H = (l' = l ∧ J tm H) := rfl

@[go_sem] theorem jumpQ_panic {c : List PanicEntry} : jumpQ l J Q (.panic c) tm H = Q (.panic c) tm H := rfl

end

theorem IOper_toBytes {o : Oper} {K : IV → IHeap → Prop} {Qp : List PanicEntry → IHeap → Prop} {ta tb e : TypeId} {d : TypeDesc} {x : Operand} {s : ByteArray} (ho : o.op = .convert ta tb x) (hok : okO N o = true) (ha : P.underlying ta = some d)
    (hb : P.underlying tb = some (.slice e)) (he : P.underlying e = some (.int .u8)) (hx : ev tm x = .v (.string s)) (hs : (bytes s).length ≤ maxN) (hK : K (.sl 1 (byt (bytes s))) H) : IOper P N o tm H K Qp := by
  obtain ⟨dst, op, type, pos, after, guard⟩ := o
  simp only at ho
  subst ho
  refine IOper_of (by simp) fun w g a sm r hN => ?_
  subst hN
  have rx := r.ev (x := x) (by simp [okO, Op.operands] at hok; exact hok.1)
  rw [hx] at rx
  have hxe := rx.v_eq
  obtain ⟨w', cap, xs, f, h1, h2, h3, h4, h5, h6, h7, h8, h9, h10, h11⟩ := run_toBytes (P := P) (e := e) s w
  have hg := sm.grow (w' := w') (Nat.le_of_lt h3) h4 h5 h6 h7
  have hsz := bytes_size s
  have hcs : CellsR w g xs ((bytes s).map fun b => .v (.int .u8 b.toNat)) := by
    refine ⟨by rw [List.length_map, ← hsz, h9]; exact h2, fun j c hj => ?_⟩
    have hjl : j < (bytes s).length := by
      have := (List.getElem?_eq_some_iff.1 hj).1
      simpa using this
    have := h11 j (by rw [hsz]; exact hjl)
    refine ⟨_, this, rfl, ?_⟩
    simp only [List.getElem?_map, Option.map_eq_some_iff] at hj
    obtain ⟨b, hb', rfl⟩ := hj
    rw [List.getD_eq_getElem?_getD, hb']
    exact .v _
  have hR := frozen_new hg.2 (sz := 1) (n := s.size) (cap := cap) h8 (sm.fresh (Nat.le_refl _)) hcs (by rw [List.length_map, hsz]; omega) h2 (by rw [hsz]; exact hs)
  rw [chunks_one' (by rw [List.length_map, hsz]), List.map_map] at hR
  refine ⟨_, w', g, H, _, .inl ?_, hg.2, hg.1, hR, hK⟩
  simp [execOp, convert, hxe, run_underlying ha, run_underlying hb, run_underlying he, h1]

end Go.Idl

namespace Go.Idl

open Go Go.RowKit

/-! ### Loops as functions -/

inductive Runs {σ ρ : Type} (step : σ → Option (σ ⊕ ρ)) : σ → ρ → Prop
  | done {s : σ} {r : ρ} (h : step s = some (.inr r)) : Runs step s r
  | more {s s' : σ} {r : ρ} (h : step s = some (.inl s')) (k : Runs step s' r) : Runs step s r

theorem Runs.det {σ ρ : Type} {step : σ → Option (σ ⊕ ρ)} {s : σ} {r r' : ρ} (h : Runs step s r) (h' : Runs step s r') : r = r' := by
  induction h with
  | done h => cases h' with
    | done k => rw [h] at k; simpa using k
    | more k _ => rw [h] at k; simp at k
  | more h _ ih => cases h' with
    | done k => rw [h] at k; simp at k
    | more k k' => rw [h] at k; simp at k; subst k; exact ih k'

open Classical in

noncomputable def loopO {σ ρ : Type} (step : σ → Option (σ ⊕ ρ)) (s : σ) : Option ρ :=
  if h : ∃ r, Runs step s r then some h.choose else none

theorem loopO_some {σ ρ : Type} {step : σ → Option (σ ⊕ ρ)} {s : σ} {r : ρ} : loopO step s = some r ↔ Runs step s r := by
  unfold loopO
  constructor
  · intro h
    split at h
    · rename_i h'
      simp at h
      rw [← h]; exact h'.choose_spec
    · cases h
  · intro h
    have h' : ∃ r, Runs step s r := ⟨r, h⟩
    rw [dif_pos h']
    exact congrArg some (h'.choose_spec.det h)

theorem loopO_done {σ ρ : Type} {step : σ → Option (σ ⊕ ρ)} {s : σ} {r : ρ} (h : step s = some (.inr r)) : loopO step s = some r := loopO_some.2 (.done h)

theorem loopO_more {σ ρ : Type} {step : σ → Option (σ ⊕ ρ)} {s s' : σ} (h : step s = some (.inl s')) : loopO step s = loopO step s' := by
  cases h' : loopO step s' with
  | some r => exact loopO_some.2 (.more h (loopO_some.1 h'))
  | none =>
    cases h2 : loopO step s with
    | none => rfl
    | some r =>
      have := loopO_some.1 h2
      cases this with
      | done k => rw [h] at k; simp at k
      | more k k' => rw [h] at k; simp at k; subst k; rw [loopO_some.2 k'] at h'; cases h'

theorem loopO_inv {σ ρ : Type} {step : σ → Option (σ ⊕ ρ)} {Post : ρ → Prop} (I : σ → Prop) (μ : σ → Nat)
    (h : ∀ s, I s → (∃ s', step s = some (.inl s') ∧ I s' ∧ μ s' < μ s) ∨ ∃ r, step s = some (.inr r) ∧ Post r) {s : σ} (hs : I s) : ∃ r, loopO step s = some r ∧ Post r := by
  generalize hn : μ s = n
  induction n using Nat.strongRecOn generalizing s with
  | _ n ih =>
    rcases h s hs with ⟨s', h1, h2, h3⟩ | ⟨r, h1, h2⟩
    · obtain ⟨r, k1, k2⟩ := ih (μ s') (hn ▸ h3) h2 rfl
      exact ⟨r, (loopO_more h1).trans k1, k2⟩
    · exact ⟨r, loopO_done h1, h2⟩

def gd {α : Type} (p : Prop) [Decidable p] (x : Option α) : Option α := if p then x else none

theorem gd_some {α : Type} {p : Prop} [Decidable p] {x : Option α} {r : α} : gd p x = some r ↔ p ∧ x = some r := by
  unfold gd; split <;> simp [*]

theorem gd_pos {α : Type} {p : Prop} [Decidable p] {x : Option α} (h : p) : gd p x = x := if_pos h

theorem bind_some' {α β : Type} {x : Option α} {f : α → Option β} {r : β} (h : x.bind f = some r) : ∃ a, x = some a ∧ f a = some r := Option.bind_eq_some_iff.1 h

/-! ### The walk -/

variable {P : Program} {N : Nat} {tm : Tm} {H : IHeap} {Q : Exit → Tm → IHeap → Prop}

theorem IWp_seqF {a b : Code} (h : ∀ cb, cb = b → IWp P N a (thenQ (fun tm H => IWp P N cb Q tm H) Q) tm H) : IWp P N (.seq a b) Q tm H := IWp_seq (h b rfl)

theorem IWp_seqC {a b : Code} (J : Tm → IHeap → Prop) (hJ : ∀ tm H, J tm H → IWp P N b Q tm H) (h : ∀ cb, (∀ tm H, UpI J tm H → IWp P N cb Q tm H) → IWp P N a (thenQ (fun tm H => IWp P N cb Q tm H) Q) tm H) : IWp P N (.seq a b) Q tm H :=
  IWp_seq (h b fun _ _ ⟨_, _, hg, hj⟩ => IWp.gh hg (hJ _ _ hj))

def loopN {σ ρ : Type} (x : σ ⊕ ρ) (I : σ → Tm → IHeap → Prop) (tm : Tm) (H : IHeap) : Prop := ∃ s', x = .inl s' ∧ UpI (I s') tm H

theorem loopN_mk {σ ρ : Type} {I I' : σ → Tm → IHeap → Prop} (hI : I' = I) (s' : σ) (h : UpI (I s') tm H) : loopN (ρ := ρ) (.inl s') I' tm H := by subst hI; exact ⟨s', rfl, h⟩

theorem IWp_loopF {σ ρ : Type} {c : Code} {step : σ → Option (σ ⊕ ρ)} {r : ρ} (I : σ → Tm → IHeap → Prop) {s : σ} (hr : loopO step s = some r) (h0 : UpI (I s) tm H)
    (round' : ∀ I', I' = I → ∀ s x tm H, I s tm H → step s = some x → (∀ r', x = .inr r' → r' = r) → IWp P N c (thenQ (loopN x I') Q) tm H) : IWp P N (.loop c) Q tm H := by
  have round := round' I rfl
  clear round'
  replace hr := loopO_some.1 hr
  obtain ⟨tm1, H1, hg, hI⟩ := h0
  refine IWp.gh hg ?_
  refine ⟨fun rr B w0 g0 a0 s0 r0 hN0 hB0 hm0 => ?_⟩
  intro b k cs hro hb hrr
  have key : ∀ tm H, I s tm H → ∀ (w : World) (g : Gs) (a : Act), Mono w0 g0 w g → Sim w g H → RA w g a tm → a.tmps.size = N → Marks rr B w g a.defers →
      ∃ e a' w', Post rr B N Q w0 g0 e a' w' ∧ ArrivesIn (Machine.fenced P (FR rr)) P (lone (b.atR a (.code c :: .inLoop c :: k)) cs w) b k cs e a' w' := by
    clear hI hg
    induction hr with
    | @done s r hd =>
      intro tm H hI w g a m s' ra hN hm
      obtain ⟨e, a₁, w₁, ⟨tm1, g1, H1, m1, s1, r1, n1, k1, ne, q⟩, harr⟩ := (round s _ tm H hI hd fun r' e => by simpa using e.symm).run rr B w g a s' ra hN (Nat.le_trans hB0 m.size) hm b (.inLoop c :: k) cs hro hb hrr
      have mm := m.tr m1 s0 s'
      cases e with
      | normal => obtain ⟨s', hs, _⟩ := q; cases hs
      | exit id => exact ⟨_, a₁, w₁, ⟨tm1, g1, H1, mm, s1, r1, n1, k1, ne, q⟩, .pass (x := .inLoop c) rfl (fun _ _ => .inl (by simp)) harr⟩
      | goto l => exact ⟨_, a₁, w₁, ⟨tm1, g1, H1, mm, s1, r1, n1, k1, ne, q⟩, .pass (x := .inLoop c) rfl (fun _ _ => .inl (by simp)) harr⟩
      | ret => exact ⟨_, a₁, w₁, ⟨tm1, g1, H1, mm, s1, r1, n1, k1, ne, q⟩, .pass (x := .inLoop c) rfl (fun _ _ => .inl (by simp)) harr⟩
      | panic ch => exact ⟨_, a₁, w₁, ⟨tm1, g1, H1, mm, s1, r1, n1, k1, ne, q⟩, .pass (x := .inLoop c) rfl (fun _ _ => .inl (by simp)) harr⟩
      | outgrown => exact absurd rfl ne
    | @more s s2 r hd _ ih =>
      intro tm H hI w g a m s' ra hN hm
      obtain ⟨e, a₁, w₁, ⟨tm1, g1, H1, m1, s1, r1, n1, k1, ne, q⟩, harr⟩ := (round s _ tm H hI hd fun r' e => by cases e).run rr B w g a s' ra hN (Nat.le_trans hB0 m.size) hm b (.inLoop c :: k) cs hro hb hrr
      have mm := m.tr m1 s0 s'
      cases e with
      | normal =>
        obtain ⟨s3, hs, tm2, H2, hg, hI1⟩ := q
        cases hs
        obtain ⟨g2, m2, sm2, r2⟩ := hg w₁ g1 s1
        obtain ⟨e₂, a₂, w₂, hq₂, harr₂⟩ := ih round tm2 H2 hI1 w₁ g2 a₁ (mm.tr m2 s0 s1) sm2 (r2 _ r1) n1 (k1.mono m2)
        exact ⟨e₂, a₂, w₂, hq₂, .of_steps (StepsIn.trans harr (.one (fenced_calm hb hrr rfl) stepR_inLoop)) harr₂⟩
      | exit id => exact ⟨_, a₁, w₁, ⟨tm1, g1, H1, mm, s1, r1, n1, k1, ne, q⟩, .pass (x := .inLoop c) rfl (fun _ _ => .inl (by simp)) harr⟩
      | goto l => exact ⟨_, a₁, w₁, ⟨tm1, g1, H1, mm, s1, r1, n1, k1, ne, q⟩, .pass (x := .inLoop c) rfl (fun _ _ => .inl (by simp)) harr⟩
      | ret => exact ⟨_, a₁, w₁, ⟨tm1, g1, H1, mm, s1, r1, n1, k1, ne, q⟩, .pass (x := .inLoop c) rfl (fun _ _ => .inl (by simp)) harr⟩
      | panic ch => exact ⟨_, a₁, w₁, ⟨tm1, g1, H1, mm, s1, r1, n1, k1, ne, q⟩, .pass (x := .inLoop c) rfl (fun _ _ => .inl (by simp)) harr⟩
      | outgrown => exact absurd rfl ne
  obtain ⟨e, a', w', hq, harr⟩ := key tm1 H1 hI w0 g0 a0 (.refl _ _) s0 r0 hN0 hm0
  exact ⟨e, a', w', hq, .of_steps (.one (fenced_calm hb hrr rfl) stepR_loop) harr⟩

theorem ICalls_iwp {f : FuncId} {fn : Func} {c : Code} {args : List IV} {K : IEnd → IHeap → Prop} (hf : P.funcs[f]? = some fn) (hbd : hasBody P f = true) (hb : fn.body = some c) (hN : fn.ntmps = N)
    (hn : (decide (args.length ≤ N) && fn.results.toList.all (rvN N)) = true)
    (h : ∀ cb, cb = c → H.Wf → (∀ a, a ∈ args → Bd a) → (∀ a, a ∈ args → NB H.next a) → IWp P N cb (retQ P fn.results.toList H K) (tm0 args) H) : ICalls P f args H K := by
  subst hN
  refine ⟨hbd, fun w g vs s rl => ?_⟩
  simp only [Bool.and_eq_true, decide_eq_true_eq] at hn
  refine (ICalls_of_IWp hbd hf hb hn.1 hn.2 fun hw => h c rfl hw (fun a ha => ?_) (fun a ha => ?_)).run w g vs s rl
  · obtain ⟨j, hj⟩ := List.getElem?_of_mem ha
    have hlt : j < vs.size := by rw [rl.1]; exact (List.getElem?_eq_some_iff.1 hj).1
    exact (rl.2 j _ a (Array.getElem?_eq_getElem hlt) hj).bd
  · obtain ⟨j, hj⟩ := List.getElem?_of_mem ha
    have hlt : j < vs.size := by rw [rl.1]; exact (List.getElem?_eq_some_iff.1 hj).1
    have := (rl.2 j _ a (Array.getElem?_eq_getElem hlt) hj).nb
    rwa [s.nx] at this

theorem ICalls.wk {f : FuncId} {args args' : List IV} {K : IEnd → IHeap → Prop} (hl : args'.length = args.length) (hw : ∀ (j : Nat) (i i' : IV), args[j]? = some i → args'[j]? = some i' → Wk i i') (h : ICalls P f args' H K) : ICalls P f args H K := by
  refine ⟨h.body, fun w g vs s rl => h.run w g vs s ⟨by rw [rl.1, hl], fun j x c hx hc => ?_⟩⟩
  have hlt : j < args.length := by rw [← hl]; exact (List.getElem?_eq_some_iff.1 hc).1
  exact hw j _ c (List.getElem?_eq_getElem hlt) hc w g x (rl.2 j x _ hx (List.getElem?_eq_getElem hlt))

theorem ICalls.eqA {f : FuncId} {args args' : List IV} {K : IEnd → IHeap → Prop} (e : args = args') (h : ICalls P f args' H K) : ICalls P f args H K := e ▸ h

inductive WkL : List IV → List IV → Prop
  | nil : WkL [] []
  | cons {a b : IV} {l m : List IV} (h : Wk a b) (t : WkL l m) : WkL (a :: l) (b :: m)

theorem WkL.len {l m : List IV} (h : WkL l m) : m.length = l.length := by
  induction h with
  | nil => rfl
  | cons _ _ ih => simp [ih]

theorem WkL.get {l m : List IV} (h : WkL l m) : ∀ (j : Nat) (a b : IV), l[j]? = some a → m[j]? = some b → Wk a b := by
  induction h with
  | nil => intro j a b h; simp at h
  | cons h _ ih =>
    intro j a b h1 h2
    cases j with
    | zero => simp at h1 h2; subst h1; subst h2; exact h
    | succ j => exact ih j a b (by simpa using h1) (by simpa using h2)

theorem WkL.refl : ∀ (l : List IV), WkL l l
  | [] => .nil
  | _ :: l => .cons (.refl _) (WkL.refl l)

/-! ### Tests -/

theorem splitG_f {α : Type} {c : Prop} [Decidable c] {b : Bool} {X Y : Option α} {x : α} {K : Bool → Prop} {sk : Tm → Prop} (h : (if c then X else Y) = some x) (e : b = decide c) (h1 : c → X = some x → K true) (h2 : ¬ c → Y = some x → K false) : splitG (.v (.bool b)) K sk tm := by
  subst e
  refine splitG' (fun hc => ?_) (fun hc => ?_)
  · have hc : c := by simpa using hc
    rw [if_pos hc] at h
    simpa [hc] using h1 hc h
  · have hc : ¬ c := by simpa using hc
    rw [if_neg hc] at h
    simpa [hc] using h2 hc h

theorem Gh.nilrow {tm : Tm} {H : IHeap} {d sz : Nat} (h0 : 0 < sz) (hd : tm d = .v (.slice none 0 0)) : Gh tm H (upd tm d (.os H.next 0)) (H.new (.row sz [])) := by
  intro w g s
  have hu := s.upd (w' := w) (H' := H.new (.row sz [])) H.next (.slice none 0 0) (.row sz []) rfl (Nat.le_succ _) (Nat.lt_succ_self _) (Nat.le_refl _) rfl rfl rfl
    (fun b hb => .inr rfl) (fun b hb => by simp [blk] at hb) (.inl rfl) (fun g' m _ => ⟨none, 0, rfl, by simp, by simp [maxN], by simp, h0, .inl ⟨rfl, rfl⟩⟩)
  refine ⟨_, hu.2, hu.1, fun a r i hi => ?_⟩
  show R w _ _ (if i = d then _ else _)
  by_cases e : i = d
  · rw [if_pos e]
    subst e
    have h1 := r i hi
    rw [hd] at h1
    rw [h1.v_eq]
    exact os_of_put (Nat.lt_succ_self _) ⟨none, 0, rfl⟩
  · rw [if_neg e]
    exact (r i hi).mono hu.2

/-! ### Statements -/

theorem IWp_cond_i {α : Type} {c : Prop} [Decidable c] {o : Operand} {X Y : Option α} {r : α} {x y : Code} (h : (if c then X else Y) = some r) (ho : ev tm o = .v (.bool (decide c))) (hN : opd N o = true)
    (h1 : c → X = some r → IWp P N x Q tm H) (h2 : ¬ c → Y = some r → IWp P N y Q tm H) : IWp P N (.cond o x y) Q tm H := by
  refine IWp_cond ho hN (fun e => ?_) (fun e => ?_)
  · have hc : c := by simpa using e
    rw [if_pos hc] at h
    exact h1 hc h
  · have hc : ¬ c := by simpa using e
    rw [if_neg hc] at h
    exact h2 hc h

theorem IWp_cond_t {o : Operand} {x y : Code} (ho : ev tm o = .v (.bool true)) (hN : opd N o = true) (h1 : IWp P N x Q tm H) : IWp P N (.cond o x y) Q tm H := IWp_cond ho hN (fun _ => h1) (fun e => by cases e)

theorem IWp_cond_f {o : Operand} {x y : Code} (ho : ev tm o = .v (.bool false)) (hN : opd N o = true) (h1 : IWp P N y Q tm H) : IWp P N (.cond o x y) Q tm H := IWp_cond ho hN (fun e => by cases e) (fun _ => h1)

theorem IWp.up {a : Code} (h : IWp P N a (fun e tm H => ∃ tm1 H1, Gh tm H tm1 H1 ∧ Q e tm1 H1) tm H) : IWp P N a Q tm H := by
  refine ⟨fun rr B w g ac s r hN hB hm => wpIn_mono (h.run rr B w g ac s r hN hB hm) ?_⟩
  rintro e a' w' ⟨tm', g', H', h1, h2, h3, h4, h5, h6, tm1, H1, hg, hq⟩
  obtain ⟨g2, m2, s2, r2⟩ := hg w' g' h2
  exact ⟨tm1, g2, H1, h1.tr m2 s h2, s2, r2 _ h3, h4, h5.mono m2, h6, hq⟩

theorem IWp_tailC {a : Code} (J : Tm → IHeap → Prop) (hJ : ∀ tm H, J tm H → Q .normal tm H) (h : ∀ K', (∀ tm H, UpI J tm H → K' tm H) → IWp P N a (thenQ K' Q) tm H) : IWp P N a Q tm H := by
  refine IWp.up ((h (UpI J) fun _ _ h => h).mono fun e tm H hq => ?_)
  cases e with
  | normal => obtain ⟨tm1, H1, h1, h2⟩ := hq; exact ⟨tm1, H1, h1, hJ _ _ h2⟩
  | _ => exact ⟨tm, H, .refl _ _, hq⟩

/-! ### Ends -/

section

variable {H0 : IHeap} {K : IEnd → IHeap → Prop}

theorem retG_pureE {r r' : IV} (he : Ext H0 H) (e : r' = r) (hn : NB H0.next r) (h : K (.ret r) H0) : retG r' H0 K H := by subst e; exact retG_pure he hn h

theorem retG_fzE {r r' r2 : IV} {J : IHeap} (he : EndH H0 H J) (e : r2 = r') (hf : Fz H J r r2) (h : K (.ret r') J) : retG r H0 K H := by subst e; exact retG_fz he hf h

end

theorem Gh.slotN {tm : Tm} {H : IHeap} (d sz : Nat) (hd : tm d = .v (.slice none 0 0)) : Gh tm H (upd tm d (.sl sz [])) H := Gh.slot (by rw [hd]; exact Wk.nil sz)

@[go_sem] theorem put_map {α β : Type} {g : α → β} {l : List α} {n : Nat} {x : α} (h : n < l.length) : List.take n (l.map g) ++ g x :: List.drop (n + 1) (l.map g) = (l.set n x).map g := by
  rw [List.set_eq_take_append_cons_drop, if_pos h]
  simp

/-! ### The named memory, at other names -/

@[go_sem high] theorem new_obj_ne {H : IHeap} {o : HO} {i : Nat} (h : ¬ i = H.next) : (H.new o).obj i = H.obj i := by simp [IHeap.new, h]

@[go_sem high] theorem set_obj_ne {H : IHeap} {k i : Nat} {o : HO} (h : ¬ i = k) : (H.set k o).obj i = H.obj i := by simp [IHeap.set, h]

@[go_sem high] theorem del_obj_ne {H : IHeap} {k i : Nat} (h : ¬ i = k) : (H.del k).obj i = H.obj i := by simp [IHeap.del, h]

end Go.Idl

namespace Go.Idl

open Go Go.RowKit Go.Proofs Go.Shelf

variable {P : Program} {N : Nat} {tm : Tm} {H : IHeap}

def Bld (T e : TypeId) (H : IHeap) (n0 k : Nat) (l : List UInt8) : Prop :=
  n0 ≤ k ∧ ∃ a buf, H.obj k = some (.ty T (.cells [a, buf])) ∧ (a = .v (.pointer none) ∨ a = .p k 0) ∧
    ((l = [] ∧ buf = .v (.slice none 0 0)) ∨ ∃ kb, n0 ≤ kb ∧ kb ≠ k ∧ buf = .os kb l.length ∧ H.obj kb = some (.ty e (.row 1 (byt l))))

def isTR : HO → Bool
  | .ty _ (.row _ _) => true
  | _ => false

structure BStep (H J : IHeap) (n0 k : Nat) : Prop where
  le : H.next ≤ J.next
  keep : ∀ i o, H.obj i = some o → i ≠ k → (i < n0 ∨ isTR o = false) → J.obj i = some o
  sn : J.sn = H.sn

theorem args1 {w : World} {g : Gs} {vs : Array Value} {i : IV} (rl : RL w g vs [i]) : ∃ x, vs = #[x] ∧ R w g x i := by
  obtain ⟨h1, h2⟩ := rl
  have hs : vs.size = 1 := h1
  refine ⟨vs[0], ?_, h2 0 _ _ (Array.getElem?_eq_getElem (by omega)) rfl⟩
  apply Array.ext
  · simpa using hs
  · intro j h3 h4
    have e : j = 0 := by omega
    subst e
    rfl

theorem ICalls_copyCheck {f : FuncId} {T : TypeId} (hbd : hasBody P f = true)
    (hfresh : ∀ (b : Nat) (w : World), w.cell? ⟨b, 0, none⟩ = some (.pointer none) → w.shape? b = some (T, 2) → w.frozen? ⟨b, 0, none⟩ = false → Calls P f #[.pointer (some ⟨b, 0, none⟩)] w fun e w' => e = .returned (.tuple #[]) ∧ w' = w.setCell ⟨b, 0, none⟩ (.pointer (some ⟨b, 0, none⟩)))
    (hused : ∀ (b : Nat) (w : World), w.cell? ⟨b, 0, none⟩ = some (.pointer (some ⟨b, 0, none⟩)) → Calls P f #[.pointer (some ⟨b, 0, none⟩)] w fun e w' => e = .returned (.tuple #[]) ∧ w' = w)
    {K : IEnd → IHeap → Prop} (k : Nat) (a buf : IV) (ho : H.obj k = some (.ty T (.cells [a, buf])))
    (ha : a = .v (.pointer none) ∨ a = .p k 0) (hK : K (.ret (.tu [])) (H.set k (.ty T (.cells [.p k 0, buf])))) : ICalls P f [.p k 0] H K := by
  refine ⟨hbd, fun w g vs s rl => ?_⟩
  obtain ⟨x, rfl, hx⟩ := args1 rl
  obtain ⟨b, xs, hmu, rfl, hb, hsz, hc⟩ := s.ty_at ho hx
  have hsz2 : xs.size = 2 := hsz
  have hlt := heap_lt hb
  obtain ⟨x0, hx0, hx0', hr0⟩ := hc.2 0 a rfl
  obtain ⟨x1, hx1, hx1', hr1⟩ := hc.2 1 buf rfl
  have hcell : w.cell? ⟨b, 0, none⟩ = some x0 := by simp [World.cell?, hb, hx0]
  have hsh : g.sh k = some .fx := by rw [s.sh, IHeap.sh, ho]; rfl
  have hk1 : k < g.nx := by rw [s.nx]; exact s.lt k (by rw [ho]; rfl)
  have hp0 : ∀ w', R w' g (.pointer (some ⟨b, 0, none⟩)) (.p k 0) := fun w' => .p k 0 _ hk1 ⟨_, rfl⟩ fun _ _ _ => ⟨b, hmu, rfl⟩
  rcases ha with rfl | rfl
  · rw [hr0.v_eq] at hcell
    have := hfresh b w hcell (by simp [World.shape?, hb, hsz2]) (by simp [World.frozen?, hb])
    refine this.mono ?_
    rintro e w' ⟨rfl, rfl⟩
    rw [setCell_put hb]
    have hp := s.put (w' := w.putObj b (.cells (xs.setIfInBounds 0 (.pointer (some ⟨b, 0, none⟩))) T (0, 0))) k b (.ty T (.cells [.v (.pointer none), buf])) (.ty T (.cells [.p k 0, buf])) ho rfl (by rw [hmu]; rfl) (by simp) rfl rfl rfl
      (fun i hi => World.putObj_heap_other hi)
      (fun m => ⟨⟨b, _, T, (0, 0), hmu, by rw [putObj_get _ _ _ hlt, if_pos rfl], freeZ_zero _, by simp [hsz2], fun j c hj => by
          match j, hj with
          | 0, hj => simp at hj; subst hj; exact ⟨.pointer (some ⟨b, 0, none⟩), by simp [hsz2], rfl, hp0 _⟩
          | 1, hj => simp at hj; subst hj; exact ⟨x1, by rw [Array.getElem?_setIfInBounds_ne (by omega)]; exact hx1, hx1', hr1.mono m⟩
          | j + 2, hj => simp at hj⟩, fun b' hb' => by
        rw [hmu] at hb'
        simp only [blk, Option.some.injEq] at hb'
        subst hb'
        exact ⟨_, by rw [putObj_get _ _ _ hlt, if_pos rfl], fun cs' e => by cases e; simp [hsz2]⟩⟩)
    exact ⟨.ret (.tu []), g, _, hp.2, hp.1, .ret _ _ (.tu _ _ rfl (by simp)), hK⟩
  · have hxx : x0 = .pointer (some ⟨b, 0, none⟩) := by
      obtain ⟨_, _, hq⟩ := hr0.p_inv
      obtain ⟨b', q1, q2⟩ := hq .fx hsh rfl
      rw [hmu] at q1
      cases q1
      exact q2
    rw [hxx] at hcell
    have := hused b w hcell
    refine this.mono ?_
    rintro e w' ⟨rfl, rfl⟩
    have hset : H.set k (.ty T (.cells [.p k 0, buf])) = H := by
      unfold IHeap.set
      congr 1
      funext i
      split
      · rename_i e; subst e; exact ho.symm
      · rfl
    rw [hset] at hK
    exact ⟨.ret (.tu []), g, H, .refl _ _, s, .ret _ _ (.tu _ _ rfl (by simp)), hK⟩

set_option maxHeartbeats 2000000 in
set_option maxRecDepth 100000 in
/-- The text of a builder that holds a byte, with the world behind it. -/
theorem bString_run {ρ : Go.Shelf.Ren} (L : Lays.n169 P ρ) (X : Builder.Extra P ρ) (b g cap : Nat) (p : Value) (cur : Array Value) (l : List UInt8) (w : World) (hbk : w.heap[b]? = some (.cells #[p, .slice (some ⟨g, 0, none⟩) l.length cap] (ρ.t 72) (0, 0))) (hg : w.heap[g]? = some (.cells cur (ρ.t 5) (0, 0)))
    (h0 : l ≠ []) (hnc : l.length ≤ cap) (hcs : l.length ≤ cur.size) (hcm : l.length ≤ 9223372036854775807) (hc : ∀ (j : Nat) (x : UInt8), l[j]? = some x → cur[j]? = some (Value.int .u8 x.toNat)) :
    Calls P (ρ.f 169) #[.pointer (some ⟨b, 0, none⟩)] w fun e w' => e = .returned (.string ⟨l.toArray⟩) ∧ w' = w.drew.freeze ⟨g, 0, none⟩ l.length := by
  have hl0 : l.length ≠ 0 := by simpa using h0
  have c1 : w.drew.cell? ⟨b, 1, none⟩ = some (.slice (some ⟨g, 0, none⟩) l.length cap) := by
    have : w.drew.heap[b]? = some (.cells #[p, .slice (some ⟨g, 0, none⟩) l.length cap] (ρ.t 72) (0, 0)) := hbk
    rw [Lib.cell_of_heap this]; rfl
  have hSD : (Builtin.unsafeSliceData_ #[(ρ.t 37)] (ρ.t 127) #[.slice (some ⟨g, 0, none⟩) l.length cap]).run P w.drew = .ok (.pointer (some ⟨g, 0, none⟩)) w.drew :=
    Lib.run_unsafeSliceData_row _ _ _ _ _ _ (by omega)
  have hUS : (Builtin.unsafeString_ #[(ρ.t 127), (ρ.t 3)] (ρ.t 9) #[.pointer (some ⟨g, 0, none⟩), .int .i64 l.length]).run P w.drew = .ok (.string ⟨l.toArray⟩) (w.drew.freeze ⟨g, 0, none⟩ l.length) := by
    refine Lib.run_unsafeString_row w.drew (ρ.t 127) (ρ.t 3) (ρ.t 9) (ρ.t 5) L.t127 X.cellsByte g cur.size (by have hg' : w.drew.heap[g]? = some (.cells cur (ρ.t 5) (0, 0)) := hg; simp [World.shape?, hg']) l h0 (by omega) (by omega) ?_
    intro j x hx
    have hg' : w.drew.heap[g]? = some (.cells cur (ρ.t 5) (0, 0)) := hg
    have := hc j x hx
    rw [addr_add, Nat.zero_add, Lib.cell_of_heap hg']
    exact this
  have mixed := L.mixed
  have t72 := L.t72; have a72 := L.a72; have z72 := L.z72; have v72 := L.v72; have u72 := run_underlying L.t72
  have t70 := L.t70; have a70 := L.a70; have z70 := L.z70; have v70 := L.v70; have u70 := run_underlying L.t70
  have t37 := L.t37; have a37 := L.a37; have z37 := L.z37; have v37 := L.v37; have u37 := run_underlying L.t37
  have t127 := L.t127; have a127 := L.a127; have z127 := L.z127; have v127 := L.v127; have u127 := run_underlying L.t127
  have t3 := L.t3; have a3 := L.a3; have z3 := L.z3; have v3 := L.v3; have u3 := run_underlying L.t3
  have t9 := L.t9; have a9 := L.a9; have z9 := L.z9; have v9 := L.v9; have u9 := run_underlying L.t9
  have t5 := X.t5; have a5 := X.a5; have z5 := X.z5; have v5 := X.v5; have u5 := run_underlying X.t5
  go_enter L.f169, Body.n169_ntmps ρ
  go_wp2
  go_region_o
  all_goals (go_wp2; go_ret; exact ⟨rfl, rfl⟩)

theorem Sim.dropTurn {w w' : World} {g : Gs} (s : Sim w g H) {k b : Nat} {o : HO} (hk : H.obj k = some o) (hb : blk (g.mu k) = some b) (size : w'.heap.size = w.heap.size) (os : w'.os = w.os) (tape : w'.tape = w.tape) (output : w'.output = w.output)
    (same : ∀ i, i ≠ b → w'.heap[i]? = w.heap[i]?) : Sim w' (g.to (H.del k)) (H.del k) ∧ Mono w g w' (g.to (H.del k)) := by
  have hlive : (g.sh k).isSome = true := by rw [s.sh, IHeap.sh, hk]; rfl
  have hsub : SubH (H.del k) H := fun i o h => by
    simp only [IHeap.del] at h
    split at h
    · cases h
    · exact h
  have hs := hsub.sh s
  have m : Mono w g w' (g.to (H.del k)) := by
    refine ⟨by omega, os, tape, output, fun i hi hn => ?_, fun i hi ho => to_ow hs ho, rfl, by show g.nx ≤ H.next; rw [s.nx]; exact Nat.le_refl _, ?_, ?_⟩
    · refine same i fun e => ?_
      subst e
      exact (s.bk k i hlive hb).1 (hn ⟨k, hlive, hb⟩)
    · intro i hi hf
      exact ⟨hs i _ hf, rfl⟩
    · intro i m' hi hf
      exact ⟨m', hs i _ hf, Nat.le_refl _, fun _ => rfl⟩
  refine ⟨⟨rfl, fun _ => rfl, fun i hi => ?_, fun i b' h1 h2 => ?_, fun i i' b' h1 h2 h3 h4 => ?_, fun i o' ho => ?_, fun b' hb' => by rw [size]; exact s.old b' hb', fun p hp i hi => (s.snap p hp i hi).mono m⟩, m⟩
  · obtain ⟨o', ho⟩ := Option.isSome_iff_exists.1 hi
    exact s.lt i (by rw [hsub i o' ho]; rfl)
  · obtain ⟨q, hq⟩ := Option.isSome_iff_exists.1 h1
    have := s.bk i b' (by rw [hs i q hq]; rfl) h2
    exact ⟨this.1, by rw [size]; exact this.2⟩
  · obtain ⟨q, hq⟩ := Option.isSome_iff_exists.1 h1
    obtain ⟨q', hq'⟩ := Option.isSome_iff_exists.1 h2
    exact s.inj i i' b' (by rw [hs i q hq]; rfl) (by rw [hs i' q' hq']; rfl) h3 h4
  · refine (s.obj i o' (hsub i o' ho)).mono m fun b' hb' => same b' fun e => ?_
    subst e
    have hi : (g.sh i).isSome = true := by rw [s.sh, IHeap.sh, hsub i o' ho]; rfl
    have := s.inj k i b' hlive hi hb hb'
    subst this
    simp [IHeap.del] at ho

theorem ICalls_BString {ρ : Go.Shelf.Ren} {f : FuncId} (L : Lays.n169 P ρ) (X : Builder.Extra P ρ) (hf : ρ.f 169 = f) (hbd : hasBody P f = true) {K : IEnd → IHeap → Prop} (n0 k : Nat) (l : List UInt8) (hB : Bld (ρ.t 72) (ρ.t 5) H n0 k l)
    (hK : ∀ J, BStep H J n0 k → K (.ret (.v (str l))) J) : ICalls P f [.p k 0] H K := by
  refine ⟨hbd, fun w g vs s rl => ?_⟩
  obtain ⟨x, rfl, hx⟩ := args1 rl
  obtain ⟨hn0, a, buf, ho, ha, hbuf⟩ := hB
  obtain ⟨b, xs, hmu, rfl, hb, hsz, hc⟩ := s.ty_at ho hx
  have hsz2 : xs.size = 2 := hsz
  obtain ⟨x0, hx0, hx0', hr0⟩ := hc.2 0 a rfl
  obtain ⟨x1, hx1, hx1', hr1⟩ := hc.2 1 buf rfl
  have hxs : xs = #[x0, x1] := by
    apply Array.ext
    · simpa using hsz2
    · intro i h1 h2
      match i, h2 with
      | 0, _ => have := Array.getElem?_eq_some_iff.1 hx0; simpa using this.2
      | 1, _ => have := Array.getElem?_eq_some_iff.1 hx1; simpa using this.2
      | i + 2, h2 => exact absurd h2 (by simp)
  subst hxs
  have same : BStep H H n0 k := ⟨Nat.le_refl _, fun _ _ h _ _ => h, rfl⟩
  have empty : l = [] → ∀ w', Below w.heap.size w w' → ∃ ie g' H', Mono w g w' g' ∧ Sim w' g' H' ∧ RE w' g' (.returned (.string ⟨#[]⟩)) ie ∧ K ie H' := by
    intro hl w' hbl
    subst hl
    have hg := s.grow hbl.size hbl.os hbl.tape hbl.output hbl.block
    exact ⟨.ret (.v (str [])), g, H, hg.2, hg.1, .ret _ _ (.v _), hK H same⟩
  rcases hbuf with ⟨hl, rfl⟩ | ⟨kb, hkb, hne, rfl, hob⟩
  · have h1 := hr1.v_eq
    subst h1
    have := Any.Builder_String_nil L X w.heap.size b x0 w hb
    rw [hf] at this
    refine this.mono ?_
    rintro e w' ⟨rfl, hbl⟩
    exact empty hl w' hbl
  · obtain ⟨⟨aa, cap, hm, h2, h3, _, _, h5⟩, hpin⟩ := s.obj kb _ hob
    have hlen : (byt l).length = l.length := byt_length l
    rw [hlen] at hm h2 h3
    have hsh : g.sh kb = some (.row l.length) := by rw [s.sh, IHeap.sh, hob]; simp [HO.sh, hlen]
    have hx1e : x1 = .slice aa l.length cap := by
      cases hr1 with
      | os _ _ _ _ h _ => rw [← hm]; exact (h _ hsh).2 rfl
    subst hx1e
    rcases h5 with ⟨rfl, rfl⟩ | ⟨gb, xs, el, fz, rfl, h6, h7, h8, h9⟩
    · have hl : l = [] := List.eq_nil_of_length_eq_zero (by omega)
      subst hl
      have := Any.Builder_String_nil L X w.heap.size b x0 w hb
      rw [hf] at this
      refine this.mono ?_
      rintro e w' ⟨rfl, hbl⟩
      exact empty rfl w' hbl
    · obtain ⟨xs', q1, _⟩ := hpin gb (by rw [hm]; rfl)
      rw [h6] at q1
      cases q1
      by_cases hl : l = []
      · subst hl
        by_cases hc0 : cap = 0
        · subst hc0
          have := Any.Builder_String_noroom L X w.heap.size b gb x0 xs w (Nat.le_refl _) hb h6
          rw [hf] at this
          refine this.mono ?_
          rintro e w' ⟨rfl, hbl⟩
          exact empty rfl w' hbl
        · have := Any.Builder_String_room L X w.heap.size b gb cap x0 w hc0 hb
          rw [hf] at this
          refine this.mono ?_
          rintro e w' ⟨rfl, hbl⟩
          exact empty rfl w' hbl
      · have hfl : (byt l).flatten.length = l.length := by rw [byt_flatten]; simp
        have hcs : l.length ≤ xs.size := by have := h9.1; omega
        have := bString_run L X b gb cap x0 xs l w hb h6 hl h2 hcs h3 (fun j x hj => by
          obtain ⟨y, q1, _, q3⟩ := h9.2 j (.v (.int .u8 x.toNat)) (by rw [byt_flatten]; simp [hj])
          rw [q1, q3.v_eq])
        rw [hf] at this
        refine this.mono ?_
        rintro e w' ⟨rfl, rfl⟩
        have hd := s.dropTurn (w' := w.drew.freeze ⟨gb, 0, none⟩ l.length) hob (b := gb) (by rw [hm]; rfl) (by unfold World.freeze; split <;> simp <;> rfl) (by unfold World.freeze; split <;> rfl) (by unfold World.freeze; split <;> rfl) (by unfold World.freeze; split <;> rfl) (fun i hi => by
          unfold World.freeze
          split
          · rfl
          · simp only
            rw [Array.getElem?_modify, if_neg (fun e => hi e.symm)]
            rfl)
        refine ⟨.ret (.v (str l)), _, _, hd.2, hd.1, .ret _ _ (.v _), hK _ ⟨Nat.le_refl _, fun i o hi hik ht => ?_, rfl⟩⟩
        simp only [IHeap.del]
        rw [if_neg]
        · exact hi
        · rintro rfl
          rw [hob] at hi
          cases hi
          rcases ht with ht | ht
          · omega
          · cases ht

end Go.Idl

namespace Go.Idl

open Go Go.RowKit

variable {P : Program} {H : IHeap}

def IHeap.bare (H : IHeap) : IHeap := { H with obj := fun _ => none }

@[go_sem] theorem bare_obj {k : Nat} : H.bare.obj k = none := rfl

@[go_sem] theorem bare_next : H.bare.next = H.next := rfl

theorem bare_sub : SubH H.bare H := fun k o h => by simp [IHeap.bare] at h

theorem Sim.bare {w : World} {g : Gs} (s : Sim w g H) : Sim w (g.to H.bare) H.bare where
  nx := rfl
  sh := fun _ => rfl
  lt := fun k h => by simp [IHeap.bare] at h
  bk := fun k b h => by simp [Gs.to, IHeap.bare, IHeap.sh] at h
  inj := fun k k' b h => by simp [Gs.to, IHeap.bare, IHeap.sh] at h
  obj := fun k o h => by simp [IHeap.bare] at h
  old := s.old
  snap := fun p hp i hi => by
    have h := s.snap p hp i hi
    refine h.monoR ⟨Nat.le_refl _, fun _ _ _ => rfl, fun b _ e => to_ow (bare_sub.sh s) e, ?_, fun k _ e => ?_, fun k m _ e => ?_⟩
    · show g.nx ≤ H.next
      exact Nat.le_of_eq s.nx
    · simp [Gs.to, IHeap.bare, IHeap.sh] at e
    · simp [Gs.to, IHeap.bare, IHeap.sh] at e

inductive FzL (H J : IHeap) : List IV → List IV → Prop
  | nil : FzL H J [] []
  | cons {a b : IV} {l m : List IV} (h : Fz H J a b) (t : FzL H J l m) : FzL H J (a :: l) (b :: m)

theorem FzL.len {J : IHeap} {l m : List IV} (h : FzL H J l m) : m.length = l.length := by
  induction h with
  | nil => rfl
  | cons _ _ ih => simp [ih]

theorem FzL.get {J : IHeap} {l m : List IV} (h : FzL H J l m) : ∀ (j : Nat) (a b : IV), l[j]? = some a → m[j]? = some b → Fz H J a b := by
  induction h with
  | nil => intro j a b h; simp at h
  | cons h _ ih =>
    intro j a b h1 h2
    cases j with
    | zero => simp at h1 h2; subst h1; subst h2; exact h
    | succ j => exact ih j a b (by simpa using h1) (by simpa using h2)

end Go.Idl

namespace Go.Idl

open Go Go.RowKit

variable {P : Program} {H B H' : IHeap}

theorem Ext.setN (h : Ext B H') {k : Nat} (hk : B.obj k = none) (o : HO) : Ext B (H'.set k o) := by
  refine ⟨h.wf, h.le, fun i o' hi => ?_, h.sn⟩
  simp only [IHeap.set]
  by_cases e : i = k
  · rw [e, hk] at hi; cases hi
  · rw [if_neg e]; exact h.sub i o' hi

theorem wf_del (hw : H.Wf) (k : Nat) : (H.del k).Wf := fun i hi => by
  simp only [IHeap.del]
  split
  · rfl
  · exact hw i hi

/-! ### What the library does beside: new blocks alone -/

theorem Mono.of_below {w w' : World} {g : Gs} (h : Below w.heap.size w w') : Mono w g w' g :=
  ⟨h.size, h.os, h.tape, h.output, fun b hb _ => h.block b hb, fun _ _ e => e, rfl, Nat.le_refl _, fun _ _ e => ⟨e, rfl⟩, fun _ m' _ e => ⟨m', e, Nat.le_refl _, fun _ => rfl⟩⟩

theorem Sim.of_below {w w' : World} {g : Gs} (s : Sim w g H) (h : Below w.heap.size w w') : Sim w' g H where
  nx := s.nx
  sh := s.sh
  lt := s.lt
  bk := fun k b h1 h2 => ⟨(s.bk k b h1 h2).1, Nat.lt_of_lt_of_le (s.bk k b h1 h2).2 h.size⟩
  inj := s.inj
  obj := fun k o ho => ObjR.mono (.of_below h) (fun b hb => h.block b (s.bk k b (by rw [s.sh, IHeap.sh, ho]; rfl) hb).2) (s.obj k o ho)
  old := fun b hb => Nat.lt_of_lt_of_le (s.old b hb) h.size
  snap := fun p hp i hi => (s.snap p hp i hi).mono (.of_below h)

/-! ### Errors: whether there is one -/

def errI (t : TypeId) (b : Bool) : IV := if b = true then .ifc t .any else .v .nilIface

theorem nilI_errN {P : Program} {t t' : TypeId} {b : Bool} {d : TypeDesc} (hu : P.underlying t = some d) (hd : (match d with | .interface _ => true | _ => false) = true) : nilI P .neq t (errI t' b) = some (True, .v (.bool b)) := by
  unfold nilI errI
  rw [hu]
  cases d <;> first | (cases b <;> rfl) | cases hd

@[simp] theorem NB_errI {n : Nat} {t : TypeId} {b : Bool} : NB n (errI t b) := by
  unfold errI
  split
  · exact .ifc _ _ .any
  · exact .v _

end Go.Idl

namespace Go.Idl

open Go Go.RowKit

variable {P : Program} {N : Nat} {tm : Tm} {H B H' : IHeap} {Q : Exit → Tm → IHeap → Prop}

def setL (H : IHeap) : List (Nat × HO) → IHeap
  | [] => H
  | p :: L => setL (H.set p.1 p.2) L

theorem setL_next (L : List (Nat × HO)) : ∀ H : IHeap, (setL H L).next = H.next := by
  induction L with
  | nil => intro H; rfl
  | cons p L ih => intro H; exact ih _

theorem setL_sn (L : List (Nat × HO)) : ∀ H : IHeap, (setL H L).sn = H.sn := by
  induction L with
  | nil => intro H; rfl
  | cons p L ih => intro H; exact ih _

theorem setL_obj (L : List (Nat × HO)) : ∀ (H : IHeap) (i : Nat), (∃ o, (i, o) ∈ L ∧ (setL H L).obj i = some o) ∨ ((∀ p, p ∈ L → p.1 ≠ i) ∧ (setL H L).obj i = H.obj i) := by
  induction L with
  | nil => intro H i; exact .inr ⟨by simp, rfl⟩
  | cons p L ih =>
    intro H i
    rcases ih (H.set p.1 p.2) i with ⟨o, h1, h2⟩ | ⟨h1, h2⟩
    · exact .inl ⟨o, List.mem_cons_of_mem _ h1, h2⟩
    · by_cases e : i = p.1
      · refine .inl ⟨p.2, by subst e; exact List.mem_cons_self, h2.trans ?_⟩
        simp [IHeap.set, e]
      · refine .inr ⟨fun q hq => ?_, h2.trans ?_⟩
        · rcases List.mem_cons.1 hq with rfl | hq
          · exact fun e' => e e'.symm
          · exact h1 q hq
        · simp [IHeap.set, e]

@[go_sem] theorem setL_nil : setL H [] = H := rfl

@[go_sem] theorem setL_cons {k : Nat} {o : HO} {L : List (Nat × HO)} : setL H ((k, o) :: L) = setL (H.set k o) L := rfl

theorem Ext.delB (h : Ext B H') (k : Nat) : Ext (B.del k) H' := ⟨wf_del h.wf k, h.le, fun i o hi => by
  simp only [IHeap.del] at hi
  split at hi
  · cases hi
  · exact h.sub i o hi, h.sn⟩

def delL (H : IHeap) : List (Nat × HO) → IHeap
  | [] => H
  | p :: L => delL (H.del p.1) L

theorem delL_nil : delL H [] = H := rfl

theorem delL_cons {k : Nat} {o : HO} {L : List (Nat × HO)} : delL H ((k, o) :: L) = delL (H.del k) L := rfl

theorem delL_next (L : List (Nat × HO)) : ∀ H : IHeap, (delL H L).next = H.next := by
  induction L with
  | nil => intro H; rfl
  | cons p L ih => intro H; exact ih _

theorem delL_obj (L : List (Nat × HO)) : ∀ (H : IHeap) (i : Nat), (∀ p, p ∈ L → p.1 ≠ i) → (delL H L).obj i = H.obj i := by
  induction L with
  | nil => intro H i _; rfl
  | cons p L ih =>
    intro H i h
    rw [show (delL H (p :: L)).obj i = (delL (H.del p.1) L).obj i from rfl, ih _ _ fun q hq => h q (List.mem_cons_of_mem _ hq)]
    have : ¬ i = p.1 := fun e => h p (by simp) e.symm
    simp [IHeap.del, this]

theorem EndH.ioL (L : List (Nat × HO)) (he : Ext (delL H L) H') (hv : ∀ p, p ∈ L → p.1 < H.next ∧ H'.obj p.1 = some p.2 ∧ NBo H.next p.2) : EndH H H' (setL H L) := by
  have hn := setL_next L H
  have hle : H.next ≤ H'.next := by have := he.le; rwa [delL_next] at this
  have old : ∀ i o, (∀ p, p ∈ L → p.1 ≠ i) → H.obj i = some o → (delL H L).obj i = some o := fun i o h1 h2 => by rw [delL_obj L H i h1]; exact h2
  refine ⟨by rw [hn]; exact Nat.le_refl _, by rw [hn]; exact hle, fun i o hi => ?_, fun i o hi => ?_, .inr fun i o hi => ?_, setL_sn L H⟩
  · rcases setL_obj L H i with ⟨o1, h1, h2⟩ | ⟨h1, h2⟩
    · rw [h2] at hi; cases hi; exact (hv _ h1).2.1
    · rw [h2] at hi; exact he.sub i o (old i o h1 hi)
  · rw [hn]
    rcases setL_obj L H i with ⟨o1, h1, h2⟩ | ⟨h1, h2⟩
    · exact (hv _ h1).1
    · rw [h2] at hi
      rcases Nat.lt_or_ge i H.next with q | q
      · exact q
      · have h3 := he.wf i (by rw [delL_next]; exact q)
        rw [old i o h1 hi] at h3; cases h3
  · rw [hn]
    rcases setL_obj L H i with ⟨o1, h1, h2⟩ | ⟨h1, h2⟩
    · rw [h2] at hi; cases hi; exact .inr (hv _ h1).2.2
    · rw [h2] at hi; exact .inl hi

theorem NBo_mE {α : Type} {f : α → IV} {m : List (List UInt8 × α)} {n : Nat} : NBo n (.map (mE f m)) ↔ ∀ p, p ∈ m → NB n (f p.2) := by
  simp only [NBo, mE, List.mem_map]
  constructor
  · intro h p hp; exact h _ ⟨p, hp, rfl⟩
  · rintro h e ⟨p, hp, rfl⟩; exact h p hp

theorem NBo_mI {α : Type} {j : IntKind} {f : α → IV} {m : List (Int × α)} {n : Nat} : NBo n (.map (mI j f m)) ↔ ∀ p, p ∈ m → NB n (f p.2) := by
  simp only [NBo, mI, List.mem_map]
  constructor
  · intro h p hp; exact h _ ⟨p, hp, rfl⟩
  · rintro h e ⟨p, hp, rfl⟩; exact h p hp

theorem IOper_toB {N : Nat} {o : Oper} {K : IV → IHeap → Prop} {Qp : List PanicEntry → IHeap → Prop} {ta tb e : TypeId} {d : TypeDesc} {x : Operand} (l : List UInt8) (ho : o.op = .convert ta tb x) (hok : okO N o = true) (ha : P.underlying ta = some d)
    (hb : P.underlying tb = some (.slice e)) (he : P.underlying e = some (.int .u8)) (hx : ev tm x = .v (str l)) (hs : (l.length : Int) ≤ 9223372036854775807) (hK : K (.sl 1 (l.map fun x => [.v (.int .u8 x.toNat)])) H) : IOper P N o tm H K Qp :=
  IOper_toBytes ho hok ha hb he hx (by rw [bytes_mk]; simp only [maxN]; omega) (by rw [bytes_mk]; exact hK)

theorem setI_get {k : Value} {y y' : IV} : ∀ (es : List (Value × IV)) (j : Nat) (e e' : Value × IV), (setI k y es)[j]? = some e → (setI k y' es)[j]? = some e' → e.1 = e'.1 ∧ (e.2 = e'.2 ∨ (e.2 = y ∧ e'.2 = y'))
  | [], j, e, e', h, h' => by
    cases j with
    | zero => simp [setI] at h h'; subst h; subst h'; exact ⟨rfl, .inr ⟨rfl, rfl⟩⟩
    | succ j => simp [setI] at h
  | x :: es, j, e, e', h, h' => by
    unfold setI at h h'
    split at h
    · rename_i hq
      rw [if_pos hq] at h'
      cases j with
      | zero => simp at h h'; subst h; subst h'; exact ⟨rfl, .inr ⟨rfl, rfl⟩⟩
      | succ j => simp at h h'; rw [h] at h'; cases h'; exact ⟨rfl, .inl rfl⟩
    · rename_i hq
      rw [if_neg hq] at h'
      cases j with
      | zero => simp at h h'; subst h; subst h'; exact ⟨rfl, .inl rfl⟩
      | succ j => exact setI_get es j e e' (by simpa using h) (by simpa using h')

theorem setI_len {k : Value} {y y' : IV} : ∀ (es : List (Value × IV)), (setI k y es).length = (setI k y' es).length
  | [] => rfl
  | x :: es => by
    unfold setI
    split
    · rfl
    · simp; exact setI_len es

theorem setI_keys {k : Value} {y y' : IV} : ∀ (es : List (Value × IV)), (setI k y es).map (·.1) = (setI k y' es).map (·.1)
  | [] => rfl
  | x :: es => by
    unfold setI
    split
    · rfl
    · simp [setI_keys (y' := y') es]

theorem Gh.fzMapSet {k km n sz : Nat} {es : List (List IV)} {ents : List (Value × IV)} {key : Value} (hk : H.obj k = some (.row sz es)) (hm : H.obj km = some (.map (setI key (.os k n) ents))) (hn : es.length = n) (hne : ¬ km = k) :
    Gh tm H tm ((H.del k).set km (.map (setI key (.sl sz es) ents))) := fun w g s => by
  obtain ⟨s1, m1⟩ := s.delK k
  refine ⟨_, m1, s1.retell (o := .map (setI key (.os k n) ents)) (by simp [IHeap.del, hne, hm]) rfl ?_, fun a r i hi => (r i hi).mono m1⟩
  intro _
  obtain ⟨b, me, clock, h1, h2, h3⟩ := s.obj km _ hm
  refine ⟨b, me, clock, h1, h2, h3.size.trans (setI_len ents), fun i q e' hq he' => ?_, h3.born, h3.nodup, by rw [setI_keys (y' := .os k n)]; exact h3.keys⟩
  have hlt : i < (setI key (.os k n) ents).length := by rw [setI_len (y' := .sl sz es)]; exact (List.getElem?_eq_some_iff.1 he').1
  have hg := List.getElem?_eq_getElem hlt
  obtain ⟨e1, e2⟩ := h3.ent i q _ hq hg
  obtain ⟨e3, e4⟩ := setI_get ents i _ e' hg he'
  refine ⟨e1.trans e3, ?_⟩
  rcases e4 with e4 | ⟨e4, e5⟩
  · rw [← e4]; exact s.del_R k e2
  · rw [e5]; rw [e4] at e2; exact s.del_os hk hn e2

inductive NzL (n : Nat) : List IV → List IV → Prop
  | nil : NzL n [] []
  | same (a : IV) {l m : List IV} (t : NzL n l m) : NzL n (a :: l) (a :: m)
  | row {l m : List IV} (t : NzL n l m) : NzL n (.v (.slice none 0 0) :: l) (.os n 0 :: m)

theorem NzL.len {n : Nat} {l m : List IV} (h : NzL n l m) : m.length = l.length := by
  induction h with
  | nil => rfl
  | same _ _ ih => simp [ih]
  | row _ ih => simp [ih]

theorem NzL.get {n : Nat} {l m : List IV} (h : NzL n l m) : ∀ (j : Nat) (a b : IV), l[j]? = some a → m[j]? = some b → a = b ∨ (a = .v (.slice none 0 0) ∧ b = .os n 0) := by
  induction h with
  | nil => intro j a b h; simp at h
  | same a _ ih =>
    intro j a b h1 h2
    cases j with
    | zero => simp at h1 h2; subst h1; subst h2; exact .inl rfl
    | succ j => exact ih j a b (by simpa using h1) (by simpa using h2)
  | row _ ih =>
    intro j a b h1 h2
    cases j with
    | zero => simp at h1 h2; subst h1; subst h2; exact .inr ⟨rfl, rfl⟩
    | succ j => exact ih j a b (by simpa using h1) (by simpa using h2)

theorem Gh.nilrowBox {kb sz : Nat} {cs cs' : List IV} (h0 : 0 < sz) (hb : H.obj kb = some (.cells cs)) (h : NzL H.next cs cs') : Gh tm H tm ((H.new (.row sz [])).set kb (.cells cs')) := by
  intro w g s
  have hlt : kb < H.next := s.lt kb (by rw [hb]; rfl)
  have hu := s.upd (w' := w) (H' := H.new (.row sz [])) H.next (.slice none 0 0) (.row sz []) rfl (Nat.le_succ _) (Nat.lt_succ_self _) (Nat.le_refl _) rfl rfl rfl
    (fun b hb => .inr rfl) (fun b hb => by simp [blk] at hb) (.inl rfl) (fun g' m _ => ⟨none, 0, rfl, by simp, by simp [maxN], by simp, h0, .inl ⟨rfl, rfl⟩⟩)
  have hnw : ∀ q, q < H.next → (H.new (.row sz [])).obj q = H.obj q := fun q hq => by
    have h' : ¬ q = H.next := Nat.ne_of_lt hq
    simp [IHeap.new, h']
  refine ⟨_, hu.2, hu.1.retell (o := .cells cs) ((hnw kb hlt).trans hb) rfl ?_, fun a r i hi => (r i hi).mono hu.2⟩
  intro ho
  obtain ⟨b, xs, el, f, h1, h2, h3, hc⟩ := ho
  refine ⟨b, xs, el, f, h1, h2, h3, by rw [h.len]; exact hc.1, fun j c hj => ?_⟩
  have hl : j < cs.length := by rw [← h.len]; exact (List.getElem?_eq_some_iff.1 hj).1
  obtain ⟨x, q1, q2, q3⟩ := hc.2 j _ (List.getElem?_eq_getElem hl)
  refine ⟨x, q1, q2, ?_⟩
  rcases h.get j _ c (List.getElem?_eq_getElem hl) hj with e | ⟨e1, e2⟩
  · rw [← e]; exact q3
  · rw [e1] at q3
    rw [e2, q3.v_eq]
    exact os_of_put (Nat.lt_succ_self _) ⟨none, 0, rfl⟩

@[go_sem] theorem ite_ne {α : Type} {i n : Nat} {a b : α} (h : ¬ i = n) : (if i = n then a else b) = b := if_neg h

/-! ### Names, one by one -/

def NBL (n : Nat) (l : List IV) : Prop := ∀ c, c ∈ l → NB n c

theorem NBL.nil {n : Nat} : NBL n [] := fun c h => by cases h

theorem NBL.cons {n : Nat} {a : IV} {l : List IV} (h : NB n a) (t : NBL n l) : NBL n (a :: l) := fun c hc => by
  rcases List.mem_cons.1 hc with rfl | hc
  · exact h
  · exact t c hc

theorem NBL.map {n : Nat} {α : Type} {f : α → IV} {l : List α} (h : ∀ x, NB n (f x)) : NBL n (l.map f) := fun c hc => by
  obtain ⟨x, _, rfl⟩ := List.mem_map.1 hc
  exact h x

theorem NBL.app {n : Nat} {l m : List IV} (h : NBL n l) (k : NBL n m) : NBL n (l ++ m) := fun c hc => (List.mem_append.1 hc).elim (h c) (k c)

theorem NB_slm {n sz : Nat} {α : Type} {f : α → List IV} {l : List α} (h : ∀ x, NBL n (f x)) : NB n (.sl sz (l.map f)) := .sl _ _ fun e he c hc => by
  obtain ⟨x, _, rfl⟩ := List.mem_map.1 he
  exact h x c hc

theorem NB_agL {n : Nat} {l : List IV} (h : NBL n l) : NB n (.ag l) := .ag _ h

theorem NB_tuL {n : Nat} {l : List IV} (h : NBL n l) : NB n (.tu l) := .tu _ h

theorem NB_mpL {n k : Nat} (h : k < n) : NB n (.mp k) := .mp _ h

theorem NB_pL {n k off : Nat} (h : k < n) : NB n (.p k off) := .p _ _ h

theorem NBo_mEL {α : Type} {f : α → IV} {m : List (List UInt8 × α)} {n : Nat} (h : ∀ x, NB n (f x)) : NBo n (.map (mE f m)) := NBo_mE.2 fun p _ => h p.2

theorem NBo_mIL {α : Type} {j : IntKind} {f : α → IV} {m : List (Int × α)} {n : Nat} (h : ∀ x, NB n (f x)) : NBo n (.map (mI j f m)) := NBo_mI.2 fun p _ => h p.2

theorem NBo_cL {cs : List IV} {n : Nat} (h : NBL n cs) : NBo n (.cells cs) := h

/-! ### Jumps forward -/

def noJ (Q : Exit → Tm → IHeap → Prop) : Exit → Tm → IHeap → Prop
  | .goto _, _, _ => False
  | .normal, tm, H => Q .normal tm H
  | .exit id, tm, H => Q (.exit id) tm H
  | .ret, tm, H => Q .ret tm H
  | .panic ch, tm, H => Q (.panic ch) tm H
  | .outgrown, tm, H => Q .outgrown tm H

@[go_sem] theorem noJ_normal : noJ Q .normal tm H = Q .normal tm H := rfl

@[go_sem] theorem noJ_ret : noJ Q .ret tm H = Q .ret tm H := rfl

@[go_sem] theorem noJ_exit {l : Nat} : noJ Q (.exit l) tm H = Q (.exit l) tm H := rfl

@[go_sem] theorem noJ_panic {c : List PanicEntry} : noJ Q (.panic c) tm H = Q (.panic c) tm H := rfl

@[go_sem high] theorem jumpQ_gotoS {l : Nat} {J : Tm → IHeap → Prop} : jumpQ l J Q (.goto l) tm H = J tm H := by simp [jumpQ]

theorem IWp_scopeF {c rest : Code} (l : Nat) (hf : findLabel c l = some rest) (h : ∀ cb, cb = rest → IWp P N c (jumpQ l (fun tm H => IWp P N cb (noJ Q) tm H) Q) tm H) : IWp P N (.scope c) Q tm H :=
  IWp_scope l (fun tm H => IWp P N rest (noJ Q) tm H) (fun _ _ => 0) hf (h rest rfl) fun tm H hJ => hJ.mono fun e tm' H' hq => by
    cases e <;> first | exact hq | exact hq.elim

end Go.Idl

namespace Go.Idl

open Go Go.RowKit

variable {P : Program} {N : Nat} {tm : Tm} {H : IHeap} {Q : Exit → Tm → IHeap → Prop}

theorem IOper_toBytesO {o : Oper} {K : IV → IHeap → Prop} {Qp : List PanicEntry → IHeap → Prop} {ta tb e : TypeId} {d : TypeDesc} {x : Operand} (l : List UInt8) (ho : o.op = .convert ta tb x) (hok : okO N o = true) (ha : P.underlying ta = some d)
    (hb : P.underlying tb = some (.slice e)) (he : P.underlying e = some (.int .u8)) (hx : ev tm x = .v (str l)) (hK : K (.bs H.next 0 l.length) (H.new (.cells (l.map fun x => .v (.int .u8 x.toNat))))) : IOper P N o tm H K Qp := by
  obtain ⟨dst, op, type, pos, after, guard⟩ := o
  simp only at ho
  subst ho
  refine IOper_of (by simp) fun w g a sm r hN => ?_
  subst hN
  have rx := r.ev (x := x) (by simp [okO, Op.operands] at hok; exact hok.1)
  rw [hx] at rx
  have hxe := rx.v_eq
  obtain ⟨w', cap, xs, f, h1, h2, h3, h4, h5, h6, h7, h8, h9, h10, h11⟩ := run_toBytes (P := P) (e := e) ⟨l.toArray⟩ w
  have hsz : (⟨l.toArray⟩ : ByteArray).size = l.length := by rw [bytes_size, bytes_mk]
  rw [bytes_mk] at h11
  rw [hsz] at h1 h2 h11
  have hn := sm.new (w' := w') (.pointer (some ⟨w.heap.size, 0, none⟩)) (.cells (l.map fun x => .v (.int .u8 x.toNat))) (Nat.le_of_lt h3) h4 h5 h6 h7
    (fun b hb => by simp only [blk, Option.some.injEq] at hb; subst hb; exact ⟨h3, Nat.le_refl _⟩)
    (fun g' m _ => ⟨w.heap.size, xs, e, f, rfl, h8, h10, by rw [List.length_map, h9]; exact h2, fun j c hj => by
      have hjl : j < l.length := by
        have := (List.getElem?_eq_some_iff.1 hj).1
        simpa using this
      refine ⟨_, h11 j hjl, rfl, ?_⟩
      simp only [List.getElem?_map, Option.map_eq_some_iff] at hj
      obtain ⟨b, hb', rfl⟩ := hj
      rw [List.getD_eq_getElem?_getD, hb']
      exact .v _⟩)
  refine ⟨.slice (some ⟨w.heap.size, 0, none⟩) l.length cap, w', _, _, _, .inl ?_, hn.2, hn.1, ?_, hK⟩
  · simp [execOp, convert, hxe, run_underlying ha, run_underlying hb, run_underlying he, h1]
  · refine .bs _ _ _ _ (by simp [Gs.put]) ⟨_, _, rfl, h2⟩ fun s hs _ => ?_
    exact ⟨w.heap.size, cap, by simp [Gs.put], rfl⟩

theorem fz_self {J : IHeap} : ∀ {cs : List IV}, (∀ c, c ∈ cs → NB J.next c) → ∀ (j : Nat) (c c' : IV), cs[j]? = some c → cs[j]? = some c' → Fz H J c c' := fun h j c c' h1 h2 => by
  rw [h1] at h2
  cases h2
  exact .wk _ _ (fun _ _ _ h => h) (h c (List.mem_of_getElem? h1))

theorem Gh.freezeB {d k n : Nat} {cs : List IV} (hk : H.obj k = some (.cells cs)) (hd : tm d = .bs k 0 n) (hn : n = cs.length) (hm : n ≤ maxN) : Gh tm H (upd tm d (.sl 1 (cs.map fun x => [x]))) (H.del k) := by
  intro w g s
  have he := endH_del H s.wf k
  obtain ⟨s1, m1⟩ := he.sim s (.refl w g) s
  refine ⟨_, m1, s1, fun a r i hi => ?_⟩
  show R w _ _ (if i = d then _ else _)
  by_cases e : i = d
  · rw [if_pos e]
    subst e
    have h1 := r i hi
    rw [hd] at h1
    have hnb := (s.obj k _ hk).nb
    rw [s.nx] at hnb
    have hz : Fz H (H.del k) (.bs k 0 n) (.sl 1 (chunks 1 n (cs.drop 0))) := .bs k 0 n 1 cs cs (by simp [IHeap.del]) hk rfl (by omega) hm (fz_self hnb)
    rw [List.drop_zero, chunks_one' (by omega)] at hz
    exact hz.sound s he.sub h1
  · rw [if_neg e]
    have h1 := r i hi
    refine h1.to (he.sub.sh s) ?_
    have := h1.nb
    rwa [s.nx] at this

/-! ### Ranges over maps -/

end Go.Idl

namespace Go.Idl

open Go Go.RowKit

variable {P : Program} {N : Nat} {tm : Tm} {H0 H H1 : IHeap} {K : IEnd → IHeap → Prop}

theorem retG_pureA {r r' : IV} (h1 : Ext H0 H1) (h : K (.ret r) H0)
    (he : Ext H0 H1 → Ext H0 H := by intro he1; repeat (first | exact he1 | refine Ext.new ?_ _ | refine Ext.set ?_ (by first | omega | (simp [go_sem]; done) | (simp [go_sem]; omega)) _ | refine Ext.del ?_ (by first | omega | (simp [go_sem]; done) | (simp [go_sem]; omega))))
    (hn : NB H0.next r := by repeat (first | exact .v _ | exact NBL.nil | refine NBL.cons ?_ ?_ | refine NB_slm fun _ => ?_ | refine NB_agL ?_ | refine NB_tuL ?_ | refine NBL.app ?_ ?_ | refine NBL.map fun _ => ?_ | exact NB_errI | refine NBo_cL ?_ | refine NBo_mEL fun _ => ?_ | refine NBo_mIL fun _ => ?_ | exact NB_mpL (by omega) | exact NB_pL (by omega)))
    (e : r' = r) : retG r' H0 K H := by subst e; exact retG_pure (he h1) hn h

theorem vcK {c : Code} {Q : Exit → Tm → IHeap → Prop} (h : vc P N c Q tm H) (hc : fitC N c = true := by kernel_rfl) : IWp P N c Q tm H := vc_sound _ hc _ _ _ h

end Go.Idl

namespace Go.Idl

open Go

@[go_sem] theorem cells4 : Go.Proofs.Tryz.prog.cellsOf 4 = 1 := by kernel_rfl

@[go_sem] theorem cells5 : Go.Proofs.Tryz.prog.cellsOf 5 = 1 := by kernel_rfl

@[go_sem] theorem bytes5 : Go.Proofs.Tryz.prog.bytesOf 5 = 1 := by kernel_rfl

@[go_sem] theorem zero5 : zeroOf Go.Proofs.Tryz.prog 5 = Option.some (Go.Value.int Go.IntKind.u8 0) := by kernel_rfl

@[go_sem] theorem cells9 : Go.Proofs.Tryz.prog.cellsOf 9 = 1 := by kernel_rfl

@[go_sem] theorem bytes9 : Go.Proofs.Tryz.prog.bytesOf 9 = 16 := by kernel_rfl

@[go_sem] theorem zero9 : zeroOf Go.Proofs.Tryz.prog 9 = Option.some (Go.Value.string { data := #[] }) := by kernel_rfl

@[go_sem] theorem cells23 : Go.Proofs.Tryz.prog.cellsOf 23 = 1 := by kernel_rfl

@[go_sem] theorem zero23 : zeroOf Go.Proofs.Tryz.prog 23 = Option.some (Go.Value.slice Option.none 0 0) := by kernel_rfl

@[go_sem] theorem cells40 : Go.Proofs.Tryz.prog.cellsOf 40 = 1 := by kernel_rfl

@[go_sem] theorem isBld40 : isBld Go.Proofs.Tryz.prog 40 = false := by kernel_rfl

@[go_sem] theorem zero40 : zeroOf Go.Proofs.Tryz.prog 40 = Option.some (Go.Value.slice Option.none 0 0) := by kernel_rfl

@[go_sem] theorem cells47 : Go.Proofs.Tryz.prog.cellsOf 47 = 1 := by kernel_rfl

@[go_sem] theorem cells49 : Go.Proofs.Tryz.prog.cellsOf 49 = 3 := by kernel_rfl

@[go_sem] theorem isBld49 : isBld Go.Proofs.Tryz.prog 49 = false := by kernel_rfl

@[go_sem] theorem bytes49 : Go.Proofs.Tryz.prog.bytesOf 49 = 48 := by kernel_rfl

@[go_sem] theorem zero49 : zeroOf Go.Proofs.Tryz.prog 49 = Option.some (Go.Value.agg #[Go.Value.int Go.IntKind.i64 0, Go.Value.string { data := #[] }, Go.Value.slice Option.none 0 0]) := by kernel_rfl

@[go_sem] theorem cells51 : Go.Proofs.Tryz.prog.cellsOf 51 = 2 := by kernel_rfl

@[go_sem] theorem isBld51 : isBld Go.Proofs.Tryz.prog 51 = false := by kernel_rfl

@[go_sem] theorem bytes51 : Go.Proofs.Tryz.prog.bytesOf 51 = 40 := by kernel_rfl

@[go_sem] theorem zero51 : zeroOf Go.Proofs.Tryz.prog 51 = Option.some (Go.Value.agg #[Go.Value.string { data := #[] }, Go.Value.slice Option.none 0 0]) := by kernel_rfl

@[go_sem] theorem cells67 : Go.Proofs.Tryz.prog.cellsOf 67 = 1 := by kernel_rfl

@[go_sem] theorem cells68 : Go.Proofs.Tryz.prog.cellsOf 68 = 4 := by kernel_rfl

@[go_sem] theorem isBld68 : isBld Go.Proofs.Tryz.prog 68 = false := by kernel_rfl

@[go_sem] theorem zero68 : zeroOf Go.Proofs.Tryz.prog 68 = Option.some (Go.Value.agg #[Go.Value.nilFunc, Go.Value.nilFunc, Go.Value.nilFunc, Go.Value.nilFunc]) := by kernel_rfl

@[go_sem] theorem cells89 : Go.Proofs.Tryz.prog.cellsOf 89 = 1 := by kernel_rfl

@[go_sem] theorem isBld91 : isBld Go.Proofs.Tryz.prog 91 = true := by kernel_rfl

@[go_sem] theorem zero91 : zeroOf Go.Proofs.Tryz.prog 91 = Option.some (Go.Value.agg #[Go.Value.pointer Option.none, Go.Value.slice Option.none 0 0]) := by kernel_rfl

@[go_sem] theorem cells101 : Go.Proofs.Tryz.prog.cellsOf 101 = 1 := by kernel_rfl

@[go_sem] theorem zero101 : zeroOf Go.Proofs.Tryz.prog 101 = Option.some (Go.Value.agg #[Go.Value.string { data := #[] }]) := by kernel_rfl

@[go_sem] theorem zero103 : zeroOf Go.Proofs.Tryz.prog 103 = Option.some (Go.Value.agg #[Go.Value.string { data := #[] }, Go.Value.bool Bool.false]) := by kernel_rfl

@[go_sem] theorem cells113 : Go.Proofs.Tryz.prog.cellsOf 113 = 2 := by kernel_rfl

@[go_sem] theorem zero113 : zeroOf Go.Proofs.Tryz.prog 113 = Option.some (Go.Value.agg #[Go.Value.string { data := #[] }, Go.Value.string { data := #[] }]) := by kernel_rfl

@[go_sem] theorem cells183 : Go.Proofs.Tryz.prog.cellsOf 183 = 1 := by kernel_rfl

attribute [go_sem] Go.Proofs.Tryz.underlying0 Go.Proofs.Tryz.underlying1 Go.Proofs.Tryz.underlying2 Go.Proofs.Tryz.underlying3 Go.Proofs.Tryz.underlying4 Go.Proofs.Tryz.underlying5 Go.Proofs.Tryz.underlying6 Go.Proofs.Tryz.underlying7 Go.Proofs.Tryz.underlying8 Go.Proofs.Tryz.underlying9 Go.Proofs.Tryz.underlying10 Go.Proofs.Tryz.underlying11 Go.Proofs.Tryz.underlying12 Go.Proofs.Tryz.underlying13 Go.Proofs.Tryz.underlying14 Go.Proofs.Tryz.underlying15 Go.Proofs.Tryz.underlying16 Go.Proofs.Tryz.underlying17 Go.Proofs.Tryz.underlying18 Go.Proofs.Tryz.underlying19 Go.Proofs.Tryz.underlying20 Go.Proofs.Tryz.underlying21 Go.Proofs.Tryz.underlying22 Go.Proofs.Tryz.underlying23 Go.Proofs.Tryz.underlying24 Go.Proofs.Tryz.underlying25 Go.Proofs.Tryz.underlying26 Go.Proofs.Tryz.underlying27 Go.Proofs.Tryz.underlying28 Go.Proofs.Tryz.underlying29 Go.Proofs.Tryz.underlying30 Go.Proofs.Tryz.underlying31 Go.Proofs.Tryz.underlying32 Go.Proofs.Tryz.underlying33 Go.Proofs.Tryz.underlying34 Go.Proofs.Tryz.underlying35 Go.Proofs.Tryz.underlying36 Go.Proofs.Tryz.underlying37 Go.Proofs.Tryz.underlying38 Go.Proofs.Tryz.underlying39 Go.Proofs.Tryz.underlying40 Go.Proofs.Tryz.underlying41 Go.Proofs.Tryz.underlying42 Go.Proofs.Tryz.underlying43 Go.Proofs.Tryz.underlying44 Go.Proofs.Tryz.underlying45 Go.Proofs.Tryz.underlying46 Go.Proofs.Tryz.underlying47 Go.Proofs.Tryz.underlying48 Go.Proofs.Tryz.underlying49 Go.Proofs.Tryz.underlying50 Go.Proofs.Tryz.underlying51 Go.Proofs.Tryz.underlying52 Go.Proofs.Tryz.underlying53 Go.Proofs.Tryz.underlying54 Go.Proofs.Tryz.underlying55 Go.Proofs.Tryz.underlying56 Go.Proofs.Tryz.underlying57 Go.Proofs.Tryz.underlying58 Go.Proofs.Tryz.underlying59 Go.Proofs.Tryz.underlying60 Go.Proofs.Tryz.underlying61 Go.Proofs.Tryz.underlying62 Go.Proofs.Tryz.underlying63 Go.Proofs.Tryz.underlying64 Go.Proofs.Tryz.underlying65 Go.Proofs.Tryz.underlying66 Go.Proofs.Tryz.underlying67 Go.Proofs.Tryz.underlying68 Go.Proofs.Tryz.underlying69 Go.Proofs.Tryz.underlying70 Go.Proofs.Tryz.underlying71 Go.Proofs.Tryz.underlying72 Go.Proofs.Tryz.underlying73 Go.Proofs.Tryz.underlying74 Go.Proofs.Tryz.underlying75 Go.Proofs.Tryz.underlying76 Go.Proofs.Tryz.underlying77 Go.Proofs.Tryz.underlying78 Go.Proofs.Tryz.underlying79 Go.Proofs.Tryz.underlying80 Go.Proofs.Tryz.underlying81 Go.Proofs.Tryz.underlying82 Go.Proofs.Tryz.underlying83 Go.Proofs.Tryz.underlying84 Go.Proofs.Tryz.underlying85 Go.Proofs.Tryz.underlying86 Go.Proofs.Tryz.underlying87 Go.Proofs.Tryz.underlying88 Go.Proofs.Tryz.underlying89 Go.Proofs.Tryz.underlying90 Go.Proofs.Tryz.underlying91 Go.Proofs.Tryz.underlying92 Go.Proofs.Tryz.underlying93 Go.Proofs.Tryz.underlying94 Go.Proofs.Tryz.underlying95 Go.Proofs.Tryz.underlying96 Go.Proofs.Tryz.underlying97 Go.Proofs.Tryz.underlying98 Go.Proofs.Tryz.underlying99 Go.Proofs.Tryz.underlying100 Go.Proofs.Tryz.underlying101 Go.Proofs.Tryz.underlying102 Go.Proofs.Tryz.underlying103 Go.Proofs.Tryz.underlying104 Go.Proofs.Tryz.underlying105 Go.Proofs.Tryz.underlying106 Go.Proofs.Tryz.underlying107 Go.Proofs.Tryz.underlying108 Go.Proofs.Tryz.underlying109 Go.Proofs.Tryz.underlying110 Go.Proofs.Tryz.underlying111 Go.Proofs.Tryz.underlying112 Go.Proofs.Tryz.underlying113 Go.Proofs.Tryz.underlying114 Go.Proofs.Tryz.underlying115 Go.Proofs.Tryz.underlying116 Go.Proofs.Tryz.underlying117 Go.Proofs.Tryz.underlying118 Go.Proofs.Tryz.underlying119 Go.Proofs.Tryz.underlying120 Go.Proofs.Tryz.underlying121 Go.Proofs.Tryz.underlying122 Go.Proofs.Tryz.underlying123 Go.Proofs.Tryz.underlying124 Go.Proofs.Tryz.underlying125 Go.Proofs.Tryz.underlying126 Go.Proofs.Tryz.underlying127 Go.Proofs.Tryz.underlying128 Go.Proofs.Tryz.underlying129 Go.Proofs.Tryz.underlying130 Go.Proofs.Tryz.underlying131 Go.Proofs.Tryz.underlying132 Go.Proofs.Tryz.underlying133 Go.Proofs.Tryz.underlying134 Go.Proofs.Tryz.underlying135 Go.Proofs.Tryz.underlying136 Go.Proofs.Tryz.underlying137 Go.Proofs.Tryz.underlying138 Go.Proofs.Tryz.underlying139 Go.Proofs.Tryz.underlying140 Go.Proofs.Tryz.underlying141 Go.Proofs.Tryz.underlying142 Go.Proofs.Tryz.underlying143 Go.Proofs.Tryz.underlying144 Go.Proofs.Tryz.underlying145 Go.Proofs.Tryz.underlying146 Go.Proofs.Tryz.underlying147 Go.Proofs.Tryz.underlying148 Go.Proofs.Tryz.underlying149 Go.Proofs.Tryz.underlying150 Go.Proofs.Tryz.underlying151 Go.Proofs.Tryz.underlying152 Go.Proofs.Tryz.underlying153 Go.Proofs.Tryz.underlying154 Go.Proofs.Tryz.underlying155 Go.Proofs.Tryz.underlying156 Go.Proofs.Tryz.underlying157 Go.Proofs.Tryz.underlying158 Go.Proofs.Tryz.underlying159 Go.Proofs.Tryz.underlying160 Go.Proofs.Tryz.underlying161 Go.Proofs.Tryz.underlying162 Go.Proofs.Tryz.underlying163 Go.Proofs.Tryz.underlying164 Go.Proofs.Tryz.underlying165 Go.Proofs.Tryz.underlying166 Go.Proofs.Tryz.underlying167 Go.Proofs.Tryz.underlying168 Go.Proofs.Tryz.underlying169 Go.Proofs.Tryz.underlying170 Go.Proofs.Tryz.underlying171 Go.Proofs.Tryz.underlying172 Go.Proofs.Tryz.underlying173 Go.Proofs.Tryz.underlying174 Go.Proofs.Tryz.underlying175 Go.Proofs.Tryz.underlying176 Go.Proofs.Tryz.underlying177 Go.Proofs.Tryz.underlying178 Go.Proofs.Tryz.underlying179 Go.Proofs.Tryz.underlying180 Go.Proofs.Tryz.underlying181 Go.Proofs.Tryz.underlying182 Go.Proofs.Tryz.underlying183 Go.Proofs.Tryz.underlying184 Go.Proofs.Tryz.underlying185 Go.Proofs.Tryz.underlying186 Go.Proofs.Tryz.underlying187 Go.Proofs.Tryz.underlying188 Go.Proofs.Tryz.underlying189 Go.Proofs.Tryz.underlying190 Go.Proofs.Tryz.underlying191 Go.Proofs.Tryz.underlying192 Go.Proofs.Tryz.underlying193 Go.Proofs.Tryz.underlying194 Go.Proofs.Tryz.underlying195 Go.Proofs.Tryz.underlying196 Go.Proofs.Tryz.underlying197 Go.Proofs.Tryz.underlying198 Go.Proofs.Tryz.underlying199 Go.Proofs.Tryz.underlying200 Go.Proofs.Tryz.underlying201

end Go.Idl

namespace Go.Proofs

open Go.Shelf

def Tryz.lays190_ren : Go.Shelf.Ren := ⟨fun | 190 => 107 | 125 => 118 | 258 => 117 | 128 => 139 | 129 => 140 | 302 => 130 | 303 => 131 | 304 => 132 | 305 => 133 | 306 => 134 | 307 => 135 | 308 => 136 | 309 => 137 | 310 => 138 | 333 => 152 | 329 => 153 | 330 => 154 | 334 => 155 | 335 => 156 | 336 => 157 | 344 => 164 | n => n, fun | 31 => 40 | 9 => 9 | 3 => 3 | 46 => 136 | 0 => 0 | 51 => 160 | 53 => 138 | 4 => 4 | 183 => 153 | 182 => 152 | 131 => 63 | 5 => 5 | 218 => 172 | 222 => 176 | 228 => 184 | 229 => 185 | n => n, fun | n => n⟩

theorem Tryz.lays190 : Go.Proofs.Lays.n190 Tryz.prog Tryz.lays190_ren := {
  mixed := by kernel_rfl
  f125 := Tryz.func118.trans (congrArg some (by kernel_rfl))
  f128 := Tryz.func139.trans (congrArg some (by kernel_rfl))
  f129 := Tryz.func140.trans (congrArg some (by kernel_rfl))
  f190 := Tryz.func107.trans (congrArg some (by kernel_rfl))
  f258 := Tryz.func117.trans (congrArg some (by kernel_rfl))
  f302 := Tryz.func130.trans (congrArg some (by kernel_rfl))
  f303 := Tryz.func131.trans (congrArg some (by kernel_rfl))
  f304 := Tryz.func132.trans (congrArg some (by kernel_rfl))
  f305 := Tryz.func133.trans (congrArg some (by kernel_rfl))
  f306 := Tryz.func134.trans (congrArg some (by kernel_rfl))
  f307 := Tryz.func135.trans (congrArg some (by kernel_rfl))
  f308 := Tryz.func136.trans (congrArg some (by kernel_rfl))
  f309 := Tryz.func137.trans (congrArg some (by kernel_rfl))
  f310 := Tryz.func138.trans (congrArg some (by kernel_rfl))
  f329 := Tryz.func153.trans (congrArg some (by kernel_rfl))
  f330 := Tryz.func154.trans (congrArg some (by kernel_rfl))
  f333 := Tryz.func152.trans (congrArg some (by kernel_rfl))
  f334 := Tryz.func155.trans (congrArg some (by kernel_rfl))
  f335 := Tryz.func156.trans (congrArg some (by kernel_rfl))
  f336 := Tryz.func157.trans (congrArg some (by kernel_rfl))
  f344 := Tryz.func164.trans (congrArg some (by kernel_rfl))
  t0 := Tryz.underlying0
  a0 := Tryz.isAgg0
  z0 := Tryz.sizeOf0
  v0 := Tryz.zeroValue0
  t3 := Tryz.underlying3
  a3 := Tryz.isAgg3
  z3 := Tryz.sizeOf3
  v3 := Tryz.zeroValue3
  t4 := Tryz.underlying4
  a4 := Tryz.isAgg4
  z4 := Tryz.sizeOf4
  v4 := Tryz.zeroValue4
  t5 := Tryz.underlying5
  a5 := Tryz.isAgg5
  z5 := Tryz.sizeOf5
  v5 := Tryz.zeroValue5
  t9 := Tryz.underlying9
  a9 := Tryz.isAgg9
  z9 := Tryz.sizeOf9
  v9 := Tryz.zeroValue9
  t31 := Tryz.underlying40
  a31 := Tryz.isAgg40
  z31 := Tryz.sizeOf40
  v31 := Tryz.zeroValue40
  t46 := Tryz.underlying136
  a46 := Tryz.isAgg136
  z46 := Tryz.sizeOf136
  v46 := Tryz.zeroValue136
  t51 := Tryz.underlying160
  a51 := Tryz.isAgg160
  z51 := Tryz.sizeOf160
  v51 := Tryz.zeroValue160
  t53 := Tryz.underlying138
  a53 := Tryz.isAgg138
  z53 := Tryz.sizeOf138
  v53 := Tryz.zeroValue138
  t131 := Tryz.underlying63
  a131 := Tryz.isAgg63
  z131 := Tryz.sizeOf63
  v131 := Tryz.zeroValue63
  t182 := Tryz.underlying152
  a182 := Tryz.isAgg152
  z182 := Tryz.sizeOf152
  v182 := Tryz.zeroValue152
  t183 := Tryz.underlying153
  a183 := Tryz.isAgg153
  z183 := Tryz.sizeOf153
  v183 := Tryz.zeroValue153
  t218 := Tryz.underlying172
  a218 := Tryz.isAgg172
  z218 := Tryz.sizeOf172
  v218 := Tryz.zeroValue172
  t222 := Tryz.underlying176
  a222 := Tryz.isAgg176
  z222 := Tryz.sizeOf176
  v222 := Tryz.zeroValue176
  t228 := Tryz.underlying184
  a228 := Tryz.isAgg184
  z228 := Tryz.sizeOf184
  v228 := Tryz.zeroValue184
  t229 := Tryz.underlying185
  a229 := Tryz.isAgg185
  z229 := Tryz.sizeOf185
  v229 := Tryz.zeroValue185 }

def Tryz.lays169_ren : Go.Shelf.Ren := ⟨fun | 169 => 67 | n => n, fun | 70 => 88 | 9 => 9 | 0 => 0 | 72 => 91 | 37 => 89 | 127 => 119 | 3 => 3 | 5 => 5 | n => n, fun | n => n⟩

theorem Tryz.lays169 : Go.Proofs.Lays.n169 Tryz.prog Tryz.lays169_ren := {
  mixed := by kernel_rfl
  f169 := Tryz.func67.trans (congrArg some (by kernel_rfl))
  t0 := Tryz.underlying0
  a0 := Tryz.isAgg0
  z0 := Tryz.sizeOf0
  v0 := Tryz.zeroValue0
  t3 := Tryz.underlying3
  a3 := Tryz.isAgg3
  z3 := Tryz.sizeOf3
  v3 := Tryz.zeroValue3
  t9 := Tryz.underlying9
  a9 := Tryz.isAgg9
  z9 := Tryz.sizeOf9
  v9 := Tryz.zeroValue9
  t37 := Tryz.underlying89
  a37 := Tryz.isAgg89
  z37 := Tryz.sizeOf89
  v37 := Tryz.zeroValue89
  t70 := Tryz.underlying88
  a70 := Tryz.isAgg88
  z70 := Tryz.sizeOf88
  v70 := Tryz.zeroValue88
  t72 := Tryz.underlying91
  a72 := Tryz.isAgg91
  z72 := Tryz.sizeOf91
  v72 := Tryz.zeroValue91
  t127 := Tryz.underlying119
  a127 := Tryz.isAgg119
  z127 := Tryz.sizeOf119
  v127 := Tryz.zeroValue119 }

def Tryz.lays171_ren : Go.Shelf.Ren := ⟨fun | 171 => 66 | 243 => 95 | 246 => 109 | 283 => 119 | 284 => 120 | 285 => 121 | 286 => 122 | 129 => 140 | 317 => 141 | 318 => 142 | 319 => 143 | 320 => 144 | 337 => 158 | 338 => 159 | n => n, fun | 3 => 3 | 9 => 9 | 2 => 2 | 4 => 4 | 171 => 137 | 0 => 0 | 53 => 138 | 37 => 89 | 5 => 5 | 173 => 141 | 212 => 163 | 51 => 160 | 20 => 20 | 213 => 164 | 46 => 136 | 232 => 187 | 233 => 188 | n => n, fun | 17 => 0 | 18 => 4 | 19 => 5 | n => n⟩

theorem Tryz.lays171 : Go.Proofs.Lays.n171 Tryz.prog Tryz.lays171_ren := {
  mixed := by kernel_rfl
  f129 := Tryz.func140.trans (congrArg some (by kernel_rfl))
  f171 := Tryz.func66.trans (congrArg some (by kernel_rfl))
  f243 := Tryz.func95.trans (congrArg some (by kernel_rfl))
  f246 := Tryz.func109.trans (congrArg some (by kernel_rfl))
  f283 := Tryz.func119.trans (congrArg some (by kernel_rfl))
  f284 := Tryz.func120.trans (congrArg some (by kernel_rfl))
  f285 := Tryz.func121.trans (congrArg some (by kernel_rfl))
  f286 := Tryz.func122.trans (congrArg some (by kernel_rfl))
  f317 := Tryz.func141.trans (congrArg some (by kernel_rfl))
  f318 := Tryz.func142.trans (congrArg some (by kernel_rfl))
  f319 := Tryz.func143.trans (congrArg some (by kernel_rfl))
  f320 := Tryz.func144.trans (congrArg some (by kernel_rfl))
  f337 := Tryz.func158.trans (congrArg some (by kernel_rfl))
  f338 := Tryz.func159.trans (congrArg some (by kernel_rfl))
  t0 := Tryz.underlying0
  a0 := Tryz.isAgg0
  z0 := Tryz.sizeOf0
  v0 := Tryz.zeroValue0
  t2 := Tryz.underlying2
  a2 := Tryz.isAgg2
  z2 := Tryz.sizeOf2
  v2 := Tryz.zeroValue2
  t3 := Tryz.underlying3
  a3 := Tryz.isAgg3
  z3 := Tryz.sizeOf3
  v3 := Tryz.zeroValue3
  t4 := Tryz.underlying4
  a4 := Tryz.isAgg4
  z4 := Tryz.sizeOf4
  v4 := Tryz.zeroValue4
  t5 := Tryz.underlying5
  a5 := Tryz.isAgg5
  z5 := Tryz.sizeOf5
  v5 := Tryz.zeroValue5
  t9 := Tryz.underlying9
  a9 := Tryz.isAgg9
  z9 := Tryz.sizeOf9
  v9 := Tryz.zeroValue9
  t20 := Tryz.underlying20
  a20 := Tryz.isAgg20
  z20 := Tryz.sizeOf20
  v20 := Tryz.zeroValue20
  t37 := Tryz.underlying89
  a37 := Tryz.isAgg89
  z37 := Tryz.sizeOf89
  v37 := Tryz.zeroValue89
  t46 := Tryz.underlying136
  a46 := Tryz.isAgg136
  z46 := Tryz.sizeOf136
  v46 := Tryz.zeroValue136
  t51 := Tryz.underlying160
  a51 := Tryz.isAgg160
  z51 := Tryz.sizeOf160
  v51 := Tryz.zeroValue160
  t53 := Tryz.underlying138
  a53 := Tryz.isAgg138
  z53 := Tryz.sizeOf138
  v53 := Tryz.zeroValue138
  t171 := Tryz.underlying137
  a171 := Tryz.isAgg137
  z171 := Tryz.sizeOf137
  v171 := Tryz.zeroValue137
  t173 := Tryz.underlying141
  a173 := Tryz.isAgg141
  z173 := Tryz.sizeOf141
  v173 := Tryz.zeroValue141
  t212 := Tryz.underlying163
  a212 := Tryz.isAgg163
  z212 := Tryz.sizeOf163
  v212 := Tryz.zeroValue163
  t213 := Tryz.underlying164
  a213 := Tryz.isAgg164
  z213 := Tryz.sizeOf164
  t232 := Tryz.underlying187
  a232 := Tryz.isAgg187
  z232 := Tryz.sizeOf187
  v232 := Tryz.zeroValue187
  t233 := Tryz.underlying188
  a233 := Tryz.isAgg188
  z233 := Tryz.sizeOf188
  v233 := Tryz.zeroValue188
  g17 := by kernel_rfl
  g18 := by kernel_rfl
  g19 := by kernel_rfl }

def Tryz.grow90_ren : Go.Shelf.Ren := ⟨fun | 4 => 90 | n => n, fun | 22 => 23 | 25 => 51 | 3 => 3 | 4 => 4 | 9 => 9 | 20 => 20 | 0 => 0 | n => n, fun | n => n⟩

theorem Tryz.grow90 : Go.Proofs.Lays8.n4 Tryz.prog Tryz.grow90_ren := {
  mixed := by kernel_rfl
  f4 := ⟨Tryz.f90.name, by decide, Tryz.func90.trans (congrArg some (by kernel_rfl))⟩
  t0 := Tryz.underlying0
  a0 := Tryz.isAgg0
  z0 := Tryz.sizeOf0
  v0 := Tryz.zeroValue0
  t3 := Tryz.underlying3
  a3 := Tryz.isAgg3
  z3 := Tryz.sizeOf3
  v3 := Tryz.zeroValue3
  t4 := Tryz.underlying4
  a4 := Tryz.isAgg4
  z4 := Tryz.sizeOf4
  v4 := Tryz.zeroValue4
  t9 := Tryz.underlying9
  a9 := Tryz.isAgg9
  z9 := Tryz.sizeOf9
  v9 := Tryz.zeroValue9
  t20 := Tryz.underlying20
  a20 := Tryz.isAgg20
  z20 := Tryz.sizeOf20
  v20 := Tryz.zeroValue20
  t22 := Tryz.underlying23
  a22 := Tryz.isAgg23
  z22 := Tryz.sizeOf23
  v22 := Tryz.zeroValue23 }

def Tryz.keys93_ren : Go.Shelf.Ren := ⟨fun | 10 => 93 | n => n, fun | 33 => 62 | 23 => 69 | 0 => 0 | 4 => 4 | 26 => 9 | 3 => 40 | n => n, fun | n => n⟩

theorem Tryz.keys93 : Go.Proofs.SlLaysZ.n10 Tryz.prog Tryz.keys93_ren := {
  mixed := by kernel_rfl
  f10 := ⟨Tryz.f93.name, by decide, Tryz.func93.trans (congrArg some (by kernel_rfl))⟩
  t0 := Tryz.underlying0
  a0 := Tryz.isAgg0
  z0 := Tryz.sizeOf0
  v0 := Tryz.zeroValue0
  t4 := Tryz.underlying4
  a4 := Tryz.isAgg4
  z4 := Tryz.sizeOf4
  v4 := Tryz.zeroValue4
  t23 := Tryz.underlying69
  a23 := Tryz.isAgg69
  z23 := Tryz.sizeOf69
  v23 := Tryz.zeroValue69
  t26 := Tryz.underlying9
  a26 := Tryz.isAgg9
  z26 := Tryz.sizeOf9
  v26 := Tryz.zeroValue9
  t33 := Tryz.underlying62
  a33 := Tryz.isAgg62
  z33 := Tryz.sizeOf62
  v33 := Tryz.zeroValue62 }

def Tryz.sorted92_ren : Go.Shelf.Ren := ⟨fun | 6 => 92 | 8 => 106 | 9 => 107 | 11 => 116 | 13 => 118 | 12 => 117 | 23 => 139 | 24 => 140 | 14 => 130 | 15 => 131 | 16 => 132 | 17 => 133 | 18 => 134 | 19 => 135 | 20 => 136 | 21 => 137 | 22 => 138 | 25 => 152 | 26 => 153 | 27 => 154 | 28 => 155 | 29 => 156 | 30 => 157 | 31 => 164 | n => n, fun | 26 => 9 | 28 => 84 | 24 => 40 | 0 => 0 | 3 => 3 | 37 => 136 | 48 => 160 | 50 => 138 | 4 => 4 | 40 => 153 | 39 => 152 | 45 => 63 | 5 => 5 | 9 => 9 | 51 => 172 | 55 => 176 | 57 => 184 | 58 => 185 | 33 => 62 | n => n, fun | n => n⟩

theorem Tryz.sorted92 : Go.Proofs.SlLaysZ.n6 Tryz.prog Tryz.sorted92_ren := {
  mixed := by kernel_rfl
  f6 := ⟨Tryz.f92.name, by decide, Tryz.func92.trans (congrArg some (by kernel_rfl))⟩
  f8 := ⟨Tryz.f106.name, by decide, Tryz.func106.trans (congrArg some (by kernel_rfl))⟩
  f11 := ⟨Tryz.f116.name, by decide, Tryz.func116.trans (congrArg some (by kernel_rfl))⟩
  t0 := Tryz.underlying0
  a0 := Tryz.isAgg0
  z0 := Tryz.sizeOf0
  v0 := Tryz.zeroValue0
  t24 := Tryz.underlying40
  a24 := Tryz.isAgg40
  z24 := Tryz.sizeOf40
  v24 := Tryz.zeroValue40
  t26 := Tryz.underlying9
  a26 := Tryz.isAgg9
  z26 := Tryz.sizeOf9
  v26 := Tryz.zeroValue9
  t28 := Tryz.underlying84
  a28 := Tryz.isAgg84
  z28 := Tryz.sizeOf84
  v28 := Tryz.zeroValue84
  i26 := by kernel_rfl }

def Tryz.sort107_ren : Go.Shelf.Ren := ⟨fun | 6 => 107 | 8 => 118 | 9 => 117 | 19 => 139 | 20 => 140 | 21 => 130 | 22 => 131 | 23 => 132 | 24 => 133 | 25 => 134 | 26 => 135 | 27 => 136 | 28 => 137 | 29 => 138 | 36 => 152 | 31 => 153 | 32 => 154 | 37 => 155 | 38 => 156 | 39 => 157 | 41 => 164 | n => n, fun | 27 => 40 | 29 => 9 | 3 => 3 | 32 => 136 | 26 => 40 | 0 => 0 | 44 => 160 | 46 => 138 | 4 => 4 | 36 => 153 | 35 => 152 | 41 => 63 | 5 => 5 | 9 => 9 | 53 => 172 | 57 => 176 | 63 => 184 | 64 => 185 | n => n, fun | n => n⟩

theorem Tryz.sort107 : Go.Proofs.SlLaysM.n6 Tryz.prog Tryz.sort107_ren := {
  mixed := by kernel_rfl
  f6 := ⟨Tryz.f107.name, by decide, Tryz.func107.trans (congrArg some (by kernel_rfl))⟩
  f8 := Tryz.func118.trans (congrArg some (by kernel_rfl))
  f9 := ⟨Tryz.f117.name, by decide, Tryz.func117.trans (congrArg some (by kernel_rfl))⟩
  f19 := Tryz.func139.trans (congrArg some (by kernel_rfl))
  f20 := Tryz.func140.trans (congrArg some (by kernel_rfl))
  f21 := ⟨Tryz.f130.name, by decide, Tryz.func130.trans (congrArg some (by kernel_rfl))⟩
  f22 := ⟨Tryz.f131.name, by decide, Tryz.func131.trans (congrArg some (by kernel_rfl))⟩
  f23 := ⟨Tryz.f132.name, by decide, Tryz.func132.trans (congrArg some (by kernel_rfl))⟩
  f24 := ⟨Tryz.f133.name, by decide, Tryz.func133.trans (congrArg some (by kernel_rfl))⟩
  f25 := ⟨Tryz.f134.name, by decide, Tryz.func134.trans (congrArg some (by kernel_rfl))⟩
  f26 := ⟨Tryz.f135.name, by decide, Tryz.func135.trans (congrArg some (by kernel_rfl))⟩
  f27 := ⟨Tryz.f136.name, by decide, Tryz.func136.trans (congrArg some (by kernel_rfl))⟩
  f28 := ⟨Tryz.f137.name, by decide, Tryz.func137.trans (congrArg some (by kernel_rfl))⟩
  f29 := ⟨Tryz.f138.name, by decide, Tryz.func138.trans (congrArg some (by kernel_rfl))⟩
  f31 := Tryz.func153.trans (congrArg some (by kernel_rfl))
  f32 := Tryz.func154.trans (congrArg some (by kernel_rfl))
  f36 := ⟨Tryz.f152.name, by decide, Tryz.func152.trans (congrArg some (by kernel_rfl))⟩
  f37 := ⟨Tryz.f155.name, by decide, Tryz.func155.trans (congrArg some (by kernel_rfl))⟩
  f38 := ⟨Tryz.f156.name, by decide, Tryz.func156.trans (congrArg some (by kernel_rfl))⟩
  f39 := ⟨Tryz.f157.name, by decide, Tryz.func157.trans (congrArg some (by kernel_rfl))⟩
  f41 := ⟨Tryz.f164.name, by decide, Tryz.func164.trans (congrArg some (by kernel_rfl))⟩
  t0 := Tryz.underlying0
  a0 := Tryz.isAgg0
  z0 := Tryz.sizeOf0
  v0 := Tryz.zeroValue0
  t3 := Tryz.underlying3
  a3 := Tryz.isAgg3
  z3 := Tryz.sizeOf3
  v3 := Tryz.zeroValue3
  t4 := Tryz.underlying4
  a4 := Tryz.isAgg4
  z4 := Tryz.sizeOf4
  v4 := Tryz.zeroValue4
  t5 := Tryz.underlying5
  a5 := Tryz.isAgg5
  z5 := Tryz.sizeOf5
  v5 := Tryz.zeroValue5
  t9 := Tryz.underlying9
  a9 := Tryz.isAgg9
  z9 := Tryz.sizeOf9
  v9 := Tryz.zeroValue9
  t26 := Tryz.underlying40
  a26 := Tryz.isAgg40
  z26 := Tryz.sizeOf40
  v26 := Tryz.zeroValue40
  t27 := Tryz.underlying40
  a27 := Tryz.isAgg40
  z27 := Tryz.sizeOf40
  v27 := Tryz.zeroValue40
  t29 := Tryz.underlying9
  a29 := Tryz.isAgg9
  z29 := Tryz.sizeOf9
  v29 := Tryz.zeroValue9
  t32 := Tryz.underlying136
  a32 := Tryz.isAgg136
  z32 := Tryz.sizeOf136
  v32 := Tryz.zeroValue136
  t35 := Tryz.underlying152
  a35 := Tryz.isAgg152
  z35 := Tryz.sizeOf152
  v35 := Tryz.zeroValue152
  t36 := Tryz.underlying153
  a36 := Tryz.isAgg153
  z36 := Tryz.sizeOf153
  v36 := Tryz.zeroValue153
  t41 := Tryz.underlying63
  a41 := Tryz.isAgg63
  z41 := Tryz.sizeOf63
  v41 := Tryz.zeroValue63
  t44 := Tryz.underlying160
  a44 := Tryz.isAgg160
  z44 := Tryz.sizeOf160
  v44 := Tryz.zeroValue160
  t46 := Tryz.underlying138
  a46 := Tryz.isAgg138
  z46 := Tryz.sizeOf138
  v46 := Tryz.zeroValue138
  t53 := Tryz.underlying172
  a53 := Tryz.isAgg172
  z53 := Tryz.sizeOf172
  v53 := Tryz.zeroValue172
  t57 := Tryz.underlying176
  a57 := Tryz.isAgg176
  z57 := Tryz.sizeOf176
  v57 := Tryz.zeroValue176
  t63 := Tryz.underlying184
  a63 := Tryz.isAgg184
  z63 := Tryz.sizeOf184
  v63 := Tryz.zeroValue184
  t64 := Tryz.underlying185
  a64 := Tryz.isAgg185
  z64 := Tryz.sizeOf185
  v64 := Tryz.zeroValue185 }

end Go.Proofs

namespace Go.Idl

open Go Go.Proofs.Tryz Go.RowKit

@[go_sem] abbrev sS (l : List (List UInt8)) : IV := .sl 1 (l.map fun x => [.v (str x)])

set_option pp.deepTerms false in
set_option maxRecDepth 4000 in
theorem values39 (l : List IV) : Iter prog 101 [.cp [.sl 1 (l.map fun x => [x])]] (l.map fun x => [x]) [] := by
  refine ⟨by kernel_rfl, fun lp I E H hC hy h0 => ?_⟩
  refine ICalls_vc (N := 16) func101 (by kernel_rfl) rfl (by kernel_rfl) (by kernel_rfl) fun hw hbd hnb => ?_
  simp only [List.mem_cons, List.not_mem_nil, or_false, forall_eq_or_imp, forall_eq] at hbd
  have hl : l.length ≤ 9223372036854775807 := by
    have h := hbd.2
    cases h with | cp _ h => exact (by simpa [maxN] using (Bd_sl.1 (h (.sl 1 (l.map fun x => [x])) (by simp))).1)
  simp (maxSteps := 1000000) (disch := omega) [go_sem]
  refine vcLoop_mk (fun tm' H' => ∃ i : Nat, tm' 0 = yv lp ∧ tm' 5 = .sl 1 (l.map fun x => [x]) ∧ tm' 6 = .v (.int .i64 l.length) ∧ tm' 7 = .v (.int .i64 i) ∧ i ≤ l.length ∧ I i H') (fun tm' _ => l.length - (intOf (tm' 7)).toNat) (.same ?_) ?_
  · exact ⟨0, by simp [go_sem], by simp [go_sem], by simp [go_sem], by simp [go_sem], by omega, h0⟩
  · rintro I' μ' hI hμ tm' H' ⟨i, h0, h5, h6, h7, hi, hI0⟩
    refine vc_sound _ (by kernel_rfl) _ _ _ ?_
    simp (maxSteps := 1000000) (disch := omega) [go_sem, h0, h5, h6, h7]
    refine condB ?_ ?_ <;> intro hc <;> (try simp at hc)
    · simp (maxSteps := 1000000) (disch := omega) [go_sem, h0, h5, h6, h7]
      refine IOper_yield' (l := lp) (is := [l[i]]) rfl (by kernel_rfl) (by simp [go_sem]) (by simp [go_sem]) ((hy i _ H' (by simp [hc]) hI0).mono ?_)
      rintro b H'' (⟨rfl, h⟩ | ⟨rfl, h⟩)
      · simp (maxSteps := 1000000) (disch := omega) [go_sem, h0, h5, h6, h7]
        exact .of hI hμ ⟨i + 1, by simp [go_sem, h0], by simp [go_sem, h5], by simp [go_sem, h6], by simp [go_sem], by omega, h⟩ (by simp [go_sem, h7]; omega)
      · simp (maxSteps := 1000000) (disch := omega) [go_sem, h0, h5, h6, h7]
        exact retG_all ⟨⟨_, rfl⟩, .inr h⟩
    · simp (maxSteps := 1000000) (disch := omega) [go_sem, h0, h5, h6, h7]
      have e : i = l.length := by omega
      subst e
      exact retG_all ⟨⟨_, rfl⟩, .inl hI0⟩

theorem values23 {H : IHeap} {K : IEnd → IHeap → Prop} (x : IV) (hx : cellsI x = some [x]) (hK : K (.ret (.fn (.func 101) [] [.cp [x]])) H) : ICalls prog 81 [x] H K := by
  refine ICalls_vc (N := 4) func81 (by kernel_rfl) rfl (by kernel_rfl) (by kernel_rfl) fun hw hbd hnb => ?_
  have hnx := hnb x (by simp)
  simp (maxSteps := 1000000) (disch := omega) [go_sem, hx]
  exact retG_fz (J := H) (Ext.refl hw |>.new _).endH (.clos1 (.ptr (cs := [x]) (hw _ (Nat.le_refl _)) (by simp [go_sem]) (by simpa using hnx))) hK

def Own (J : IHeap) (n : Nat) (r : IV) (l : List (List UInt8)) : Prop :=
  (l = [] ∧ r = .v (.slice none 0 0)) ∨ (l ≠ [] ∧ ∃ k, n ≤ k ∧ r = .bs k 0 l.length ∧ J.obj k = some (.cells (l.map fun s => .v (str s))))

structure Strs {σ : Type} (s0 : σ) (nx : σ → List IV → σ → Prop) (got : σ → List (List UInt8)) : Prop where
  zero : got s0 = []
  next : ∀ i args i', nx i args i' → ∃ s, args = [.v (str s)] ∧ got i' = got i ++ [s] ∧ (got i').length ≤ 1000000

theorem flat1 (l : List (List UInt8)) : (l.map fun s => ([.v (str s)] : List IV)).flatten = l.map fun s => .v (str s) := by
  induction l with
  | nil => rfl
  | cons s l ih => simp [ih]

set_option pp.deepTerms false in
set_option maxRecDepth 4000 in
theorem appendSeqS46 {H : IHeap} {K : IEnd → IHeap → Prop} {σ : Type} {s0 : σ} {nx : σ → List IV → σ → Prop} {fin : σ → Prop} {got : σ → List (List UInt8)} (hs : Strs s0 nx got) (gf : FuncId) (cap : List IV) (C : List (Nat × HO)) (hit : IterS prog gf cap s0 nx fin C) (hC : ∀ p, p ∈ C → H.obj p.1 = some p.2)
    (hK : ∀ i r J, fin i → Ext H J → Own J H.next r (got i) → (got i).length ≤ 1000000 → K (.ret r) J) : ICalls prog 116 [.v (.slice none 0 0), .fn (.func gf) [] cap] H K := by
  refine ICalls_vc (N := 13) func116 (by kernel_rfl) rfl (by kernel_rfl) (by kernel_rfl) fun hw hbd hnb => ?_
  simp (maxSteps := 1000000) (disch := omega) [go_sem]
  refine IWp_rangeFuncS (gf := gf) (cap := cap) (by kernel_rfl) (by simp [go_sem]) hit
    (fun i Hu => Ext H Hu ∧ H.next < Hu.next ∧ (got i).length ≤ 1000000 ∧ ((got i = [] ∧ Hu.obj H.next = some (.cells [.v (.slice none 0 0)])) ∨ (got i ≠ [] ∧ ∃ k, H.next < k ∧ k < Hu.next ∧ Hu.obj H.next = some (.cells [.os k (got i).length]) ∧ Hu.obj k = some (.row 1 ((got i).map fun s => [.v (str s)]))))) ?_ ?_ ?_ ?_ ?_
  · exact ⟨(Ext.refl hw).new _, by simp [go_sem], by simp [hs.zero], .inl ⟨hs.zero, by simp [go_sem]⟩⟩
  · rintro i Hu ⟨he, _⟩ p hp
    exact he.sub _ _ (hC p hp)
  · intro i args i' h
    obtain ⟨s, rfl, _⟩ := hs.next i args i' h
    rfl
  · rintro i args i' Hu hx ⟨he, hn, hlen, hI⟩
    obtain ⟨s, rfl, hg, hl⟩ := hs.next i args i' hx
    have hl2 : (got i).length + 1 ≤ 1000000 := by rw [hg] at hl; simpa using hl
    refine vc_sound _ (by kernel_rfl) _ _ _ ?_
    simp (maxSteps := 1000000) (disch := omega) [go_sem, setPs]
    refine vc_sound _ (by kernel_rfl) _ _ _ ?_
    rcases hI with ⟨h0, h1⟩ | ⟨h0, k, hk, hk', h1, h2⟩
    · have e1 : ¬ H.next = Hu.next + 1 := by omega
      simp (maxSteps := 1000000) (disch := omega) [go_sem, setPs, h1, e1]
      refine ⟨((he.skip).new _).set (Nat.le_refl _) _, by omega, by rw [hg]; simp, Hu.next + 1, by omega, by omega, ⟨rfl, by simp [hg, h0]⟩, ?_⟩
      have e2 : ¬ Hu.next + 1 = H.next := by omega
      simp [e2, hg, h0]
    · have e1 : ¬ H.next = k := by omega
      have e2 : ¬ k = H.next := by omega
      simp (maxSteps := 1000000) (disch := omega) [go_sem, setPs, h1, h2, e1, e2]
      refine ⟨((he.skip).set (by omega) _).set (Nat.le_refl _) _, by omega, by rw [hg]; simp, k, hk, by omega, ⟨rfl, by simp [hg]⟩, ?_⟩
      simp [e2, hg]
  · rintro i Hu hfin ⟨he, hn, hlen, hI⟩
    rcases hI with ⟨e, h1⟩ | ⟨h0, k, hk, hk', h1, h2⟩
    · simp (maxSteps := 1000000) (disch := omega) [go_sem, h1]
      exact retG_all (hK i _ _ hfin he.skip (.inl ⟨e, rfl⟩) hlen)
    · have hpos : 0 < (got i).length := List.length_pos_iff.2 h0
      have h2' : Hu.skip.obj k = some (.row 1 ((got i).map fun s => [.v (str s)])) := by simpa [go_sem] using h2
      simp (maxSteps := 1000000) (disch := omega) [go_sem, h1, h2]
      have hf : GhR (.os k ((got i).map fun s => ([.v (str s)] : List IV)).length) Hu.skip (.bs Hu.skip.next 0 ((got i).map fun s => ([.v (str s)] : List IV)).length) (Hu.skip.fix k ((got i).map fun s => ([.v (str s)] : List IV)).flatten) := GhR.fix h2' (by simpa using hpos)
      rw [List.length_map] at hf
      refine retG_gh hf (hK i _ _ hfin (he.skip.fix (by omega) _) (.inr ⟨h0, _, by simp [go_sem]; omega, rfl, ?_⟩) hlen)
      simp [go_sem, flat1]

theorem collectS37 {H : IHeap} {K : IEnd → IHeap → Prop} {σ : Type} {s0 : σ} {nx : σ → List IV → σ → Prop} {fin : σ → Prop} {got : σ → List (List UInt8)} (hs : Strs s0 nx got) (gf : FuncId) (cap : List IV) (C : List (Nat × HO)) (hit : IterS prog gf cap s0 nx fin C) (hC : ∀ p, p ∈ C → H.obj p.1 = some p.2)
    (hK : ∀ i r J, fin i → Ext H J → Own J H.next r (got i) → (got i).length ≤ 1000000 → K (.ret r) J) : ICalls prog 106 [.fn (.func gf) [] cap] H K := by
  refine ICalls_vc (N := 5) func106 (by kernel_rfl) rfl (by kernel_rfl) (by kernel_rfl) fun hw hbd hnb => ?_
  simp (maxSteps := 1000000) (disch := omega) [go_sem]
  refine appendSeqS46 hs gf cap C hit hC fun i r J hfin he ho hl => ?_
  simp (maxSteps := 1000000) (disch := omega) [go_sem]
  exact retG_all (hK i r J hfin he ho hl)

set_option maxRecDepth 4000 in
theorem len62 {H : IHeap} {K : IEnd → IHeap → Prop} (hK : K (.ret (.v (.int .i64 0))) H) : ICalls prog 140 [.v (.int .u64 0)] H K := by
  refine ICalls_vc (N := 25) func140 (by kernel_rfl) rfl (by kernel_rfl) (by kernel_rfl) fun hw hbd hnb => ?_
  simp (maxSteps := 1000000) (disch := omega) [go_sem]
  have e1 : (bytes Lib.len8tab).length = 256 := by kernel_rfl
  have e2 : (bytes Lib.len8tab)[0]? = some 0 := by kernel_rfl
  rw [e1, e2]
  exact ⟨by simp [Side], retG_pure (.refl hw) (.v _) hK⟩

set_option maxRecDepth 4000 in
theorem len48 {H : IHeap} {K : IEnd → IHeap → Prop} (hK : K (.ret (.v (.int .i64 0))) H) : ICalls prog 118 [.v (.int .u64 0)] H K := by
  refine ICalls_vc (N := 8) func118 (by kernel_rfl) rfl (by kernel_rfl) (by kernel_rfl) fun hw hbd hnb => ?_
  simp (maxSteps := 1000000) (disch := omega) [go_sem]
  refine len62 ?_
  simp (maxSteps := 1000000) (disch := omega) [go_sem]
  exact retG_pure (.refl hw) (.v _) hK

set_option maxRecDepth 4000 in
theorem ins52 {H : IHeap} {K : IEnd → IHeap → Prop} (hK : K (.ret (.tu [])) H) : ICalls prog 130 [.v (.slice none 0 0), .v (.int .i64 0), .v (.int .i64 0)] H K := by
  refine ICalls_vc (N := 49) func130 (by kernel_rfl) rfl (by kernel_rfl) (by kernel_rfl) fun hw hbd hnb => ?_
  simp (maxSteps := 1000000) (disch := omega) [go_sem]
  refine vcLoop_mk (fun tm' H' => H' = H ∧ tm' 6 = .v (.int .i64 1) ∧ tm' 2 = .v (.int .i64 0)) (fun _ _ => 0) (.same ?_) ?_
  · simp [go_sem]
  · rintro I' μ' hI hμ tm' H' ⟨rfl, h6, h2⟩
    refine vc_sound _ (by kernel_rfl) _ _ _ ?_
    simp (maxSteps := 1000000) (disch := omega) [go_sem, h6, h2]
    exact retG_pure (.refl hw) (by simp [NB_tu]) hK

set_option maxRecDepth 4000 in
theorem pdq47 {H : IHeap} {K : IEnd → IHeap → Prop} (hK : K (.ret (.tu [])) H) : ICalls prog 117 [.v (.slice none 0 0), .v (.int .i64 0), .v (.int .i64 0), .v (.int .i64 0)] H K := by
  refine ICalls_vc (N := 134) func117 (by kernel_rfl) rfl (by kernel_rfl) (by kernel_rfl) fun hw hbd hnb => ?_
  simp (maxSteps := 1000000) (disch := omega) [go_sem]
  refine vcLoop_mk (fun tm' H' => H' = H ∧ tm' 0 = .v (.slice none 0 0) ∧ tm' 1 = .v (.int .i64 0) ∧ tm' 2 = .v (.int .i64 0)) (fun _ _ => 0) (.same ?_) ?_
  · simp [go_sem]
  · rintro I' μ' hI hμ tm' H' ⟨rfl, h0, h1, h2⟩
    refine vc_sound _ (by kernel_rfl) _ _ _ ?_
    simp (maxSteps := 1000000) (disch := omega) [go_sem, h0, h1, h2]
    refine ins52 ?_
    simp (maxSteps := 1000000) (disch := omega) [go_sem]
    exact retG_pure (.refl hw) (by simp [NB_tu]) hK

theorem sort38 {H : IHeap} {K : IEnd → IHeap → Prop} (hK : K (.ret (.tu [])) H) : ICalls prog 107 [.v (.slice none 0 0)] H K := by
  refine ICalls_vc (N := 11) func107 (by kernel_rfl) rfl (by kernel_rfl) (by kernel_rfl) fun hw hbd hnb => ?_
  simp (maxSteps := 1000000) (disch := omega) [go_sem]
  refine len48 ?_
  simp (maxSteps := 1000000) (disch := omega) [go_sem]
  refine pdq47 ?_
  simp (maxSteps := 1000000) (disch := omega) [go_sem]
  exact retG_pure (.refl hw) (by simp [NB_tu]) hK

def sortS (l : List (List UInt8)) : List (List UInt8) := l.mergeSort fun x y => decide (x ≤ y)

theorem sortS_length (l : List (List UInt8)) : (sortS l).length = l.length := by simp [sortS]

theorem sortedS22 {H : IHeap} {K : IEnd → IHeap → Prop} {σ : Type} {s0 : σ} {nx : σ → List IV → σ → Prop} {fin : σ → Prop} {got : σ → List (List UInt8)} (hs : Strs s0 nx got) (gf : FuncId) (cap : List IV) (C : List (Nat × HO)) (hit : IterS prog gf cap s0 nx fin C) (hC : ∀ p, p ∈ C → H.obj p.1 = some p.2)
    (hK : ∀ i r J, fin i → Ext H J → Own J H.next r (sortS (got i)) → (got i).length ≤ 1000000 → K (.ret r) J) : ICalls prog 92 [.fn (.func gf) [] cap] H K := by
  refine ICalls_vc (N := 9) func92 (by kernel_rfl) rfl (by kernel_rfl) (by kernel_rfl) fun hw hbd hnb => ?_
  simp (maxSteps := 1000000) (disch := omega) [go_sem]
  refine collectS37 hs gf cap C hit hC fun i r J hfin he ho hl => ?_
  simp (maxSteps := 1000000) (disch := omega) [go_sem]
  rcases ho with ⟨e, rfl⟩ | ⟨hne, k, hk, rfl, ho⟩
  · refine sort38 ?_
    simp (maxSteps := 1000000) (disch := omega) [go_sem]
    exact retG_all (hK i _ J hfin he (.inl ⟨by rw [e]; simp [sortS], rfl⟩) hl)
  · refine ICalls_sortStr Go.Proofs.Tryz.lays190 rfl (by kernel_rfl) (got i) k ho (by omega) ?_
    simp (maxSteps := 1000000) (disch := omega) [go_sem]
    refine retG_all (hK i _ _ hfin (he.set hk _) (.inr ⟨?_, k, hk, by rw [sortS_length], by simp [go_sem, sortS]⟩) hl)
    intro e
    have := sortS_length (got i)
    rw [e] at this
    exact hne (List.eq_nil_of_length_eq_zero this.symm)

def compT (p : List UInt8) : List (List UInt8) → List (List UInt8)
  | [] => []
  | x :: t => if x = p then compT x t else x :: compT x t

def compactS : List (List UInt8) → List (List UInt8)
  | [] => []
  | x :: t => x :: compT x t

theorem compT_snoc (x : List UInt8) : ∀ (t : List (List UInt8)) (p : List UInt8), compT p (t ++ [x]) = compT p t ++ (if x = (p :: t).getLast (by simp) then [] else [x])
  | [], p => by
    simp only [List.nil_append, compT, List.getLast_singleton]
    first | rfl | (split <;> rfl)
  | y :: t, p => by
    simp only [List.cons_append, compT]
    rw [compT_snoc x t y]
    have e : (p :: y :: t).getLast (by simp) = (y :: t).getLast (by simp) := by simp
    rw [e]
    split <;> simp

theorem compact_take (l : List (List UInt8)) (i : Nat) (h1 : 1 ≤ i) (h : i < l.length) : compactS (l.take (i + 1)) = compactS (l.take i) ++ (if l[i] = l[i - 1] then [] else [l[i]]) := by
  rw [List.take_succ_eq_append_getElem h]
  cases l with
  | nil => simp at h
  | cons x t =>
    obtain ⟨j, rfl⟩ : ∃ j, i = j + 1 := ⟨i - 1, by omega⟩
    simp only [List.take_succ_cons, List.cons_append, compactS, List.getElem_cons_succ]
    rw [compT_snoc]
    have hj : j < t.length := by simpa using h
    have e : (x :: t.take j).getLast (by simp) = (x :: t)[j + 1 - 1] := by
      rw [List.getLast_eq_getElem]
      simp only [List.length_cons, List.length_take]
      have : min j t.length = j := by omega
      simp only [this, Nat.add_sub_cancel]
      cases j with
      | zero => rfl
      | succ j => simp
    rw [e]

theorem chunks_take : ∀ (m : Nat) (l : List IV), m ≤ l.length → chunks 1 m l = (l.take m).map fun x => [x]
  | 0, l, _ => by simp [chunks]
  | m + 1, [], h => by simp at h
  | m + 1, x :: l, h => by
    simp [chunks, chunks_take m l (by simpa using h)]

theorem fz_bs {H J : IHeap} {k m : Nat} {cs : List (List UInt8)} {r : List (List UInt8)} (hk : J.obj k = none) (ho : H.obj k = some (.cells (cs.map fun s => .v (str s)))) (hr : cs.take m = r) (hm : m ≤ cs.length) (hl : cs.length ≤ 1000000) : Fz H J (.bs k 0 m) (sS r) := by
  have := Fz.bs (J := J) k 0 m 1 _ _ hk ho rfl (by simp; omega) (by simp only [maxN]; omega) (fzs (by simp [NB_v]))
  rw [List.drop_zero, chunks_take _ _ (by simpa using hm), ← List.map_take, hr] at this
  rw [List.map_map] at this
  exact this

theorem fz_bs' {H J : IHeap} {k m : Nat} {A : List IV} {r : List (List UInt8)} (hk : J.obj k = none) (ho : H.obj k = some (.cells A)) (hr : A.take m = r.map fun s => .v (str s)) (hm : m ≤ A.length) (hl : m ≤ 1000000) (hnb : ∀ c, c ∈ A → NB J.next c) : Fz H J (.bs k 0 m) (sS r) := by
  have := Fz.bs (J := J) k 0 m 1 _ _ hk ho rfl (by omega) (by simp only [maxN]; omega) (fzs hnb)
  rw [List.drop_zero, chunks_take _ _ hm, hr, List.map_map] at this
  exact this

theorem set_self {H : IHeap} {k : Nat} {o : HO} (h : H.obj k = some o) : H = H.set k o := by
  unfold IHeap.set
  have e : (fun i => if i = k then some o else H.obj i) = H.obj := by
    funext i
    by_cases e : i = k
    · rw [if_pos e, e, h]
    · rw [if_neg e]
  rw [e]

@[go_sem] theorem set_set {H : IHeap} {k : Nat} {a b : HO} : (H.set k a).set k b = H.set k b := by
  unfold IHeap.set
  simp only
  congr 1
  funext i
  split <;> rfl

set_option pp.deepTerms false in
set_option maxRecDepth 4000 in
theorem compact21 {H0 H : IHeap} {K : IEnd → IHeap → Prop} (l : List (List UInt8)) (hl : l.length ≤ 1000000) (r : IV) (h0 : Ext H0 H) (hr : Own H H0.next r l) (hK : ∀ J, Ext H0 J → K (.ret (sS (compactS l))) J) : ICalls prog 91 [r] H K := by
  refine ICalls_vc (N := 61) func91 (by kernel_rfl) rfl (by kernel_rfl) (by kernel_rfl) fun hw hbd hnb => ?_
  rcases hr with ⟨rfl, rfl⟩ | ⟨hne, kk, hkk, rfl, hob⟩
  · simp (maxSteps := 1000000) (disch := omega) [go_sem]
    exact retG_gh (GhR.wk (.nil 1)) (hK H h0)
  have hdel : Ext H0 (H.del kk) := h0.del hkk
  simp (maxSteps := 1000000) (disch := omega) [go_sem]
  refine condB ?_ ?_ <;> intro hc <;> (try simp at hc)
  · simp (maxSteps := 1000000) (disch := omega) [go_sem]
    refine retG_gh (GhR.drop (J := H.del kk) (fun i o h => ?_) rfl rfl (fz_bs (r := compactS l) (by simp [go_sem]) hob ?_ (Nat.le_refl _) hl)) (hK _ hdel)
    · simp only [IHeap.del] at h; split at h <;> simp_all
    · match l, hne, hc with
      | [x], _, _ => rfl
      | x :: y :: t, _, hc => simp at hc; omega
  · simp (maxSteps := 1000000) (disch := omega) [go_sem]
    refine vcLoop_mk (fun tm' H' => H' = H ∧ ∃ k : Nat, tm' 0 = .bs kk 0 l.length ∧ tm' 3 = .v (.int .i64 k) ∧ 1 ≤ k ∧ k ≤ l.length ∧ compactS (l.take k) = l.take k) (fun tm' _ => l.length - (intOf (tm' 3)).toNat) (.same ?_) ?_
    · refine ⟨rfl, 1, by simp [go_sem], by simp [go_sem], by omega, by omega, ?_⟩
      cases l with
      | nil => rfl
      | cons x t => simp [compactS, compT]
    rintro I' μ' hI hμ tm' H' ⟨rfl, k, h0', h3, hk1, hk2, hcomp⟩
    refine vc_sound _ (by kernel_rfl) _ _ _ ?_
    simp (maxSteps := 1000000) (disch := omega) [go_sem, h0', h3]
    refine condB ?_ ?_ <;> intro hc1 <;> (try simp at hc1)
    · simp (maxSteps := 1000000) (disch := omega) [go_sem, h0', h3]
      refine IWp_draw [0, 1, 2, 3, 4, 5, 6, 7, 8, 9] (by kernel_rfl) (by kernel_rfl) (fun _ _ _ _ h => h) ?_
      simp (maxSteps := 1000000) (disch := omega) [go_sem, h0', h3, hob]
      refine condB ?_ ?_ <;> intro he <;> (try simp at he)
      · simp (maxSteps := 1000000) (disch := omega) [go_sem, h0', h3]
        refine vcLoop_mk (fun tm' H2 => ∃ (cs : List (List UInt8)) (k2 kc : Nat), H2 = H'.set kk (.cells (cs.map fun s => .v (str s))) ∧ tm' 0 = .bs kk 0 l.length ∧ tm' 3 = .v (.int .i64 kc) ∧ tm' 4 = .bs kk k (l.length - k) ∧ tm' 5 = .v (.int .i64 k2) ∧
          1 ≤ k2 ∧ k + k2 ≤ l.length ∧ cs.length = l.length ∧ 1 ≤ kc ∧ kc + 1 ≤ k + k2 ∧ cs.take kc = compactS (l.take (k + k2)) ∧ cs.drop (k + k2 - 1) = l.drop (k + k2 - 1)) (fun tm' _ => l.length - (intOf (tm' 5)).toNat) (.same ?_) ?_
        · refine ⟨l, 1, k, set_self hob, by simp [go_sem, h0'], by simp [go_sem, h3], by simp [go_sem], by simp [go_sem], by omega, by omega, rfl, hk1, by omega, ?_, rfl⟩
          rw [compact_take l k hk1 hc1, if_pos he, List.append_nil, hcomp]
        rintro I2 μ2 hI2 hμ2 tm2 H2 ⟨cs, k2, kc, rfl, g0, g3, g4, g5, q1, q2, q3, q4, q5, q6, q7⟩
        refine vc_sound _ (by kernel_rfl) _ _ _ ?_
        simp (maxSteps := 1000000) (disch := omega) [go_sem, g0, g3, g4, g5]
        refine condB ?_ ?_ <;> intro hc2 <;> (try simp at hc2)
        · have hlt : k + k2 < cs.length := by omega
          simp (maxSteps := 1000000) (disch := omega) [go_sem, g0, g3, g4, g5]
          refine IWp_draw [0, 1, 2, 3, 4, 5, 6, 7, 8, 9] (by kernel_rfl) (by kernel_rfl) (fun _ _ _ _ h => h) ?_
          simp (maxSteps := 1000000) (disch := omega) [go_sem, g0, g3, g4, g5]
          have hge : ∀ j (h : j < cs.length) (h' : j < l.length), k + k2 - 1 ≤ j → cs[j] = l[j] := by
            intro j h h' hj
            have e := congrArg (fun x => x[j - (k + k2 - 1)]?) q7
            simp only [List.getElem?_drop] at e
            rw [show k + k2 - 1 + (j - (k + k2 - 1)) = j by omega, List.getElem?_eq_getElem h, List.getElem?_eq_getElem h'] at e
            exact Option.some.inj e
          have e1 := hge (k + k2) hlt (by omega) (by omega)
          have e2 : cs[k + (k2 - 1)] = l[k + k2 - 1] := by
            rw [hge _ _ (by omega) (by omega)]
            congr 1
            omega
          have hdrop : List.drop (k + (k2 + 1) - 1) cs = List.drop (k + (k2 + 1) - 1) l := by
            have e := congrArg (List.drop 1) q7
            simp only [List.drop_drop] at e
            rw [show k + (k2 + 1) - 1 = k + k2 - 1 + 1 by omega]
            exact e
          have hct := compact_take l (k + k2) (by omega) (by omega)
          refine condB ?_ ?_ <;> intro hd <;> (try simp at hd)
          · simp (maxSteps := 1000000) (disch := omega) [go_sem, g0, g3, g4, g5]
            refine .of hI2 hμ2 ⟨cs.set kc cs[k + k2], k2 + 1, kc + 1, ?_, by simp [go_sem, g0], by simp [go_sem], by simp [go_sem, g4], by simp [go_sem], by omega, by omega, by simpa using q3, by omega, by omega, ?_, ?_⟩ (by simp [go_sem, g5]; omega)
            · simp only [List.map_set]
            · rw [show k + (k2 + 1) = k + k2 + 1 by omega, hct, if_neg (by rw [← e1, ← e2]; exact hd), ← q6, List.take_succ_eq_append_getElem (by simpa using (by omega : kc < cs.length)), List.take_set_of_le (Nat.le_refl _)]
              simp [e1]
            · rw [List.drop_set_of_lt (by omega)]
              exact hdrop
          · simp (maxSteps := 1000000) (disch := omega) [go_sem, g0, g3, g4, g5]
            refine .of hI2 hμ2 ⟨cs, k2 + 1, kc, rfl, by simp [go_sem, g0], by simp [go_sem, g3], by simp [go_sem, g4], by simp [go_sem], by omega, by omega, q3, q4, by omega, ?_, hdrop⟩ (by simp [go_sem, g5]; omega)
            rw [show k + (k2 + 1) = k + k2 + 1 by omega, hct, if_pos (by rw [← e1, ← e2]; exact hd), List.append_nil, q6]
        · simp (maxSteps := 1000000) (disch := omega) [go_sem, g0, g3, g4, g5]
          have e : k + k2 = l.length := by omega
          have hkc : kc < l.length := by omega
          refine IOper_clear (k := kk) (off := kc) (n := l.length - kc) rfl (by kernel_rfl) underlying40 zero9 rfl rfl (by simp [go_sem]) (by simp [go_sem]; rfl) (by omega) (by simp; omega) ?_
          simp (maxSteps := 1000000) (disch := omega) [go_sem, g0, g3, g4, g5]
          refine retG_gh (GhR.drop (J := H'.del kk) (fun i o h => ?_) rfl rfl (fz_bs' (r := compactS l) (by simp [go_sem]) (by simp [go_sem]; rfl) ?_ ?_ (by omega) ?_)) (hK _ hdel)
          · simp only [IHeap.del] at h
            split at h
            · cases h
            · rename_i hi
              simp [go_sem, hi]
              exact h
          · rw [List.take_append_of_le_length (by simp; omega), List.take_take, Nat.min_self, ← List.map_take, q6, e, List.take_length]
          · simp; omega
          · intro c hc
            simp only [List.mem_append] at hc
            rcases hc with hc | hc | hc
            · obtain ⟨s, _, rfl⟩ := List.mem_map.1 (List.mem_of_mem_take hc)
              exact .v _
            · rw [List.eq_of_mem_replicate hc]
              exact .v _
            · obtain ⟨s, _, rfl⟩ := List.mem_map.1 (List.mem_of_mem_drop hc)
              exact .v _
      · simp (maxSteps := 1000000) (disch := omega) [go_sem, h0', h3]
        refine .of hI hμ ⟨rfl, k + 1, by simp [go_sem, h0'], by simp [go_sem], by omega, by omega, ?_⟩ (by simp [go_sem, h3]; omega)
        rw [compact_take l k hk1 hc1, if_neg he, hcomp, List.take_succ_eq_append_getElem hc1]
    · simp (maxSteps := 1000000) (disch := omega) [go_sem, h0', h3]
      refine retG_gh (GhR.drop (J := H'.del kk) (fun i o h => ?_) rfl rfl (fz_bs (r := compactS l) (by simp [go_sem]) hob ?_ (Nat.le_refl _) hl)) (hK _ hdel)
      · simp only [IHeap.del] at h; split at h <;> simp_all
      · have e : k = l.length := by omega
        subst e
        simpa using hcomp.symm

theorem clone20 {H : IHeap} {K : IEnd → IHeap → Prop} (l : List (List UInt8)) (hl : l.length ≤ 1000000) (hK : K (.ret (sS l)) H) : ICalls prog 56 [sS l] H K := by
  refine ICalls_vc (N := 8) func56 (by kernel_rfl) rfl (by kernel_rfl) (by kernel_rfl) fun hw hbd hnb => ?_
  have hnl := hnb (sS l) (by simp)
  simp (maxSteps := 1000000) (disch := omega) [go_sem]
  refine IOper_slnil rfl (by kernel_rfl) underlying40 (by simp [go_sem]; exact ⟨rfl, rfl⟩) rfl (.inl rfl) fun b hb => ?_
  simp (maxSteps := 1000000) (disch := omega) [go_sem]
  refine condB ?_ ?_ <;> intro hc <;> (try simp at hc)
  · simp (maxSteps := 1000000) (disch := omega) [go_sem]
    have e : l = [] := by simpa using hb hc
    subst e
    exact retG_fz (J := H) (Ext.refl hw).endH (.wk _ _ (.nil 1) hnl) hK
  · simp (maxSteps := 1000000) (disch := omega) [go_sem]
    refine IOper_buildEmpty (sz := 1) (rs := []) rfl (by simp [bsI, underlying40, zero9, cells9, Value.cells, Value.oneCell', rep, fillI]) ?_
    simp (maxSteps := 1000000) (disch := omega) [go_sem]
    exact retG_fz (J := H) ((Ext.refl hw).new _ |>.set (Nat.le_refl _) _).endH (.row (hw _ (Nat.le_refl _)) (by simp [go_sem]) (by simp) hnl) hK

theorem clone20r {H : IHeap} {K : IEnd → IHeap → Prop} (l : List (List UInt8)) (hl : l.length ≤ 1000000) (hK : K (.ret (.os H.next l.length)) (H.new (.row 1 (l.map fun x => [.v (str x)])))) : ICalls prog 56 [sS l] H K := by
  refine ICalls_vc (N := 8) func56 (by kernel_rfl) rfl (by kernel_rfl) (by kernel_rfl) fun hw hbd hnb => ?_
  have hnl := hnb (sS l) (by simp)
  have hnr : NBo H.next (.row 1 (l.map fun x => [.v (str x)])) := fun e he c hc => by
    simp at he; obtain ⟨x, _, rfl⟩ := he; simp at hc; subst hc; exact .v _
  simp (maxSteps := 1000000) (disch := omega) [go_sem]
  refine IOper_slnil rfl (by kernel_rfl) underlying40 (by simp [go_sem]; exact ⟨rfl, rfl⟩) rfl (.inl rfl) fun b hb => ?_
  simp (maxSteps := 1000000) (disch := omega) [go_sem]
  refine condB ?_ ?_ <;> intro hc <;> (try simp at hc)
  · simp (maxSteps := 1000000) (disch := omega) [go_sem]
    have e : l = [] := by simpa using hb hc
    subst e
    refine retG_g (r' := .os H.next 0) ?_ hK
    intro w0 g0 w g s0 m s
    have hu := s.upd (w' := w) (H' := H.new (.row 1 [])) H.next (.slice none 0 0) (.row 1 []) rfl (Nat.le_succ _) (Nat.lt_succ_self _) (Nat.le_refl _) rfl rfl rfl
      (fun b hb => .inr rfl) (fun b hb => by simp [blk] at hb) (.inl rfl) (fun g' m _ => ⟨none, 0, rfl, by simp, by simp [maxN], by simp, by omega, .inl ⟨rfl, rfl⟩⟩)
    refine ⟨_, m.tr hu.2 s0 s, hu.1, fun x hx => ?_⟩
    rw [hx.v_eq]
    exact os_of_put (Nat.lt_succ_self _) ⟨none, 0, rfl⟩
  · simp (maxSteps := 1000000) (disch := omega) [go_sem]
    refine IOper_buildEmpty (sz := 1) (rs := []) rfl (by simp [bsI, underlying40, zero9, cells9, Value.cells, Value.oneCell', rep, fillI]) ?_
    simp (maxSteps := 1000000) (disch := omega) [go_sem]
    have he := ((Ext.refl hw).new (.row 1 []) |>.set (Nat.le_refl _) (.row 1 (l.map fun s => [.v (str s)])))
    have hr := he.endR1 (k := H.next) (o := .row 1 (l.map fun s => [.v (str s)])) (o' := .row 1 (l.map fun s => [.v (str s)])) (by simp [go_sem]) (Nat.le_refl _) (by simp [go_sem]) (fun J ρ => .same _ hnr)
    refine retG_g (hr.endG ?_) hK
    have h1 := Rn.os (H := (H.new (.row 1 [])).set H.next (.row 1 (l.map fun s => [.v (str s)]))) (J := H.new (.row 1 (l.map fun s => [.v (str s)]))) (ρ := fun i => if i = H.next then H.next else i) (m := H.next) H.next l.length (by simp [go_sem])
    simpa using h1

end Go.Idl

namespace Go.Idl

open Go Go.RowKit Go.Proofs

variable {P : Program} {H : IHeap} {K : IEnd → IHeap → Prop}

def SortsKeys (P : Program) (f fk : FuncId) (kt : TypeId) : Prop :=
  ∀ (Bm b nn : Nat) (D0 : DataW Unit) (w : World), Bm < w.heap.size → w.cell? ⟨Bm, 0, none⟩ = some (.map (some b)) → w.ownsMap P kt (fun _ => some (.nil, [])) b nn D0 → Maps.size D0 ≤ maxLen → Maps.size D0 * 16 ≤ 140737488355328 →
    Calls P f #[.func (.func fk) #[] #[.pointer (some ⟨Bm, 0, none⟩)]] w fun e w' => ∃ (v : Value) (ss : List (List UInt8)), e = .returned v ∧ ss.Perm (strKeys D0) ∧
      w'.ownsRow w.heap.size kt 1 v ss.length ((ss.mergeSort leB).map encStr) ∧ (v = .slice none 0 0 ↔ ss = []) ∧ Below w.heap.size w w'

theorem ownsKeys {α : Type} {F : α → IV} {m : List (List UInt8 × α)} {kt : TypeId} (hkt : P.underlying kt = some .string) {w : World} {g : Gs} {ents : Array MapEntry} {clock b : Nat} (hb : w.heap[b]? = some (.map ents clock)) (h : EntR w g ents clock (mE F m)) (hlen : m.length ≤ 1000000) (hk : ∀ p, p ∈ m → p.1.length ≤ 1000000) :
    ∃ D0 : DataW Unit, w.ownsMap P kt (fun _ => some (.nil, [])) b m.length D0 ∧ (strKeys D0).Perm (m.map (·.1)) ∧ Maps.size D0 = m.length := by
  have hsz : ents.size = m.length := by rw [h.size, mE_length]
  have hkey : ∀ (i : Nat) (me : MapEntry), ents[i]? = some me → ∃ p, m[i]? = some p ∧ me.key = str p.1 := by
    intro i me hi
    have hlt : i < m.length := by rw [← hsz]; exact (Array.getElem?_eq_some_iff.1 hi).1
    refine ⟨m[i], List.getElem?_eq_getElem hlt, ?_⟩
    exact (h.ent i me (str m[i].1, F m[i].2) hi (by simp [mE, hlt])).1
  have hreads : ∀ me, me ∈ ents.toList → ∃ p, p ∈ m ∧ me.key = str p.1 ∧ Go.WideElems.rd (H := Unit) P kt (fun _ => some (.nil, [])) me = some (.string p.1, .nil) := by
    intro me hme
    obtain ⟨i, hi⟩ := List.getElem?_of_mem hme
    obtain ⟨p, h1, h2⟩ := hkey i me (by simpa using hi)
    have hp := List.mem_of_getElem? h1
    refine ⟨p, hp, h2, ?_⟩
    have hl := hk p hp
    have hs : (⟨p.1.toArray⟩ : ByteArray).size ≤ maxLen := by rw [bytes_size, bytes_mk]; simp only [maxLen]; omega
    simp [Go.WideElems.rd, keyOf, hkt, mapKey, h2, hs]
  refine ⟨_, ⟨ents, clock, hb, ⟨by rw [hsz]; simp only [maxLen]; omega, ⟨h.born, h.nodup, ?_⟩, fun me hme => let ⟨p, _, _, h3⟩ := hreads me hme; ⟨_, h3⟩⟩, by rw [hsz]; exact Nat.le_refl _, rfl⟩, ?_, ?_⟩
  · have : ents.toList.map (·.key) = (mE F m).map (·.1) := by
      apply List.ext_getElem?
      intro i
      simp only [List.getElem?_map, Array.getElem?_toList]
      cases hi : ents[i]? with
      | none =>
        have : m.length ≤ i := by rw [← hsz]; exact Array.getElem?_eq_none_iff.1 hi
        simp [mE, this]
      | some me =>
        obtain ⟨p, h1, h2⟩ := hkey i me hi
        simp [mE, h1, h2]
    rw [this]; exact h.keys
  · have hp := Go.WideShapes.sorted_perm (ents.toList.map (Go.WideElems.rg (H := Unit) P kt (fun _ => some (.nil, []))))
    refine (hp.map fun p => strOf p.1).trans ?_
    rw [List.map_map]
    have : ents.toList.map ((fun p : Lit × DataW Unit => strOf p.1) ∘ Go.WideElems.rg (H := Unit) P kt (fun _ => some (.nil, []))) = m.map (·.1) := by
      apply List.ext_getElem?
      intro i
      simp only [List.getElem?_map, Array.getElem?_toList]
      cases hi : ents[i]? with
      | none =>
        have : m.length ≤ i := by rw [← hsz]; exact Array.getElem?_eq_none_iff.1 hi
        simp [this]
      | some me =>
        obtain ⟨p, h1, h2⟩ := hkey i me hi
        have hmem : me ∈ ents.toList := by rw [Array.mem_toList_iff]; exact Array.mem_of_getElem? hi
        obtain ⟨q, _, h3, h4⟩ := hreads me hmem
        have hpq : q.1 = p.1 := by
          rw [h2] at h3
          exact (encStr_inj (x := p.1) (y := q.1) h3).symm
        simp [h1, Go.WideElems.rg_of h4, strOf, hpq]
    rw [this]
  · show ((ents.toList.map (Go.WideElems.rg (H := Unit) P kt (fun _ => some (.nil, [])))).foldr DataW.insert []).length = _
    rw [(Go.WideShapes.sorted_perm _).length_eq]
    simp [hsz]

theorem ICalls_sortedKeys {α : Type} {F : α → IV} {f fk : FuncId} {kt : TypeId} (hkt : P.underlying kt = some .string) (hbd : hasBody P f = true) (hc : SortsKeys P f fk kt) (m : List (List UInt8 × α)) (kb k : Nat)
    (okb : H.obj kb = some (.cells [.mp k])) (ok : H.obj k = some (.map (mE F m))) (hlen : m.length ≤ 1000000) (hk : ∀ p, p ∈ m → p.1.length ≤ 1000000)
    (hK : ∀ r J, Ext H J → Own J H.next r (sortS (m.map (·.1))) → K (.ret r) J) : ICalls P f [.fn (.func fk) [] [.p kb 0]] H K := by
  refine ⟨hbd, fun w g vs s rl => ?_⟩
  obtain ⟨x, rfl, hx⟩ := args1 rl
  obtain ⟨ys, y, rfl, rfl, hy⟩ : ∃ ys y, x = .func (.func fk) #[] ys ∧ ys = #[y] ∧ R w g y (.p kb 0) := by
    cases hx with
    | fn _ xs ys _ _ hl hl' hr hr' =>
      have e1 : xs = #[] := Array.eq_empty_of_size_eq_zero (by simpa using hl)
      obtain ⟨y, h1, h2⟩ := args1 (w := w) (g := g) (vs := ys) (i := .p kb 0) ⟨hl', hr'⟩
      exact ⟨ys, y, by rw [e1], h1, h2⟩
  obtain ⟨bm, xs, el, fz, hmu, rfl, hbm, _, hcs⟩ := s.cells_at okb hy
  obtain ⟨v0, q1, _, q3⟩ := hcs.2 0 (.mp k) rfl
  obtain ⟨b, ents, clock, rfl, _, hb, he⟩ := s.map_in (.inl ok) q3
  obtain ⟨D0, hD, hperm, hsz⟩ := ownsKeys (P := P) hkt hb he hlen hk
  refine (hc bm b _ D0 w (heap_lt hbm) (by simp [World.cell?, hbm, q1]) hD (by rw [hsz]; simp only [maxLen]; omega) (by rw [hsz]; omega)).mono ?_
  rintro e w' ⟨v, ss, rfl, hss, hrow, hnil, hbl⟩
  have hp2 : ss.mergeSort leB = sortS (m.map (·.1)) := mergeSort_of_perm (hss.trans hperm)
  have hsl : ss.length = (sortS (m.map (·.1))).length := by rw [← hp2, List.length_mergeSort]
  have s' := s.of_below hbl
  have m' := Mono.of_below (g := g) hbl
  rcases hrow.2 with ⟨rfl, h0⟩ | ⟨gb, cap, cur, rfl, hbase, hgb, h1, h2, h3, h4⟩
  · refine ⟨.ret (.v (.slice none 0 0)), g, H, m', s', .ret _ _ (.v _), hK _ _ (.refl s.wf) (.inl ⟨?_, rfl⟩)⟩
    exact List.eq_nil_of_length_eq_zero (by rw [← hsl]; exact h0)
  · have hne : sortS (m.map (·.1)) ≠ [] := by
      intro e
      have : ss = [] := List.eq_nil_of_length_eq_zero (by rw [hsl, e]; rfl)
      have := hnil.2 this
      cases this
    have hn := s.new (w' := w') (.pointer (some ⟨gb, 0, none⟩)) (.cells ((sortS (m.map (·.1))).map fun s => .v (str s))) hbl.size hbl.os hbl.tape hbl.output (fun b hb => hbl.block b hb)
      (fun b hb => by simp only [blk, Option.some.injEq] at hb; subst hb; exact ⟨heap_lt hgb, hbase⟩)
      (fun g' mm _ => ⟨gb, cur, kt, (0, 0), rfl, hgb, freeZ_zero _, by rw [List.length_map, ← hsl, h3]; omega, fun j c hj => by
        simp only [List.getElem?_map, Option.map_eq_some_iff] at hj
        obtain ⟨t, ht, rfl⟩ := hj
        have hjl : j < ss.length := by rw [hsl]; exact (List.getElem?_eq_some_iff.1 ht).1
        have h5 : (cur.toList.take (ss.length * 1))[j]? = some (str t) := by
          rw [h4, hp2, List.getElem?_map, ht]; rfl
        rw [List.getElem?_take, if_pos (by omega)] at h5
        exact ⟨str t, by simpa using h5, rfl, .v _⟩⟩)
    refine ⟨.ret (.bs H.next 0 ss.length), _, _, hn.2, hn.1, .ret _ _ (.bs _ _ _ _ (by simp [Gs.put]) ⟨_, _, rfl, h1⟩ fun sh hs _ => ⟨gb, cap, by simp [Gs.put], rfl⟩), hK _ _ ((Ext.refl s.wf).new _) (.inr ⟨hne, H.next, Nat.le_refl _, by rw [hsl], by simp [IHeap.new]⟩)⟩

end Go.Idl

namespace Go.Idl

open Go Go.Proofs.Tryz Go.RowKit Go.Proofs

abbrev Str := List UInt8

structure S50 where
  fName : List UInt8
  fValues : List (List UInt8)

deriving DecidableEq

abbrev eS (l : List S50) : IV := .sl 2 (l.map fun x => [.v (str x.fName), .sl 1 (x.fValues.map fun x => [.v (str x)])])

def lowB (b : UInt8) : UInt8 := if 65 ≤ b ∧ b ≤ 90 then b + 32 else b

def F41 (s : Str) : Option Str := gd ((s.length : Int) ≤ 1000000) (some (s.map lowB))

def F56 (l : List Str) : Option (List Str) := gd ((l.length : Int) ≤ 1000000) (some l)

def F58k (m : List (Str × List Str)) : Option (List Str) := gd ((m.length : Int) ≤ 1000000 ∧ ∀ p, p ∈ m → (p.1.length : Int) ≤ 1000000) (some (compactS (sortS (m.map (·.1)))))

def F58v (l : List Str) : Option (List Str) := gd ((l.length : Int) ≤ 1000000) (some (compactS (sortS l)))

variable {H : IHeap} {K : IEnd → IHeap → Prop}

@[go_sem] theorem err93n {b : Bool} {t : TypeId} : nilI prog .neq 93 (errI t b) = some (True, .v (.bool b)) := nilI_errN underlying93 rfl

/-! ### Small letters -/

theorem lowB_int (b : UInt8) : (65 ≤ (b.toNat : Int) ∧ (b.toNat : Int) ≤ 90 → ((lowB b).toNat : Int) = (b.toNat : Int) + 97 - 65) ∧ (¬ (65 ≤ (b.toNat : Int) ∧ (b.toNat : Int) ≤ 90) → lowB b = b) := by
  constructor
  · rintro ⟨h1, h2⟩
    have h3 : 65 ≤ b ∧ b ≤ 90 := ⟨by rw [UInt8.le_iff_toNat_le]; show 65 ≤ b.toNat; omega, by rw [UInt8.le_iff_toNat_le]; show b.toNat ≤ 90; omega⟩
    have h4 : (lowB b).toNat = b.toNat + 32 := by
      simp only [lowB, h3, and_self, if_true]
      have : (b + 32).toNat = (b.toNat + 32) % 256 := by simp [UInt8.toNat_add]
      rw [this]
      omega
    omega
  · intro h
    unfold lowB
    rw [if_neg]
    rintro ⟨h1, h2⟩
    rw [UInt8.le_iff_toNat_le] at h1 h2
    have h1 : 65 ≤ b.toNat := h1
    have h2 : b.toNat ≤ 90 := h2
    exact h ⟨by omega, by omega⟩

def lowTo (s : Str) (i : Nat) : List IV := (((s.take i).map lowB) ++ s.drop i).map fun x => .v (.int .u8 x.toNat)

theorem lowTo_len (s : Str) (i : Nat) : (lowTo s i).length = s.length := by simp [lowTo]; omega

theorem lowTo_get (s : Str) (i : Nat) (h : i < s.length) : (lowTo s i)[i]? = some (.v (.int .u8 s[i].toNat)) := by
  have hl : ((s.take i).map lowB).length = i := by simp; omega
  unfold lowTo
  rw [List.getElem?_map, List.getElem?_append_right (by omega), hl, Nat.sub_self, List.getElem?_drop]
  simp [h]

theorem lowTo_set (s : Str) (i : Nat) (h : i < s.length) : (lowTo s i).set i (.v (.int .u8 (lowB s[i]).toNat)) = lowTo s (i + 1) := by
  have hl : ((s.take i).map lowB).length = i := by simp; omega
  unfold lowTo
  rw [List.take_succ_eq_append_getElem h, List.drop_eq_getElem_cons h]
  simp only [List.map_append, List.map_cons, List.map_nil]
  rw [List.set_append_right _ _ (by simp; omega)]
  simp [List.length_take, Nat.min_eq_left (Nat.le_of_lt h)]

theorem lowTo_skip (s : Str) (i : Nat) (h : i < s.length) (e : lowB s[i] = s[i]) : lowTo s i = lowTo s (i + 1) := by
  rw [← lowTo_set s i h, e]
  apply List.ext_getElem?
  intro j
  by_cases hj : i = j
  · subst hj
    rw [lowTo_get s i h, List.getElem?_set_self (by rw [lowTo_len]; exact h)]
  · rw [List.getElem?_set_ne hj]

set_option pp.deepTerms false in
set_option maxRecDepth 8000 in
theorem F41_ok (s : Str) {r : Str} (h : F41 s = some r) (hK : K (.ret (.v (str r))) H) : ICalls prog 41 [.v (str s)] H K := by
  obtain ⟨hs, h⟩ := gd_some.1 h
  cases h
  refine ICalls_vc (N := 30) func41 (by kernel_rfl) rfl (by kernel_rfl) (by kernel_rfl) fun hw hbd hnb => ?_
  simp (maxSteps := 1000000) (disch := omega) [go_sem]
  refine IOper_toBytesO s rfl (by kernel_rfl) underlying9 underlying89 underlying5 (by simp [go_sem]) ?_
  simp (maxSteps := 1000000) (disch := omega) [go_sem]
  refine vcLoop_mk (fun tm' H' => ∃ i : Nat, tm' 3 = .bs H.next 0 s.length ∧ tm' 8 = .bs H.next 0 s.length ∧ tm' 9 = .v (.int .i64 s.length) ∧ tm' 10 = .v (.int .i64 i) ∧ i ≤ s.length ∧ H'.obj H.next = some (.cells (lowTo s i)) ∧ Ext H H' ∧ H.next < H'.next) (fun tm' _ => s.length - (intOf (tm' 10)).toNat) (.same ?_) ?_
  · exact ⟨0, by simp [go_sem], by simp [go_sem], by simp [go_sem], by simp [go_sem], by omega, by simp [go_sem, lowTo], (Ext.refl hw).new _, by simp [go_sem]⟩
  rintro I' μ' hI hμ tm' H' ⟨i, h3, h8, h9, h10, hi, ho, he, hn⟩
  refine vc_sound _ (by kernel_rfl) _ _ _ ?_
  simp (maxSteps := 1000000) (disch := omega) [go_sem, h3, h8, h9, h10]
  refine condB ?_ ?_ <;> intro hc <;> (try simp at hc)
  · have hl := lowTo_len s i
    have hg := lowTo_get s i hc
    have hg' : (lowTo s i).getD i .any = .v (.int .u8 s[i].toNat) := by rw [List.getD_eq_getElem?_getD, hg]; rfl
    simp (maxSteps := 1000000) (disch := omega) [go_sem, h3, h8, h9, h10, ho, hl]
    have e1 : (lowTo s i)[i]'(by rw [hl]; exact hc) = .v (.int .u8 s[i].toNat) := by
      rw [List.getElem?_eq_getElem (by rw [hl]; exact hc)] at hg; simpa using hg
    simp (maxSteps := 1000000) (disch := omega) [go_sem, h3, h8, h9, h10, ho, hl, e1]
    (first | refine splitG' ?_ ?_ | refine splitB' ?_ ?_) <;> intro g1 <;> (try simp at g1)
    · simp (maxSteps := 1000000) (disch := omega) [go_sem, h3, h8, h9, h10, ho, hl, e1]
      refine condB ?_ ?_ <;> intro g2 <;> (try simp at g2)
      · simp (maxSteps := 1000000) (disch := omega) [go_sem, h3, h8, h9, h10, ho, hl, e1]
        have hlb := (lowB_int s[i]).1 ⟨g1, g2⟩
        refine .of hI hμ ⟨i + 1, by simp [go_sem, h3], by simp [go_sem, h8], by simp [go_sem, h9], by simp [go_sem], by omega, ?_, he.set (Nat.le_refl _) _, hn⟩ (by simp [go_sem, h10]; omega)
        rw [← lowTo_set s i hc, hlb]
        rw [List.set_eq_take_append_cons_drop, if_pos (by rw [hl]; exact hc)]
        simp [go_sem]
      · simp (maxSteps := 1000000) (disch := omega) [go_sem, h3, h8, h9, h10, ho, hl, e1]
        have hlb := (lowB_int s[i]).2 (fun q => by omega)
        exact .of hI hμ ⟨i + 1, by simp [go_sem, h3], by simp [go_sem, h8], by simp [go_sem, h9], by simp [go_sem], by omega, by rw [← lowTo_skip s i hc hlb]; exact ho, he, hn⟩ (by simp [go_sem, h10]; omega)
    · simp (maxSteps := 1000000) (disch := omega) [go_sem, h3, h8, h9, h10, ho, hl, e1]
      have hlb := (lowB_int s[i]).2 (fun q => by omega)
      exact .of hI hμ ⟨i + 1, by simp [go_sem, h3], by simp [go_sem, h8], by simp [go_sem, h9], by simp [go_sem], by omega, by rw [← lowTo_skip s i hc hlb]; exact ho, he, hn⟩ (by simp [go_sem, h10]; omega)
  · simp (maxSteps := 1000000) (disch := omega) [go_sem, h3, h8, h9, h10]
    have e : i = s.length := by omega
    subst e
    have hL : lowTo s s.length = (s.map lowB).map fun x => IV.v (.int .u8 x.toNat) := by simp [lowTo]
    rw [hL] at ho
    refine IOper.gh (Gh.freezeB (d := 28) (k := H.next) (n := s.length) ho (by simp [go_sem]) (by simp) (by simp only [maxN]; omega)) true (vcOp_sound (by kernel_rfl) ?_)
    generalize s.map lowB = q at hK ⊢
    simp (maxSteps := 1000000) (disch := omega) [go_sem]
    refine retG_pure (he.del (Nat.le_refl _)) (.v _) ?_
    simp only [Function.comp_def, Option.getD_some, Int.toNat_natCast, UInt8.ofNat_toNat, List.map_id']
    exact hK

/-! ### Clones -/

theorem F56_ok (l : List Str) {r : List Str} (h : F56 l = some r) (hK : K (.ret (.sl 1 (r.map fun x => [.v (str x)]))) H) : ICalls prog 56 [.sl 1 (l.map fun x => [.v (str x)])] H K := by
  obtain ⟨hs, h⟩ := gd_some.1 h
  cases h
  exact clone20 l (by omega) hK

theorem F56r_ok (l : List Str) {r : List Str} (h : F56 l = some r) (hK : K (.ret (.os H.next r.length)) (H.new (.row 1 (r.map fun x => [.v (str x)])))) : ICalls prog 56 [.sl 1 (l.map fun x => [.v (str x)])] H K := by
  obtain ⟨hs, h⟩ := gd_some.1 h
  cases h
  exact clone20r l (by omega) hK

/-! ### Keys, values, in order -/

theorem keys59_ok (m : List (Str × List Str)) (k : Nat) (ok : H.obj k = some (.map (mE (fun (x : List Str) => .sl 1 (x.map fun x => [.v (str x)])) m))) (hK : K (.ret (.fn (.func 93) [] [.p H.next 0])) (H.new (.cells [.mp k]))) : ICalls prog 59 [.mp k] H K := by
  refine ICalls_vc (N := 4) func59 (by kernel_rfl) rfl (by kernel_rfl) (by kernel_rfl) fun hw hbd hnb => ?_
  have hx : cellsI (.mp k) = some [.mp k] := rfl
  simp (maxSteps := 1000000) (disch := omega) [go_sem, hx]
  refine retG_all ?_
  exact hK

theorem vals81_ok (l : List Str) (hK : K (.ret (.fn (.func 101) [] [.cp [.sl 1 (l.map fun x => [.v (str x)])]])) H) : ICalls prog 81 [.sl 1 (l.map fun x => [.v (str x)])] H K := values23 _ rfl hK

theorem ordered58 {σ : Type} {s0 : σ} {nx : σ → List IV → σ → Prop} {fin : σ → Prop} {got : σ → List (List UInt8)} (hs : Strs s0 nx got) (gf : FuncId) (cap : List IV) (C : List (Nat × HO)) (hit : IterS prog gf cap s0 nx fin C) (hC : ∀ p, p ∈ C → H.obj p.1 = some p.2)
    (hK : ∀ i, fin i → K (.ret (sS (compactS (sortS (got i))))) H) : ICalls prog 58 [.fn (.func gf) [] cap] H K := by
  refine ICalls_vc (N := 6) func58 (by kernel_rfl) rfl (by kernel_rfl) (by kernel_rfl) fun hw hbd hnb => ?_
  simp (maxSteps := 1000000) (disch := omega) [go_sem]
  refine sortedS22 hs gf cap C hit hC fun i r J hfin he ho hl => ?_
  simp (maxSteps := 1000000) (disch := omega) [go_sem]
  refine compact21 (sortS (got i)) (by rw [sortS_length]; exact hl) r he ho fun J he' => ?_
  simp (maxSteps := 1000000) (disch := omega) [go_sem]
  refine retG_pure he' ?_ (hK i hfin)
  refine .sl _ _ fun e h c hc => ?_
  simp at h
  obtain ⟨x, _, rfl⟩ := h
  simp at hc
  subst hc
  exact .v _

theorem F58v_ok (l : List Str) {r : List Str} (h : F58v l = some r) (hK : K (.ret (.sl 1 (r.map fun x => [.v (str x)]))) H) : ICalls prog 58 [.fn (.func 101) [] [.cp [.sl 1 (l.map fun x => [.v (str x)])]]] H K := by
  obtain ⟨hl, h⟩ := gd_some.1 h
  cases h
  have hit := (values39 (l.map fun s => IV.v (str s))).toS
  rw [List.map_map] at hit
  refine ordered58 (got := fun i => l.take i) ⟨by simp, fun i args i' hx => ?_⟩ 101 _ [] hit (by simp) fun i hi => ?_
  · obtain ⟨h1, rfl⟩ := hx
    have hlt : i < l.length := by have := (List.getElem?_eq_some_iff.1 h1).1; simpa using this
    simp [hlt] at h1
    exact ⟨l[i], h1.symm, List.take_succ_eq_append_getElem hlt, by rw [List.length_take]; omega⟩
  · have : l.take i = l := by rw [hi]; simp
    rw [this]; exact hK

/-! ### The keys of a map in order -/

theorem sortsKeys92 : SortsKeys prog 92 93 9 := by
  intro Bm b nn D0 w hBm hcell hown hmax hbytes
  refine (callsIn_wide (n := 5)).1 ?_
  have hs : AnyZ.SortsIn prog Go.Proofs.Tryz.sorted92_ren Fence.wide 4 :=
    ⟨fun blk off cap ss W hH hblk hsz => callsIn_wide.2 (AnyM.slices_Sort_string Go.Proofs.Tryz.sort107 blk off cap ss W hH hblk hsz),
     fun p cap W => callsIn_wide.2 (AnyM.slices_Sort_string_none Go.Proofs.Tryz.sort107 p cap W)⟩
  have hseq : SeqGives Fence.wide 2 prog 93 #[.pointer (some ⟨Bm, 0, none⟩)] encStr (fun ss => ss.Perm (strKeys D0)) (Maps.size D0) w :=
    AnyZ.keys_gives (ρ := Go.Proofs.Tryz.keys93_ren) Go.Proofs.Tryz.keys93 Fence.wide _ trivial rfl (by omega) Bm b nn D0 _ hBm hcell hown
  have cS := AnyZ.sorted_in Go.Proofs.Tryz.sorted92 Fence.wide 5 trivial trivial trivial trivial rfl (by omega) hs (enters_of Go.Proofs.Tryz.func107 (by kernel_rfl) rfl) 93 #[.pointer (some ⟨Bm, 0, none⟩)] trivial (enters_of Go.Proofs.Tryz.func93 (by kernel_rfl) rfl) _ _ hmax hbytes _ hseq
  exact cS

theorem F58k_ok (m : List (Str × List Str)) (kb k : Nat) (okb : H.obj kb = some (.cells [.mp k])) (ok : H.obj k = some (.map (mE (fun (x : List Str) => .sl 1 (x.map fun x => [.v (str x)])) m))) {r : List Str} (h : F58k m = some r) (hK : K (.ret (.sl 1 (r.map fun x => [.v (str x)]))) H) : ICalls prog 58 [.fn (.func 93) [] [.p kb 0]] H K := by
  obtain ⟨⟨hm, hl⟩, h⟩ := gd_some.1 h
  cases h
  refine ICalls_vc (N := 6) func58 (by kernel_rfl) rfl (by kernel_rfl) (by kernel_rfl) fun hw hbd hnb => ?_
  simp (maxSteps := 1000000) (disch := omega) [go_sem]
  refine ICalls_sortedKeys (kt := 9) underlying9 (by kernel_rfl) sortsKeys92 m kb k okb ok (by omega) (fun p hp => by have := hl p hp; omega) fun r J he ho => ?_
  simp (maxSteps := 1000000) (disch := omega) [go_sem]
  refine compact21 (sortS (m.map (·.1))) (by rw [sortS_length, List.length_map]; omega) r he ho fun J he' => ?_
  simp (maxSteps := 1000000) (disch := omega) [go_sem]
  refine retG_pure he' ?_ hK
  refine .sl _ _ fun e h c hc => ?_
  simp at h
  obtain ⟨a, b, _, rfl⟩ := h
  simp at hc
  subst hc
  exact .v _

end Go.Idl

namespace Go.Idl

open Go Go.Proofs.Tryz Go.RowKit Go.Proofs

variable {H : IHeap} {K : IEnd → IHeap → Prop}

def F90 (l : List S50) (n : Int) : Option (List S50) := gd (l = [] ∧ 0 ≤ n ∧ n ≤ 1000000) (some [])

theorem args2 {w : World} {g : Gs} {vs : Array Value} {i j : IV} (rl : RL w g vs [i, j]) : ∃ x y, vs = #[x, y] ∧ R w g x i ∧ R w g y j := by
  obtain ⟨h1, h2⟩ := rl
  have hs : vs.size = 2 := h1
  refine ⟨vs[0], vs[1], ?_, h2 0 _ i (Array.getElem?_eq_getElem (by omega)) rfl, h2 1 _ j (Array.getElem?_eq_getElem (by omega)) rfl⟩
  apply Array.ext
  · simpa using hs
  · intro q hq hq'
    have : q = 0 ∨ q = 1 := by omega
    rcases this with rfl | rfl <;> rfl

theorem grow90 (n : Int) (h0 : 0 ≤ n) (hn : n ≤ 1000000) (hK : K (.ret (.os H.next 0)) (H.new (.row 2 []))) : ICalls prog 90 [.v (.slice none 0 0), .v (.int .i64 n)] H K := by
  refine ⟨by kernel_rfl, fun w g vs s rl => ?_⟩
  obtain ⟨x, y, rfl, hx, hy⟩ := args2 rl
  have hx := hx.v_eq
  have hy := hy.v_eq
  subst hx
  subst hy
  obtain ⟨n, rfl⟩ : ∃ m : Nat, n = (m : Int) := ⟨n.toNat, by omega⟩
  by_cases hz : n = 0
  · subst hz
    refine (Any8.slices_Grow_room Go.Proofs.Tryz.grow90 none 0 0 0 w (by omega) (by omega) (by omega) (by omega)).mono ?_
    rintro e w' ⟨rfl, rfl⟩
    have hnw := s.new (w' := w') (.slice none 0 0) (.row 2 []) (Nat.le_refl _) rfl rfl rfl (fun _ _ => rfl) (fun b hb => by cases hb)
      (fun g' m _ => ⟨none, 0, rfl, Nat.le_refl _, by simp, by simp, by omega, .inl ⟨rfl, rfl⟩⟩)
    exact ⟨.ret (.os H.next 0), _, _, hnw.2, hnw.1, .ret _ _ (.os _ _ _ (by simp [Gs.put]) (fun q hq => by simp [Gs.put, HO.sh] at hq; subst hq; exact ⟨Nat.le_refl _, fun _ => by simp [Gs.put]⟩) ⟨_, _, rfl⟩), hK⟩
  · obtain ⟨i, z, hu, hi, hz, hzs, hsz, hby, hs0, hb0⟩ := elI_spec (P := prog) (t := 23) (e := 51) (sz := 2) (by_ := 40) (by simp [go_sem])
    refine (Any8.slices_Grow_grow Go.Proofs.Tryz.grow90 i z hi hz (by omega) none 0 0 n [] w (by omega) (by omega) ?_ (by omega) (by simp) (fun _ => rfl) (by simp)).mono ?_
    · rw [hby]; omega
    rintro e w' ⟨rfl, hw'⟩
    have hge := grownCap_ge w (0 + n) 0 51
    have hsz' : w'.heap.size = w.heap.size + 1 := by subst hw'; show (w.heap.push _).size = _; simp
    have hget : ∀ b, b < w.heap.size → w'.heap[b]? = w.heap[b]? := fun b hb => by
      subst hw'
      rw [alloc_get]
      have : ¬ b = w.drew.heap.size := fun e => by have e : b = w.heap.size := e; omega
      rw [if_neg this]
      rfl
    have hnew : w'.heap[w.heap.size]? = some (.cells (([] : List Value).toArray ++ Builtin.zeroCells z.cells (0 + n - 0) ++ Builtin.zeroCells z.cells (grownCap w (0 + n) 0 51 - (0 + n))) 51 (0, 0)) := by
      subst hw'
      have := World.alloc_heap_new w.drew (.cells (([] : List Value).toArray ++ Builtin.zeroCells z.cells (0 + n - 0) ++ Builtin.zeroCells z.cells (grownCap w (0 + n) 0 51 - (0 + n))) 51)
      exact this
    have hnw := s.new (w' := w') (.slice (some ⟨w.heap.size, 0, none⟩) 0 (grownCap w (0 + n) 0 51)) (.row 2 []) (by omega) (by subst hw'; rfl) (by subst hw'; rfl) (by subst hw'; rfl) hget (fun b hb => by
        simp only [blk, Option.some.injEq] at hb
        subst hb
        exact ⟨by omega, Nat.le_refl _⟩)
      (fun g' m _ => ⟨_, _, rfl, Nat.zero_le _, by simp, by simp, by omega, .inr ⟨w.heap.size, _, _, (0, 0), rfl, hnew, freeZ_zero _, by simp [size_zeroCells, hzs]; omega, by simp [CellsR]⟩⟩)
    exact ⟨.ret (.os H.next 0), _, _, hnw.2, hnw.1, .ret _ _ (.os _ _ _ (by simp [Gs.put]) (fun q hq => by simp [Gs.put, HO.sh] at hq; subst hq; exact ⟨Nat.le_refl _, fun _ => by simp [Gs.put]; rfl⟩) ⟨_, _, rfl⟩), hK⟩

theorem F90_ok (l : List S50) (n : Int) {r : List S50} (h : F90 l n = some r) (hK : K (.ret (.os H.next r.length)) (H.new (.row 2 (r.map fun x => [.v (str x.fName), .sl 1 (x.fValues.map fun x => [.v (str x)])])))) : ICalls prog 90 [.v (.slice none 0 0), .v (.int .i64 n)] H K := by
  obtain ⟨⟨hl, h0, hn⟩, h⟩ := gd_some.1 h
  cases h
  exact grow90 n h0 hn hK

end Go.Idl

namespace Go.Idl

open Go Go.Proofs.Tryz

/-! slices.Index[[]string,string] -/

noncomputable def Q99_k4  : Option Int :=
  some (-1)

noncomputable def Q99_b4 (a0 : List (List UInt8)) (a1 : List UInt8) (v5 : Int) : Option (Int ⊕ (Unit ⊕ Int)) :=
  if v5 < (a0.length : Int) then (gd (0 ≤ v5 ∧ v5 < a0.length) (if a1 = (a0.getD v5.toNat []) then (some (.inr (.inr v5))) else (some (.inl (IntKind.i64.wrap (v5 + 1)))))) else (some (.inr (.inl ())))

noncomputable def Q99 (a0 : List (List UInt8)) (a1 : List UInt8) : Option Int :=
  (loopO (fun (s : Int) => Q99_b4 a0 a1 s) 0).bind fun y => Sum.elim (fun (e : Unit) => Q99_k4) (fun (q : Int) => some q) y

set_option maxHeartbeats 8000000 in
set_option pp.deepTerms false in
set_option maxRecDepth 60000 in
theorem Q99_ok {H : IHeap} {K : IEnd → IHeap → Prop} (a0 : List (List UInt8)) (a1 : List UInt8) {r : Int} (h : Q99 a0 a1 = some r) (hK : K (.ret (.v (.int .i64 r))) H) : ICalls prog 99 [.sl 1 (a0.map fun x => [.v (str x)]), .v (str a1)] H K := by
  refine ICalls_iwp (N := 19) func99 (by kernel_rfl) rfl (by kernel_rfl) (by kernel_rfl) fun cb hcb hw hbd hnb => ?_
  clear hbd hnb
  subst hcb
  unfold Q99 at h
  refine IWp_seqF fun cb hc1 => ?_
  refine vc_sound _ (by kernel_rfl) _ _ _ ?_
  try simp -implicitDefEqProofs (maxSteps := 1000000) (disch := omega) [go_sem]
  subst hc1
  refine IWp_seqF fun cb hc2 => ?_
  refine IWp_seqF fun cb hc3 => ?_
  refine vc_sound _ (by kernel_rfl) _ _ _ ?_
  try simp -implicitDefEqProofs (maxSteps := 1000000) (disch := omega) [go_sem]
  subst hc3
  obtain ⟨y4, hl4q, hk4⟩ := bind_some' h
  refine IWp_tailC (fun tm' H' => .inl () = y4 ∧ H = H') ?_ fun cb hc4 => ?_
  · rintro tm4e H4e ⟨rfl, rfl⟩
    have h : Q99_k4 = some r := hk4
    unfold Q99_k4 at h
    simp -implicitDefEqProofs only [go_sem]
    subst hc2
    refine IWp_seqF fun cb hc6 => ?_
    refine vc_sound _ (by kernel_rfl) _ _ _ ?_
    try simp -implicitDefEqProofs (maxSteps := 1000000) (disch := omega) [go_sem]
    subst hc6
    refine vc_sound _ (by kernel_rfl) _ _ _ ?_
    simp -implicitDefEqProofs only [go_sem]
    have er := Option.some.inj h
    subst er
    try simp -implicitDefEqProofs (maxSteps := 1000000) (disch := omega) [go_sem]
    refine retG_pureE (by repeat (first | exact (Ext.refl hw) | refine Ext.new ?_ _ | refine Ext.set ?_ (by first | omega | (simp [go_sem]; done) | (simp [go_sem]; omega)) _ | refine Ext.del ?_ (by first | omega | (simp [go_sem]; done) | (simp [go_sem]; omega)))) (by first | with_reducible rfl | (simp -implicitDefEqProofs (maxSteps := 1000000) (disch := omega) [go_sem] <;> omega)) ?_ hK
    repeat (first | exact .v _ | exact NBL.nil | refine NBL.cons ?_ ?_ | refine NB_slm fun _ => ?_ | refine NB_agL ?_ | refine NB_tuL ?_ | refine NBL.app ?_ ?_ | refine NBL.map fun _ => ?_ | exact NB_errI | refine NBo_cL ?_ | refine NBo_mEL fun _ => ?_ | refine NBo_mIL fun _ => ?_ | exact NB_mpL (by omega) | exact NB_pL (by omega))
  · refine IWp_block ?_
    refine IWp_loopF (fun (s : Int) tm' H' => H = H' ∧ tm' 0 = .sl 1 (a0.map fun x => [.v (str x)]) ∧ tm' 1 = .v (str a1) ∧ tm' 7 = .v (.int .i64 (a0.length : Int)) ∧ tm' 8 = .v (.int .i64 s)) hl4q ?_ ?_
    · refine .same ⟨rfl, by first | with_reducible rfl | with_reducible assumption | (simp -implicitDefEqProofs (maxSteps := 1000000) (disch := omega) [go_sem] <;> omega), by first | with_reducible rfl | with_reducible assumption | (simp -implicitDefEqProofs (maxSteps := 1000000) (disch := omega) [go_sem] <;> omega), by first | with_reducible rfl | with_reducible assumption | (simp -implicitDefEqProofs (maxSteps := 1000000) (disch := omega) [go_sem] <;> omega), by first | with_reducible rfl | with_reducible assumption | (simp -implicitDefEqProofs (maxSteps := 1000000) (disch := omega) [go_sem] <;> omega)⟩
    · rintro I4 hI4 v5 x4 tm4 H4 ⟨rfl, t0_4, t1_4, t7_4, t8_4⟩ h hret4
      replace h : Q99_b4 a0 a1 v5 = some x4 := h
      unfold Q99_b4 at h
      refine IWp_seqF fun cb hc7 => ?_
      refine vc_sound _ (by kernel_rfl) _ _ _ ?_
      try simp -implicitDefEqProofs (maxSteps := 1000000) (disch := omega) [go_sem, t0_4, t1_4, t7_4, t8_4]
      subst hc7
      refine IWp_seqF fun cb hc8 => ?_
      refine IWp_cond_i h (by first | with_reducible rfl | (simp -implicitDefEqProofs (maxSteps := 1000000) (disch := omega) [go_sem, t0_4, t1_4, t7_4, t8_4] <;> omega)) rfl ?_ ?_
      · intro c9 h
        try simp -implicitDefEqProofs (disch := omega) at c9
        refine vc_sound _ (by kernel_rfl) _ _ _ ?_
        simp -implicitDefEqProofs only [go_sem]
        subst hc8
        refine IWp_seqF fun cb hc10 => ?_
        refine IWp_block ?_
        refine IWp_seqF fun cb hc11 => ?_
        refine vc_sound _ (by kernel_rfl) _ _ _ ?_
        try simp -implicitDefEqProofs (maxSteps := 1000000) (disch := omega) [go_sem, t0_4, t1_4, t7_4, t8_4]
        subst hc11
        refine IWp_seqF fun cb hc12 => ?_
        refine vc_sound _ (by kernel_rfl) _ _ _ ?_
        obtain ⟨g13, h⟩ := gd_some.1 h
        try simp -implicitDefEqProofs (disch := omega) at g13
        try simp -implicitDefEqProofs (maxSteps := 1000000) (disch := omega) [go_sem, t0_4, t1_4, t7_4, t8_4]
        subst hc12
        refine IWp_cond_i h (by first | with_reducible rfl | (simp -implicitDefEqProofs (maxSteps := 1000000) (disch := omega) [go_sem, t0_4, t1_4, t7_4, t8_4] <;> omega)) rfl ?_ ?_
        · intro c14 h
          try simp -implicitDefEqProofs (disch := omega) at c14
          refine IWp_seqF fun cb hc15 => ?_
          refine vc_sound _ (by kernel_rfl) _ _ _ ?_
          try simp -implicitDefEqProofs (maxSteps := 1000000) (disch := omega) [go_sem, t0_4, t1_4, t7_4, t8_4]
          subst hc15
          refine vc_sound _ (by kernel_rfl) _ _ _ ?_
          simp -implicitDefEqProofs only [go_sem]
          have e4 := Option.some.inj h
          subst e4
          have e4 := hret4 _ rfl
          subst e4
          replace h : some v5 = some r := hk4
          have er := Option.some.inj h
          subst er
          try simp -implicitDefEqProofs (maxSteps := 1000000) (disch := omega) [go_sem, t0_4, t1_4, t7_4, t8_4]
          refine retG_pureE (by repeat (first | exact (Ext.refl hw) | refine Ext.new ?_ _ | refine Ext.set ?_ (by first | omega | (simp [go_sem]; done) | (simp [go_sem]; omega)) _ | refine Ext.del ?_ (by first | omega | (simp [go_sem]; done) | (simp [go_sem]; omega)))) (by first | with_reducible rfl | (simp -implicitDefEqProofs (maxSteps := 1000000) (disch := omega) [go_sem, t0_4, t1_4, t7_4, t8_4] <;> omega)) ?_ hK
          repeat (first | exact .v _ | exact NBL.nil | refine NBL.cons ?_ ?_ | refine NB_slm fun _ => ?_ | refine NB_agL ?_ | refine NB_tuL ?_ | refine NBL.app ?_ ?_ | refine NBL.map fun _ => ?_ | exact NB_errI | refine NBo_cL ?_ | refine NBo_mEL fun _ => ?_ | refine NBo_mIL fun _ => ?_ | exact NB_mpL (by omega) | exact NB_pL (by omega))
        · intro c14 h
          try simp -implicitDefEqProofs (disch := omega) at c14
          refine vc_sound _ (by kernel_rfl) _ _ _ ?_
          simp -implicitDefEqProofs only [go_sem]
          subst hc10
          refine vc_sound _ (by kernel_rfl) _ _ _ ?_
          try simp -implicitDefEqProofs (maxSteps := 1000000) (disch := omega) [go_sem, t0_4, t1_4, t7_4, t8_4]
          have e4 := Option.some.inj h
          subst e4
          refine loopN_mk hI4 (IntKind.i64.wrap (v5 + 1)) ?_
          refine .same ⟨rfl, by first | with_reducible rfl | with_reducible assumption | (simp -implicitDefEqProofs (maxSteps := 1000000) (disch := omega) [go_sem, t0_4, t1_4, t7_4, t8_4] <;> omega), by first | with_reducible rfl | with_reducible assumption | (simp -implicitDefEqProofs (maxSteps := 1000000) (disch := omega) [go_sem, t0_4, t1_4, t7_4, t8_4] <;> omega), by first | with_reducible rfl | with_reducible assumption | (simp -implicitDefEqProofs (maxSteps := 1000000) (disch := omega) [go_sem, t0_4, t1_4, t7_4, t8_4] <;> omega), by first | with_reducible rfl | with_reducible assumption | (simp -implicitDefEqProofs (maxSteps := 1000000) (disch := omega) [go_sem, t0_4, t1_4, t7_4, t8_4] <;> omega)⟩
      · intro c9 h
        try simp -implicitDefEqProofs (disch := omega) at c9
        refine vc_sound _ (by kernel_rfl) _ _ _ ?_
        simp -implicitDefEqProofs only [go_sem]
        have e4 := Option.some.inj h
        subst e4
        have hy4 := hret4 _ rfl
        refine hc4 _ _ ?_
        refine .same ⟨hy4, rfl⟩

/-! slices.Contains[[]string,string] -/

noncomputable def Q78 (a0 : List (List UInt8)) (a1 : List UInt8) : Option Bool :=
  (Q99 a0 a1).bind fun (x3 : Int) => some (decide (0 ≤ x3))

set_option maxHeartbeats 8000000 in
set_option pp.deepTerms false in
set_option maxRecDepth 60000 in
theorem Q78_ok {H : IHeap} {K : IEnd → IHeap → Prop} (a0 : List (List UInt8)) (a1 : List UInt8) {r : Bool} (h : Q78 a0 a1 = some r) (hK : K (.ret (.v (.bool r))) H) : ICalls prog 78 [.sl 1 (a0.map fun x => [.v (str x)]), .v (str a1)] H K := by
  refine ICalls_iwp (N := 9) func78 (by kernel_rfl) rfl (by kernel_rfl) (by kernel_rfl) fun cb hcb hw hbd hnb => ?_
  clear hbd hnb
  subst hcb
  unfold Q78 at h
  refine IWp_seqF fun cb hc1 => ?_
  refine vc_sound _ (by kernel_rfl) _ _ _ ?_
  try simp -implicitDefEqProofs (maxSteps := 1000000) (disch := omega) [go_sem]
  subst hc1
  refine IWp_seqF fun cb hc2 => ?_
  refine vc_sound _ (by kernel_rfl) _ _ _ ?_
  try simp -implicitDefEqProofs (maxSteps := 1000000) (disch := omega) [go_sem]
  obtain ⟨x3, hx3, h⟩ := bind_some' h
  refine ICalls.eqA (args' := [.sl 1 (a0.map fun x => [.v (str x)]), .v (str a1)]) (by first | with_reducible rfl | (simp -implicitDefEqProofs (maxSteps := 1000000) (disch := omega) [go_sem] <;> omega)) (Q99_ok a0 a1 hx3 ?_)
  try simp -implicitDefEqProofs (maxSteps := 1000000) (disch := omega) [go_sem]
  subst hc2
  refine vc_sound _ (by kernel_rfl) _ _ _ ?_
  simp -implicitDefEqProofs only [go_sem]
  have er := Option.some.inj h
  subst er
  try simp -implicitDefEqProofs (maxSteps := 1000000) (disch := omega) [go_sem]
  refine retG_pureE (by repeat (first | exact (Ext.refl hw) | refine Ext.new ?_ _ | refine Ext.set ?_ (by first | omega | (simp [go_sem]; done) | (simp [go_sem]; omega)) _ | refine Ext.del ?_ (by first | omega | (simp [go_sem]; done) | (simp [go_sem]; omega)))) (by first | with_reducible rfl | (simp -implicitDefEqProofs (maxSteps := 1000000) (disch := omega) [go_sem] <;> omega)) ?_ hK
  repeat (first | exact .v _ | exact NBL.nil | refine NBL.cons ?_ ?_ | refine NB_slm fun _ => ?_ | refine NB_agL ?_ | refine NB_tuL ?_ | refine NBL.app ?_ ?_ | refine NBL.map fun _ => ?_ | exact NB_errI | refine NBo_cL ?_ | refine NBo_mEL fun _ => ?_ | refine NBo_mIL fun _ => ?_ | exact NB_mpL (by omega) | exact NB_pL (by omega))

end Go.Idl

namespace Go.Idl

open Go

theorem wrap_nat {i : Nat} (h : i < 9223372036854775807) : IntKind.i64.wrap ((i : Int) + 1) = ((i + 1 : Nat) : Int) := by
  rw [wrap_i64 (by omega) (by omega)]; rfl

theorem loopO_for {ρ : Type} {step : Int → Option (Int ⊕ ρ)} {Post : ρ → Prop} (n : Nat) (Inv : Nat → Prop) (h0 : Inv 0)
    (hs : ∀ i : Nat, i < n → Inv i → (step i = some (.inl ((i + 1 : Nat) : Int)) ∧ Inv (i + 1)) ∨ ∃ r, step i = some (.inr r) ∧ Post r)
    (hf : Inv n → ∃ r, step n = some (.inr r) ∧ Post r) : ∃ r, loopO step 0 = some r ∧ Post r := by
  refine loopO_inv (fun s : Int => ∃ i : Nat, i ≤ n ∧ s = (i : Int) ∧ Inv i) (fun s : Int => n - s.toNat) ?_ ⟨0, Nat.zero_le _, rfl, h0⟩
  rintro s ⟨i, hi, rfl, hI⟩
  by_cases h : i < n
  · rcases hs i h hI with ⟨h1, h2⟩ | h1
    · exact .inl ⟨_, h1, ⟨i + 1, h, rfl, h2⟩, by simp; omega⟩
    · exact .inr h1
  · have e : i = n := by omega
    subst e
    exact .inr (hf hI)

theorem loopO_for2 {σ ρ : Type} {step : σ × Int → Option ((σ × Int) ⊕ ρ)} {Post : ρ → Prop} (n : Nat) (Inv : Nat → σ → Prop) {a : σ} (h0 : Inv 0 a)
    (hs : ∀ (i : Nat) (a : σ), i < n → Inv i a → (∃ a', step (a, (i : Int)) = some (.inl (a', ((i + 1 : Nat) : Int))) ∧ Inv (i + 1) a') ∨ ∃ r, step (a, (i : Int)) = some (.inr r) ∧ Post r)
    (hf : ∀ a, Inv n a → ∃ r, step (a, (n : Int)) = some (.inr r) ∧ Post r) : ∃ r, loopO step (a, 0) = some r ∧ Post r := by
  refine loopO_inv (fun s : σ × Int => ∃ i : Nat, i ≤ n ∧ s.2 = (i : Int) ∧ Inv i s.1) (fun s : σ × Int => n - s.2.toNat) ?_ ⟨0, Nat.zero_le _, rfl, h0⟩
  rintro ⟨a, s⟩ ⟨i, hi, hs2, hI⟩
  simp only at hs2 hI
  subst hs2
  by_cases h : i < n
  · rcases hs i a h hI with ⟨a', h1, h2⟩ | h1
    · exact .inl ⟨_, h1, ⟨i + 1, h, rfl, h2⟩, by simp; omega⟩
    · exact .inr h1
  · have e : i = n := by omega
    subst e
    exact .inr (hf a hI)

theorem loopO_for3 {σ ρ : Type} {step : Int × σ → Option ((Int × σ) ⊕ ρ)} {Post : ρ → Prop} (n : Nat) (Inv : Nat → σ → Prop) {a : σ} (h0 : Inv 0 a)
    (hs : ∀ (i : Nat) (a : σ), i < n → Inv i a → (∃ a', step ((i : Int), a) = some (.inl (((i + 1 : Nat) : Int), a')) ∧ Inv (i + 1) a') ∨ ∃ r, step ((i : Int), a) = some (.inr r) ∧ Post r)
    (hf : ∀ a, Inv n a → ∃ r, step ((n : Int), a) = some (.inr r) ∧ Post r) : ∃ r, loopO step (0, a) = some r ∧ Post r := by
  refine loopO_inv (fun s : Int × σ => ∃ i : Nat, i ≤ n ∧ s.1 = (i : Int) ∧ Inv i s.2) (fun s : Int × σ => n - s.1.toNat) ?_ ⟨0, Nat.zero_le _, rfl, h0⟩
  rintro ⟨s, a⟩ ⟨i, hi, hs2, hI⟩
  simp only at hs2 hI
  subst hs2
  by_cases h : i < n
  · rcases hs i a h hI with ⟨a', h1, h2⟩ | h1
    · exact .inl ⟨_, h1, ⟨i + 1, h, rfl, h2⟩, by simp; omega⟩
    · exact .inr h1
  · have e : i = n := by omega
    subst e
    exact .inr (hf a hI)

theorem getD_some {α : Type} {l : List α} {i : Nat} (h : i < l.length) (d : α) : l.getD i d = l[i] := by simp [h]

end Go.Idl

namespace Go.Idl

open Go Go.Proofs.Tryz Go.RowKit

variable {H : IHeap} {K : IEnd → IHeap → Prop}

theorem Q78_eq (l : List Str) (s : Str) (hl : l.length ≤ 1000000) : Q78 l s = some (decide (s ∈ l)) := by
  unfold Q78 Q99
  obtain ⟨r, h1, h2⟩ := loopO_for (step := fun (i : Int) => Q99_b4 l s i) (Post := fun y => (y = .inl () ∧ ¬ s ∈ l) ∨ ∃ q : Int, y = .inr q ∧ 0 ≤ q ∧ s ∈ l) l.length (fun i => ¬ s ∈ l.take i) (by simp)
    (fun i hi hI => by
      have hw := wrap_nat (i := i) (by omega)
      simp only [Q99_b4]
      rw [if_pos (by omega), gd_pos (by omega), Int.toNat_natCast, getD_some hi]
      by_cases h : s = l[i]
      · rw [if_pos h]
        exact .inr ⟨_, rfl, .inr ⟨_, rfl, by omega, by rw [h]; simp⟩⟩
      · rw [if_neg h, hw]
        refine .inl ⟨rfl, ?_⟩
        rw [List.take_succ_eq_append_getElem hi]
        simp only [List.mem_append, List.mem_singleton]
        rintro (q | q)
        · exact hI q
        · exact h q)
    (fun hI => by
      simp only [Q99_b4]
      rw [if_neg (by omega)]
      exact ⟨_, rfl, .inl ⟨rfl, by simpa using hI⟩⟩)
  rw [h1]
  rcases h2 with ⟨rfl, h⟩ | ⟨q, rfl, h0, h⟩
  · simp [Q99_k4, h]
  · simp [h, h0]

theorem in80 (x : List Str) (s : Str) (k : Nat) (hx : x.length ≤ 1000000) (ok : H.obj k = some (.cells [.sl 1 (x.map fun x => [.v (str x)])])) (hK : K (.ret (.v (.bool (decide (s ∈ x))))) H) : ICalls prog 80 [.v (str s), .p k 0] H K := by
  refine ICalls_vc (N := 7) func80 (by kernel_rfl) rfl (by kernel_rfl) (by kernel_rfl) fun hw hbd hnb => ?_
  simp (maxSteps := 1000000) (disch := omega) [go_sem, ok]
  refine Q78_ok x s (Q78_eq x s hx) ?_
  simp (maxSteps := 1000000) (disch := omega) [go_sem, ok]
  exact retG_pure (.refl hw) (.v _) hK

set_option pp.deepTerms false in
set_option maxRecDepth 4000 in
/-- The first that is to go. -/
theorem index100 (l x : List Str) (kk k : Nat) (n : Nat) (hn : n = l.length) (hl : l.length ≤ 1000000) (hx : x.length ≤ 1000000) (okr : H.obj kk = some (.cells (l.map fun x => .v (str x)))) (ok : H.obj k = some (.cells [.sl 1 (x.map fun x => [.v (str x)])]))
    (hK : ∀ i : Int, (i = -1 ∧ ∀ s, s ∈ l → ¬ s ∈ x) ∨ (∃ j : Nat, i = j ∧ ∃ h : j < l.length, l[j] ∈ x ∧ ∀ s, s ∈ l.take j → ¬ s ∈ x) → K (.ret (.v (.int .i64 i))) H) : ICalls prog 100 [.bs kk 0 n, .fn (.func 80) [] [.p k 0]] H K := by
  subst hn
  refine ICalls_vc (N := 19) func100 (by kernel_rfl) rfl (by kernel_rfl) (by kernel_rfl) fun hw hbd hnb => ?_
  simp (maxSteps := 1000000) (disch := omega) [go_sem]
  refine vcLoop_mk (fun tm' H' => H' = H ∧ ∃ i : Nat, tm' 0 = .bs kk 0 l.length ∧ tm' 1 = .fn (.func 80) [] [.p k 0] ∧ tm' 7 = .v (.int .i64 l.length) ∧ tm' 8 = .v (.int .i64 i) ∧ i ≤ l.length ∧ ∀ s, s ∈ l.take i → ¬ s ∈ x) (fun tm' _ => l.length - (intOf (tm' 8)).toNat) (.same ?_) ?_
  · exact ⟨rfl, 0, by simp [go_sem], by simp [go_sem], by simp [go_sem], by simp [go_sem], by omega, by simp⟩
  rintro I' μ' hI hμ tm' H' ⟨rfl, i, h0, h1, h7, h8, hi, hp⟩
  refine vc_sound _ (by kernel_rfl) _ _ _ ?_
  simp (maxSteps := 1000000) (disch := omega) [go_sem, h0, h1, h7, h8]
  refine condB ?_ ?_ <;> intro hc <;> (try simp at hc)
  · simp (maxSteps := 1000000) (disch := omega) [go_sem, h0, h1, h7, h8, okr]
    refine in80 x l[i] k hx ok ?_
    simp (maxSteps := 1000000) (disch := omega) [go_sem, h0, h1, h7, h8, okr]
    refine condB ?_ ?_ <;> intro hd <;> (try simp at hd)
    · simp (maxSteps := 1000000) (disch := omega) [go_sem, h0, h1, h7, h8]
      exact retG_pure (.refl hw) (.v _) (hK i (.inr ⟨i, rfl, hc, by simpa using hd, hp⟩))
    · simp (maxSteps := 1000000) (disch := omega) [go_sem, h0, h1, h7, h8]
      refine .of hI hμ ⟨rfl, i + 1, by simp [go_sem, h0], by simp [go_sem, h1], by simp [go_sem, h7], by simp [go_sem], by omega, ?_⟩ (by simp [go_sem, h8]; omega)
      intro s hs
      rw [List.take_succ_eq_append_getElem hc, List.mem_append] at hs
      rcases hs with hs | hs
      · exact hp s hs
      · simp at hs; subst hs; simpa using hd
  · simp (maxSteps := 1000000) (disch := omega) [go_sem, h0, h1, h7, h8]
    have e : i = l.length := by omega
    subst e
    exact retG_pure (.refl hw) (.v _) (hK (-1) (.inl ⟨rfl, by simpa using hp⟩))

section

variable {tm : Tm}

theorem Gh.fixSlot {d k sz : Nat} {es : List (List IV)} (hk : H.obj k = some (.row sz es)) (hn : 0 < es.length) (hd : tm d = .os k es.length) : Gh tm H (upd tm d (.bs H.next 0 es.length)) (H.fix k es.flatten) := fun w g s => by
  obtain ⟨b, cap, h1, h2, m, s'⟩ := fix_sim hk hn s
  refine ⟨_, m, s', fun a r i hi => ?_⟩
  have hr := r i hi
  by_cases e : i = d
  · subst e
    rw [hd] at hr
    have hsh : g.sh k = some (.row es.length) := by rw [s.sh, IHeap.sh, hk]; rfl
    have hu : upd tm i (.bs H.next 0 es.length) i = .bs H.next 0 es.length := by simp [upd]
    rw [hu]
    generalize a.tmps.getD i undef = x at hr ⊢
    cases hr with
    | os _ _ _ _ h _ =>
      have hx := (h _ hsh).2 rfl
      rw [hx, h1]
      refine .bs _ _ _ _ (by rw [← s.nx]; exact Nat.lt_succ_self _) ⟨_, _, rfl, h2⟩ fun _ _ _ => ⟨b, cap, ?_, rfl⟩
      simp [fixG, s.nx]
  · have hu : upd tm d (.bs H.next 0 es.length) i = tm i := by simp [upd, e]
    rw [hu]
    exact hr.mono m

theorem EndH.del1 {H' : IHeap} {k : Nat} (he : Ext (H.del k) H') (hw : H.Wf) : EndH H H' (H.del k) where
  lo := Nat.le_refl _
  hi := he.le
  sub := he.sub
  lt := fun i o h => by
    simp only [IHeap.del] at h ⊢
    split at h
    · cases h
    · rcases Nat.lt_or_ge i H.next with e | e
      · exact e
      · rw [hw i e] at h; cases h
  nb := .inr fun i o h => by
    simp only [IHeap.del] at h
    split at h
    · cases h
    · exact .inl h
  sn := rfl

end

def F79 (l x : List Str) : Option (List Str) := gd (l ≠ [] ∧ (l.length : Int) ≤ 1000000 ∧ (x.length : Int) ≤ 1000000) (some (l.filter fun s => !decide (s ∈ x)))

theorem filter_snoc {p : Str → Bool} (l : List Str) (j : Nat) (h : j < l.length) : (l.take (j + 1)).filter p = (l.take j).filter p ++ (if p l[j] = true then [l[j]] else []) := by
  rw [List.take_succ_eq_append_getElem h, List.filter_append]
  congr 1
  by_cases hp : p l[j] = true
  · simp [hp]
  · simp [hp]

set_option pp.deepTerms false in
set_option maxRecDepth 8000 in
set_option maxHeartbeats 1000000 in
theorem F79_ok (l x : List Str) (kk k : Nat) (okr : H.obj kk = some (.row 1 (l.map fun x => [.v (str x)]))) (ok : H.obj k = some (.cells [.sl 1 (x.map fun x => [.v (str x)])])) {r : List Str} (h : F79 l x = some r) (hK : K (.ret (.sl 1 (r.map fun x => [.v (str x)]))) (H.del kk)) : ICalls prog 79 [.os kk l.length, .fn (.func 80) [] [.p k 0]] H K := by
  obtain ⟨⟨hne, hl, hx⟩, h⟩ := gd_some.1 h
  cases h
  have hlen : 0 < l.length := List.length_pos_iff.2 hne
  have hkk : ¬ k = kk := by rintro rfl; rw [ok] at okr; cases okr
  refine ICalls_iwp (N := 42) func79 (by kernel_rfl) rfl (by kernel_rfl) (by kernel_rfl) fun cb hcb hw hbd hnb => ?_
  subst hcb
  have hkl : kk < H.next := by
    rcases Nat.lt_or_ge kk H.next with e | e
    · exact e
    · rw [hw kk e] at okr; cases okr
  have hkl2 : k < H.next := by
    rcases Nat.lt_or_ge k H.next with e | e
    · exact e
    · rw [hw k e] at ok; cases ok
  refine IWp.gh (Gh.fixSlot (d := 0) okr (by simpa using hlen) (by simp [go_sem])) ?_
  have hfl : (l.map fun x => [IV.v (str x)]).flatten = l.map fun x => .v (str x) := flat1 _
  rw [hfl]
  refine vc_sound _ (by kernel_rfl) _ _ _ ?_
  have hF : (H.fix kk (l.map fun x => .v (str x))).obj H.next = some (.cells (l.map fun x => .v (str x))) := by simp [go_sem]
  have hFk : (H.fix kk (l.map fun x => .v (str x))).obj k = some (.cells [.sl 1 (x.map fun x => [.v (str x)])]) := by
    have : ¬ k = H.next := by omega
    simp [go_sem, this, hkk, ok]
  simp (maxSteps := 1000000) (disch := omega) [go_sem]
  refine index100 l x H.next k l.length rfl (by omega) (by omega) hF hFk fun i hi => ?_
  have hdel : ∀ cs, Ext (H.del kk) ((H.fix kk cs)) := fun cs => ⟨fun i hi => by simp only [IHeap.del] at hi ⊢; split; rfl; exact hw i hi, Nat.le_succ _, fun i o hi => by
    simp only [IHeap.del] at hi
    split at hi
    · cases hi
    · rename_i e
      have : ¬ i = H.next := by rintro rfl; rw [hw _ (Nat.le_refl _)] at hi; cases hi
      simp [IHeap.fix, this, e, hi], rfl⟩
  have hnb' : ∀ (l : List Str) (c : IV), c ∈ l.map (fun s => IV.v (str s)) → NB H.next c := fun l c hc => by
    obtain ⟨s, _, rfl⟩ := List.mem_map.1 hc
    exact .v _
  have hJ : (H.del kk).obj H.next = none := by simp only [IHeap.del]; split; rfl; exact hw _ (Nat.le_refl _)
  have hk3 : ¬ k = H.next := by omega
  simp (maxSteps := 1000000) (disch := omega) [go_sem]
  refine condB ?_ ?_ <;> intro hc <;> (try simp at hc)
  · simp (maxSteps := 1000000) (disch := omega) [go_sem]
    rcases hi with ⟨_, hi⟩ | ⟨j, hj, _⟩
    · refine retG_fz (J := H.del kk) (EndH.del1 (hdel _) hw) (fz_bs (r := l.filter fun s => !decide (s ∈ x)) hJ hF ?_ (Nat.le_refl _) (by omega)) hK
      rw [List.take_length]
      symm
      rw [List.filter_eq_self]
      intro s hs
      simpa using hi s hs
    · omega
  obtain ⟨j, rfl, hjl, hj1, hj2⟩ : ∃ j : Nat, i = j ∧ ∃ h : j < l.length, l[j] ∈ x ∧ ∀ s, s ∈ l.take j → ¬ s ∈ x := by
    rcases hi with ⟨rfl, _⟩ | hi
    · exact absurd rfl hc
    · exact hi
  simp (maxSteps := 1000000) (disch := omega) [go_sem]
  refine vcLoop_mk (fun tm' H' => ∃ (cs : List Str) (a b : Nat), H' = (H.fix kk (l.map fun x => .v (str x))).set H.next (.cells (cs.map fun s => .v (str s))) ∧ tm' 0 = .bs H.next 0 l.length ∧ tm' 1 = .fn (.func 80) [] [.p k 0] ∧ tm' 5 = .v (.int .i64 a) ∧ tm' 6 = .v (.int .i64 b) ∧
      a < b ∧ b ≤ l.length ∧ cs.length = l.length ∧ cs.take a = (l.take b).filter (fun s => !decide (s ∈ x)) ∧ cs.drop b = l.drop b) (fun tm' _ => l.length - (intOf (tm' 6)).toNat) (.same ?_) ?_
  · refine ⟨l, j, j + 1, set_self hF, by simp [go_sem], by simp [go_sem], by simp [go_sem], by simp [go_sem], by omega, by omega, rfl, ?_, rfl⟩
    rw [filter_snoc _ _ hjl, if_neg (by simpa using hj1), List.append_nil]
    symm
    rw [List.filter_eq_self]
    intro s hs
    simpa using hj2 s hs
  rintro I2 μ2 hI2 hμ2 tm2 H2 ⟨cs, a, b, rfl, g0, g1, g5, g6, q1, q2, q3, q4, q5⟩
  refine vc_sound _ (by kernel_rfl) _ _ _ ?_
  simp (maxSteps := 1000000) (disch := omega) [go_sem, g0, g1, g5, g6]
  refine condB ?_ ?_ <;> intro hd <;> (try simp at hd)
  · have hbc : b < cs.length := by omega
    have e1 : cs[b] = l[b] := by
      have e := congrArg (fun x => x[0]?) q5
      simp only [List.getElem?_drop, Nat.add_zero] at e
      rw [List.getElem?_eq_getElem hbc, List.getElem?_eq_getElem (by omega)] at e
      exact Option.some.inj e
    simp (maxSteps := 1000000) (disch := omega) [go_sem, g0, g1, g5, g6]
    refine in80 x cs[b] k (by omega) (by simp [go_sem, hk3, hkk, ok]) ?_
    simp (maxSteps := 1000000) (disch := omega) [go_sem, g0, g1, g5, g6]
    have hfs := filter_snoc (p := fun s => !decide (s ∈ x)) l b (by omega)
    have hdrop : List.drop (b + 1) cs = List.drop (b + 1) l := by
      have e := congrArg (List.drop 1) q5
      simpa only [List.drop_drop] using e
    refine condB ?_ ?_ <;> intro hb <;> (try simp at hb)
    · simp (maxSteps := 1000000) (disch := omega) [go_sem, g0, g1, g5, g6]
      refine .of hI2 hμ2 ⟨cs.set a cs[b], a + 1, b + 1, ?_, by simp [go_sem, g0], by simp [go_sem, g1], by simp [go_sem], by simp [go_sem], by omega, by omega, by simpa using q3, ?_, ?_⟩ (by simp [go_sem, g6]; omega)
      · simp only [List.map_set]
      · rw [hfs, ← e1, if_pos (by simpa using hb), ← q4, List.take_succ_eq_append_getElem (by simpa using (by omega : a < cs.length)), List.take_set_of_le (Nat.le_refl _)]
        simp [e1]
      · rw [List.drop_set_of_lt (by omega)]
        exact hdrop
    · simp (maxSteps := 1000000) (disch := omega) [go_sem, g0, g1, g5, g6]
      refine .of hI2 hμ2 ⟨cs, a, b + 1, rfl, by simp [go_sem, g0], by simp [go_sem, g1], by simp [go_sem, g5], by simp [go_sem], by omega, by omega, q3, ?_, hdrop⟩ (by simp [go_sem, g6]; omega)
      rw [hfs, ← e1, if_neg (by simpa using hb), List.append_nil, q4]
  · simp (maxSteps := 1000000) (disch := omega) [go_sem, g0, g1, g5, g6]
    have e : b = l.length := by omega
    subst e
    refine IOper_clear (k := H.next) (off := a) (n := l.length - a) rfl (by kernel_rfl) underlying40 zero9 rfl rfl (by simp [go_sem]) (by simp [go_sem]; rfl) (by omega) (by simp; omega) ?_
    simp (maxSteps := 1000000) (disch := omega) [go_sem, g0, g1, g5, g6]
    refine retG_fz (J := H.del kk) (EndH.del1 ((hdel _).set (Nat.le_refl _) _) hw) (fz_bs' (r := l.filter fun s => !decide (s ∈ x)) hJ (by simp [go_sem]; rfl) ?_ ?_ (by omega) ?_) hK
    · rw [List.take_append_of_le_length (by simp; omega), List.take_take, Nat.min_self, ← List.map_take, q4, List.take_length]
    · simp; omega
    · intro c hc
      simp only [List.mem_append] at hc
      rcases hc with hc | hc | hc
      · exact hnb' _ _ (List.mem_of_mem_take hc)
      · rw [List.eq_of_mem_replicate hc]
        exact .v _
      · exact hnb' _ _ (List.mem_of_mem_drop hc)

end Go.Idl

namespace Go.Idl

open Go Go.Proofs.Tryz Go.RowKit

variable {H : IHeap} {K : IEnd → IHeap → Prop}

theorem clone61r (l : List S50) (hl : (l.length : Int) ≤ 1000000) (hK : K (.ret (.os H.next l.length)) (H.new (.row 2 (l.map fun x => [.v (str x.fName), .sl 1 (x.fValues.map fun x => [.v (str x)])])))) : ICalls prog 61 [eS l] H K := by
  refine ICalls_vc (N := 8) func61 (by kernel_rfl) rfl (by kernel_rfl) (by kernel_rfl) fun hw hbd hnb => ?_
  have hnl := hnb (eS l) (by simp)
  have hnr : NBo H.next (.row 2 (l.map fun x => [.v (str x.fName), .sl 1 (x.fValues.map fun x => [.v (str x)])])) := fun e he c hc => by
    simp only [List.mem_map] at he
    obtain ⟨x, _, rfl⟩ := he
    simp only [List.mem_cons, List.not_mem_nil, or_false] at hc
    rcases hc with rfl | rfl
    · exact .v _
    · exact NB_slm fun _ => NBL.cons (.v _) NBL.nil
  simp (maxSteps := 1000000) (disch := omega) [go_sem]
  refine IOper_slnil rfl (by kernel_rfl) underlying23 (by simp [go_sem]; exact ⟨rfl, rfl⟩) rfl (.inl rfl) fun b hb => ?_
  simp (maxSteps := 1000000) (disch := omega) [go_sem]
  refine condB ?_ ?_ <;> intro hc <;> (try simp at hc)
  · simp (maxSteps := 1000000) (disch := omega) [go_sem]
    have e : l = [] := by simpa using hb hc
    subst e
    refine retG_g (r' := .os H.next 0) ?_ hK
    intro w0 g0 w g s0 m s
    have hu := s.upd (w' := w) (H' := H.new (.row 2 [])) H.next (.slice none 0 0) (.row 2 []) rfl (Nat.le_succ _) (Nat.lt_succ_self _) (Nat.le_refl _) rfl rfl rfl
      (fun b hb => .inr rfl) (fun b hb => by simp [blk] at hb) (.inl rfl) (fun g' m _ => ⟨none, 0, rfl, by simp, by simp [maxN], by simp, by omega, .inl ⟨rfl, rfl⟩⟩)
    refine ⟨_, m.tr hu.2 s0 s, hu.1, fun x hx => ?_⟩
    rw [hx.v_eq]
    exact os_of_put (Nat.lt_succ_self _) ⟨none, 0, rfl⟩
  · simp (maxSteps := 1000000) (disch := omega) [go_sem]
    refine IOper_buildEmpty (sz := 2) (rs := []) rfl (by simp [bsI, underlying23, zero51, cells51, Value.cells, Value.oneCell', rep, fillI]) ?_
    simp (maxSteps := 1000000) (disch := omega) [go_sem]
    have he := ((Ext.refl hw).new (.row 2 []) |>.set (Nat.le_refl _) (.row 2 (l.map fun x => [.v (str x.fName), .sl 1 (x.fValues.map fun x => [.v (str x)])])))
    have hr := he.endR1 (k := H.next) (o := .row 2 (l.map fun x => [.v (str x.fName), .sl 1 (x.fValues.map fun x => [.v (str x)])])) (o' := .row 2 (l.map fun x => [.v (str x.fName), .sl 1 (x.fValues.map fun x => [.v (str x)])])) (by simp [go_sem]) (Nat.le_refl _) (by simp [go_sem]) (fun J ρ => .same _ hnr)
    refine retG_g (hr.endG ?_) hK
    have h1 := Rn.os (H := (H.new (.row 2 [])).set H.next (.row 2 (l.map fun x => [.v (str x.fName), .sl 1 (x.fValues.map fun x => [.v (str x)])]))) (J := H.new (.row 2 (l.map fun x => [.v (str x.fName), .sl 1 (x.fValues.map fun x => [.v (str x)])]))) (ρ := fun i => if i = H.next then H.next else i) (m := H.next) H.next l.length (by simp [go_sem])
    simpa using h1

theorem flat2_len {α : Type} (f g : α → IV) (l : List α) : ((l.map fun x => [f x, g x]).flatten).length = l.length * 2 := by
  induction l with
  | nil => rfl
  | cons x l ih => simp only [List.map_cons, List.flatten_cons, List.length_append, ih, List.length_cons, List.length_nil]; omega

theorem flat2_get {α : Type} (f g : α → IV) : ∀ (l : List α) (i : Nat) (h : i < l.length), ((l.map fun x => [f x, g x]).flatten)[i * 2]? = some (f l[i]) ∧ ((l.map fun x => [f x, g x]).flatten)[i * 2 + 1]? = some (g l[i])
  | [], i, h => by simp at h
  | x :: l, 0, _ => by simp
  | x :: l, i + 1, h => by
    have ih := flat2_get f g l i (by simpa using h)
    rw [show (i + 1) * 2 = i * 2 + 1 + 1 by omega]
    simpa using ih

theorem chunks2 {α : Type} (f g : α → IV) : ∀ (l : List α), chunks 2 l.length ((l.map fun x => [f x, g x]).flatten) = l.map fun x => [f x, g x]
  | [] => rfl
  | x :: l => by simp [chunks, chunks2 f g l]

def F28 (l : List S50) : Option (List S50) := gd ((l.length : Int) ≤ 1000000 ∧ ∀ a, a ∈ l → (a.fValues.length : Int) ≤ 1000000) (some l)

set_option pp.deepTerms false in
set_option maxRecDepth 8000 in
theorem F28_ok (l : List S50) {r : List S50} (h : F28 l = some r) (hK : K (.ret (eS r)) H) : ICalls prog 28 [eS l] H K := by
  obtain ⟨⟨hl, hv⟩, h⟩ := gd_some.1 h
  cases h
  refine ICalls_vc (N := 23) func28 (by kernel_rfl) rfl (by kernel_rfl) (by kernel_rfl) fun hw hbd hnb => ?_
  have hnl := hnb (eS l) (by simp)
  simp (maxSteps := 1000000) (disch := omega) [go_sem]
  refine clone61r l hl ?_
  simp (maxSteps := 1000000) (disch := omega) [go_sem]
  by_cases hz : l = []
  · subst hz
    refine vcLoop_mk (fun tm' H' => H' = H.new (.row 2 []) ∧ tm' 0 = .os H.next 0 ∧ tm' 7 = .v (.int .i64 0) ∧ tm' 8 = .v (.int .i64 0)) (fun tm' _ => 0) (.same ?_) ?_
    · exact ⟨by simp, by simp [go_sem], by simp [go_sem], by simp [go_sem]⟩
    rintro I' μ' hI hμ tm' H' ⟨rfl, h0, h7, h8⟩
    refine vc_sound _ (by kernel_rfl) _ _ _ ?_
    simp (maxSteps := 1000000) (disch := omega) [go_sem, h0, h7, h8]
    refine retG_fz (J := H) ((Ext.refl hw).new _).endH (.row (hw _ (Nat.le_refl _)) (by simp [go_sem]) (by simp) hnl) hK
  · have hlen : 0 < l.length := List.length_pos_iff.2 hz
    refine vcLoop_mk (fun tm' H' => ∃ i : Nat, H' = (H.new (.row 2 (l.map fun x => [.v (str x.fName), .sl 1 (x.fValues.map fun x => [.v (str x)])]))).fix H.next ((l.map fun x => [.v (str x.fName), .sl 1 (x.fValues.map fun x => [.v (str x)])]).flatten) ∧ tm' 0 = .bs (H.next + 1) 0 l.length ∧ tm' 7 = .v (.int .i64 l.length) ∧ tm' 8 = .v (.int .i64 i) ∧ i ≤ l.length) (fun tm' _ => l.length - (intOf (tm' 8)).toNat)
      (UpI.gh (Gh.fixSlot (d := 0) (k := H.next) (sz := 2) (es := l.map fun x => [.v (str x.fName), .sl 1 (x.fValues.map fun x => [.v (str x)])]) (by simp [go_sem]) (by simpa using hlen) (by simp [go_sem])) (.same ?_)) ?_
    · exact ⟨0, rfl, by simp [go_sem], by simp [go_sem], by simp [go_sem], by omega⟩
    rintro I' μ' hI hμ tm' H' ⟨i, hH, h0, h7, h8, hi⟩
    obtain ⟨C, hC⟩ : ∃ C, C = (l.map fun x => [IV.v (str x.fName), IV.sl 1 (x.fValues.map fun x => [.v (str x)])]).flatten := ⟨_, rfl⟩
    have hCl : C.length = l.length * 2 := by rw [hC]; exact flat2_len _ _ l
    rw [← hC] at hH
    subst hH
    refine vc_sound _ (by kernel_rfl) _ _ _ ?_
    simp (maxSteps := 1000000) (disch := omega) [go_sem, h0, h7, h8]
    have hn2 : ¬ H.next + 1 = H.next := by omega
    refine condB ?_ ?_ <;> intro hc <;> (try simp at hc)
    · have hg := (flat2_get (fun x : S50 => IV.v (str x.fName)) (fun x => IV.sl 1 (x.fValues.map fun x => [.v (str x)])) l i hc).2
      rw [← hC] at hg
      have hg' : C[i * 2 + 1]'(by omega) = IV.sl 1 (l[i].fValues.map fun x => [.v (str x)]) := by
        rw [List.getElem?_eq_getElem (by omega)] at hg
        exact Option.some.inj hg
      simp (maxSteps := 1000000) (disch := omega) [go_sem, h0, h7, h8, hCl, hg']
      refine F56_ok l[i].fValues (gd_pos (by have := hv l[i] (List.getElem_mem _); omega)) ?_
      simp (maxSteps := 1000000) (disch := omega) [go_sem, h0, h7, h8, hCl]
      refine .of hI hμ ⟨i + 1, ?_, by simp [go_sem, h0], by simp [go_sem, h7], by simp [go_sem], by omega⟩ (by simp [go_sem, h8]; omega)
      rw [← hC]
      have e1 : List.take (i * 2 + 1) C ++ IV.sl 1 (l[i].fValues.map fun x => [.v (str x)]) :: List.drop (i * 2 + 2) C = C := by
        rw [← hg', show i * 2 + 2 = i * 2 + 1 + 1 by omega, ← List.drop_eq_getElem_cons (by omega), List.take_append_drop]
      rw [e1]
      exact (set_self (by simp [go_sem])).symm
    · simp (maxSteps := 1000000) (disch := omega) [go_sem, h0, h7, h8]
      have hcs := chunks2 (fun x : S50 => IV.v (str x.fName)) (fun x => IV.sl 1 (x.fValues.map fun x => [.v (str x)])) l
      rw [← hC] at hcs
      have hfz := Fz.bs (J := H) (H := (H.new (.row 2 (l.map fun x => [.v (str x.fName), .sl 1 (x.fValues.map fun x => [.v (str x)])]))).fix H.next C) (H.next + 1) 0 l.length 2 C C (hw _ (by omega)) (by simp [go_sem]) rfl (by omega) (by simp only [maxN]; omega) (fzs fun c hc => by
        rw [hC] at hc
        obtain ⟨e, he, hc⟩ := List.mem_flatten.1 hc
        obtain ⟨x, _, rfl⟩ := List.mem_map.1 he
        simp only [List.mem_cons, List.not_mem_nil, or_false] at hc
        rcases hc with rfl | rfl
        · exact .v _
        · exact NB_slm fun _ => NBL.cons (.v _) NBL.nil)
      rw [List.drop_zero, hcs] at hfz
      exact retG_fz (J := H) (((Ext.refl hw).new _).fix (Nat.le_refl _) C).endH hfz hK

end Go.Idl

namespace Go.Idl

open Go Go.Proofs.Tryz Go.RowKit

variable {H : IHeap} {K : IEnd → IHeap → Prop}

theorem EndG.gh {H0 H1 J : IHeap} {r r1 r' : IV} (hg : GhR r H r1 H1) (he : EndG H0 H1 r1 J r') : EndG H0 H r J r' := fun w0 g0 w g s0 m s => by
  obtain ⟨g1, m1, s1, h1⟩ := hg w g s
  obtain ⟨g2, m2, s2, h2⟩ := he w0 g0 w g1 s0 (m.tr m1 s0 s) s1
  exact ⟨g2, m2, s2, fun x hx => h2 x (h1 x hx)⟩

theorem GhR.fzMap1 {k km n sz : Nat} {es : List (List IV)} {A B : List (Value × IV)} {key : Value} (hk : H.obj k = some (.row sz es)) (hm : H.obj km = some (.map (A ++ (key, .os k n) :: B))) (hn : es.length = n) (hne : ¬ km = k) :
    GhR (.mp km) H (.mp km) ((H.del k).set km (.map (A ++ (key, .sl sz es) :: B))) := fun w g s => by
  obtain ⟨s1, m1⟩ := s.delK k
  refine ⟨_, m1, s1.retell (o := .map (A ++ (key, .os k n) :: B)) (by simp [IHeap.del, hne, hm]) rfl ?_, fun x hx => hx.mono m1⟩
  intro _
  obtain ⟨b, me, clock, h1, h2, h3⟩ := s.obj km _ hm
  refine ⟨b, me, clock, h1, h2, h3.size.trans (by simp), fun i q e' hq he' => ?_, h3.born, h3.nodup, by simpa using h3.keys⟩
  have hlt : i < (A ++ (key, IV.os k n) :: B).length := by have := (List.getElem?_eq_some_iff.1 he').1; simpa using this
  have hg := List.getElem?_eq_getElem hlt
  obtain ⟨e1, e2⟩ := h3.ent i q _ hq hg
  generalize (A ++ (key, IV.os k n) :: B)[i] = e at hg e1 e2
  rcases Nat.lt_trichotomy i A.length with hi | hi | hi
  · rw [List.getElem?_append_left hi] at hg he'
    rw [hg] at he'
    cases he'
    exact ⟨e1, s.del_R k e2⟩
  · subst hi
    rw [List.getElem?_append_right (Nat.le_refl _), Nat.sub_self] at hg he'
    simp only [List.getElem?_cons_zero, Option.some.injEq] at hg he'
    subst hg
    subst he'
    exact ⟨e1, s.del_os hk hn e2⟩
  · obtain ⟨j, rfl⟩ : ∃ j, i = A.length + (j + 1) := ⟨i - A.length - 1, by omega⟩
    rw [List.getElem?_append_right (by omega), show A.length + (j + 1) - A.length = j + 1 by omega, List.getElem?_cons_succ] at hg he'
    rw [hg] at he'
    cases he'
    exact ⟨e1, s.del_R k e2⟩

abbrev T40 := List (Str × (Nat × List Str))

def osE (p : Nat × List Str) : IV := .os p.1 p.2.length

def slE (p : Nat × List Str) : IV := .sl 1 (p.2.map fun x => [.v (str x)])

theorem GhR.fzMapL {H0 : IHeap} {km : Nat} : ∀ (b a : T40) (H : IHeap), H.obj km = some (.map (mE slE a ++ mE osE b)) → (∀ p, p ∈ b → ¬ p.2.1 = km ∧ H0.next ≤ p.2.1 ∧ H.obj p.2.1 = some (.row 1 (p.2.2.map fun x => [.v (str x)]))) → (b.map (·.2.1)).Nodup → Ext H0 H → H0.next ≤ km →
    ∃ J, GhR (.mp km) H (.mp km) J ∧ J.obj km = some (.map (mE slE (a ++ b))) ∧ Ext H0 J ∧ J.next = H.next
  | [], a, H, hm, _, _, he, _ => ⟨H, .refl _ _, by simpa [mE] using hm, he, rfl⟩
  | p :: b, a, H, hm, hr, hd, he, hkm => by
    obtain ⟨h1, h2, h3⟩ := hr p (by simp)
    have hg := GhR.fzMap1 (A := mE slE a) (B := mE osE b) (key := str p.1) (n := p.2.2.length) h3 (by simpa [mE, osE] using hm) (by simp) (fun e => h1 e.symm)
    simp only [List.map_cons, List.nodup_cons, List.mem_map, not_exists, not_and] at hd
    obtain ⟨J, g1, g2, g3, g4⟩ := GhR.fzMapL b (a ++ [p]) ((H.del p.2.1).set km (.map (mE slE a ++ (str p.1, .sl 1 (p.2.2.map fun x => [.v (str x)])) :: mE osE b))) (by simp [go_sem, mE, slE]) (fun q hq => by
      obtain ⟨q1, q2, q3⟩ := hr q (by simp [hq])
      exact ⟨q1, q2, by simp [go_sem, q1, hd.1 q hq, q3]⟩) hd.2 ((he.del h2).set hkm _) hkm
    exact ⟨J, hg.trans g1, by simpa using g2, g3, g4.trans (by simp [go_sem])⟩

theorem mget_mem {κ α : Type} [DecidableEq κ] {k : κ} {v : α} : ∀ {m : List (κ × α)}, mget m k = some v → (k, v) ∈ m
  | [], h => by simp [mget] at h
  | p :: m, h => by
    unfold mget at h
    split at h
    · rename_i e
      cases h
      subst e
      simp
    · exact List.mem_cons_of_mem _ (mget_mem h)

theorem mset_none {κ α : Type} [DecidableEq κ] {k : κ} {v : α} : ∀ {m : List (κ × α)}, mget m k = none → mset m k v = m ++ [(k, v)]
  | [], _ => rfl
  | p :: m, h => by
    unfold mget at h
    unfold mset
    split at h
    · cases h
    · rename_i e
      rw [if_neg e, mset_none h]
      rfl

theorem mset_map {κ α β : Type} [DecidableEq κ] {k : κ} {v : α} {f : α → β} : ∀ {m : List (κ × α)}, (mset m k v).map (fun p => (p.1, f p.2)) = mset (m.map fun p => (p.1, f p.2)) k (f v)
  | [] => rfl
  | p :: m => by
    simp only [mset, List.map_cons]
    split
    · rfl
    · rw [List.map_cons, mset_map]

theorem mget_map {κ α β : Type} [DecidableEq κ] {k : κ} {f : α → β} : ∀ {m : List (κ × α)}, mget (m.map fun p => (p.1, f p.2)) k = (mget m k).map f
  | [] => rfl
  | p :: m => by
    simp only [mget, List.map_cons]
    split
    · rfl
    · exact mget_map

theorem mset_names {k : Str} {nm : Nat} {o x : List Str} : ∀ {m : T40}, mget m k = some (nm, o) → (mset m k (nm, x)).map (·.2.1) = m.map (·.2.1)
  | [], h => by simp [mget] at h
  | p :: m, h => by
    unfold mget at h
    unfold mset
    split at h
    · rename_i e
      rw [if_pos e]
      have h := Option.some.inj h
      simp [h]
    · rename_i e
      rw [if_neg e, List.map_cons, List.map_cons, mset_names h]

theorem mset_mem {k : Str} {nm : Nat} {o x : List Str} : ∀ {m : T40}, mget m k = some (nm, o) → (m.map (·.2.1)).Nodup → ∀ p, p ∈ mset m k (nm, x) → p = (k, (nm, x)) ∨ (p ∈ m ∧ ¬ p.2.1 = nm)
  | [], h, _, _, _ => by simp [mget] at h
  | q :: m, h, hd, p, hp => by
    unfold mget at h
    unfold mset at hp
    simp only [List.map_cons, List.nodup_cons, List.mem_map, not_exists, not_and] at hd
    split at h
    · rename_i e
      rw [if_pos e] at hp
      have h := Option.some.inj h
      rcases List.mem_cons.1 hp with rfl | hp
      · exact .inl rfl
      · refine .inr ⟨List.mem_cons_of_mem _ hp, fun e2 => hd.1 p hp ?_⟩
        rw [e2, h]
    · rename_i e
      rw [if_neg e] at hp
      rcases List.mem_cons.1 hp with rfl | hp
      · refine .inr ⟨by simp, fun e2 => hd.1 _ (mget_mem h) ?_⟩
        exact e2.symm
      · rcases mset_mem h hd.2 p hp with h' | ⟨h1, h2⟩
        · exact .inl h'
        · exact .inr ⟨List.mem_cons_of_mem _ h1, h2⟩

section

variable {P : Program} {N : Nat} {tm : Tm} {Q : Exit → Tm → IHeap → Prop}

theorem IOps_vc1 {ops : Array Oper} {i : Nat} {l : List Nat} {o : Oper} (ho : ops[i]? = some o) (hgd : o.guard = none) (hok : okO N o = true)
    (h : vcOp P N o tm H (fun x H' => IOps P N ops l Q (updO tm o.dst x) H') (fun ch H' => Q (.panic ch) tm H')) : IOps P N ops (i :: l) Q tm H :=
  IOps_run ho (fun _ _ _ _ _ => by simp [Region.wanted, hgd]) (vcOp_sound hok h)

theorem IOper_lookupN {o : Oper} {K : IV → IHeap → Prop} {Qp : List PanicEntry → IHeap → Prop} {t kt et : TypeId} {x i : Operand} {d : TypeDesc} {k zv : Value} {m : Nat} {es : List (Value × IV)} (ho : o.op = .lookup t x i false) (hok : okO N o = true)
    (ht : P.underlying t = some (.map kt et)) (hd : P.underlying kt = some d) (hz : ∀ w, (zeroValue et).run P w = .ok zv w) (hx : ev tm x = .mp m) (hi : ev tm i = .v k) (hm : H.obj m = some (.map es)) (hk : keyOk d k = true) (hes : (es.all fun e => keyOk d e.1) = true) (hl : lkI k es = none) (hK : K (.v zv) H) : IOper P N o tm H K Qp := by
  obtain ⟨dst, op, type, pos, after, guard⟩ := o
  simp only at ho
  subst ho
  refine IOper_of (by simp) fun w g a sm ra hN => ?_
  subst hN
  simp [okO, Op.operands] at hok
  have rx := ra.ev (x := x) hok.1.1
  have ri := ra.ev (x := i) hok.1.2
  rw [hi] at ri
  have hie := ri.v_eq
  rw [hx] at rx
  obtain ⟨b, ents, clock, hxe, _, hb, he⟩ := sm.map_in (.inl hm) rx
  rcases he.rel hk hes with ⟨h1, h2, _⟩ | ⟨j, me, e, h1, h2, h3, h4, h5, h6, _⟩
  · refine ⟨_, w, g, H, _, .inl ?_, .refl w g, sm, .v zv, hK⟩
    simp only [execOp]
    rw [hxe, hie]
    simp [run_lookup ht hd hk hb h2 (hz w) false]
  · rw [hl] at h3; cases h3

end

def tabS (l : List S50) : List (Str × List Str) := l.foldl (fun m a => mset m (a.fName.map lowB) ((mget m (a.fName.map lowB)).getD [] ++ a.fValues)) []

def F40 (l : List S50) : Option (List (Str × List Str)) := gd ((l.length : Int) ≤ 1000000 ∧ (∀ a, a ∈ l → (a.fName.length : Int) ≤ 1000000) ∧ ((l.map (·.fValues)).flatten.length : Int) ≤ 1000000) (some (tabS l))

def totV (l : List S50) (i : Nat) : Nat := ((l.take i).map (·.fValues)).flatten.length

theorem totV_succ (l : List S50) (i : Nat) (h : i < l.length) : totV l (i + 1) = totV l i + l[i].fValues.length := by
  unfold totV
  rw [List.take_succ_eq_append_getElem h, List.map_append, List.flatten_append, List.length_append]
  simp only [List.map_cons, List.map_nil, List.flatten_cons, List.flatten_nil, List.append_nil]

theorem totV_le (l : List S50) (i : Nat) : totV l i ≤ (l.map (·.fValues)).flatten.length := by
  unfold totV
  rw [← List.take_append_drop i l]
  simp only [List.map_append, List.flatten_append, List.length_append]
  have : ((List.take i (List.take i l ++ List.drop i l)).map (·.fValues)).flatten.length = ((List.take i l).map (·.fValues)).flatten.length := by rw [List.take_append_drop]
  omega

theorem tabS_succ (l : List S50) (i : Nat) (h : i < l.length) : tabS (l.take (i + 1)) = mset (tabS (l.take i)) (l[i].fName.map lowB) ((mget (tabS (l.take i)) (l[i].fName.map lowB)).getD [] ++ l[i].fValues) := by
  unfold tabS
  rw [List.take_succ_eq_append_getElem h, List.foldl_append]
  rfl

set_option pp.deepTerms false in
set_option maxRecDepth 8000 in
set_option maxHeartbeats 1000000 in
theorem F40_ok (l : List S50) {r : List (Str × List Str)} (h : F40 l = some r) (hK : K (.ret (.mp H.next)) (H.new (.map (mE (fun (x : List Str) => .sl 1 (x.map fun x => [.v (str x)])) r)))) : ICalls prog 40 [eS l] H K := by
  obtain ⟨⟨hl, hnm, htot⟩, h⟩ := gd_some.1 h
  cases h
  refine ICalls_vc (N := 27) func40 (by kernel_rfl) rfl (by kernel_rfl) (by kernel_rfl) fun hw hbd hnb => ?_
  simp (maxSteps := 1000000) (disch := omega) [go_sem]
  refine vcLoop_mk (fun tm' H' => ∃ (i : Nat) (m : T40), tm' 3 = .mp H.next ∧ tm' 8 = eS l ∧ tm' 9 = .v (.int .i64 l.length) ∧ tm' 10 = .v (.int .i64 i) ∧ i ≤ l.length ∧ H.next < H'.next ∧ Ext H H' ∧ H'.obj H.next = some (.map (mE osE m)) ∧
      (∀ p, p ∈ m → H.next < p.2.1 ∧ p.2.1 < H'.next ∧ H'.obj p.2.1 = some (.row 1 (p.2.2.map fun x => [.v (str x)])) ∧ p.2.2.length ≤ totV l i) ∧ (m.map (·.2.1)).Nodup ∧ m.map (fun p => (p.1, p.2.2)) = tabS (l.take i)) (fun tm' _ => l.length - (intOf (tm' 10)).toNat) (.same ?_) ?_
  · exact ⟨0, [], by simp [go_sem], by simp [go_sem], by simp [go_sem], by simp [go_sem], by omega, by simp [go_sem], (Ext.refl hw).new _, by simp [go_sem], by simp, by simp, rfl⟩
  rintro I' μ' hI hμ tm' H' ⟨i, m, h3, h8, h9, h10, hi, hnx, he, hm, hrow, hnd, hspec⟩
  refine IWp_seqF fun cb hc1 => ?_
  refine vc_sound _ (by kernel_rfl) _ _ _ ?_
  simp (maxSteps := 1000000) (disch := omega) [go_sem, h3, h8, h9, h10]
  subst hc1
  refine IWp_seqF fun cb hc2 => ?_
  refine vc_sound _ (by kernel_rfl) _ _ _ ?_
  simp (maxSteps := 1000000) (disch := omega) [go_sem, h3, h8, h9, h10]
  refine condB ?_ ?_ <;> intro hc <;> (try simp at hc)
  · simp (maxSteps := 1000000) (disch := omega) [go_sem, h3, h8, h9, h10]
    subst hc2
    refine IWp_seqF fun cb hc3 => ?_
    refine IWp_block ?_
    refine IWp_seqF fun cb hc4 => ?_
    refine vc_sound _ (by kernel_rfl) _ _ _ ?_
    simp (maxSteps := 1000000) (disch := omega) [go_sem, h3, h8, h9, h10]
    subst hc4
    refine IWp_seqF fun cb hc5 => ?_
    refine vc_sound _ (by kernel_rfl) _ _ _ ?_
    simp (maxSteps := 1000000) (disch := omega) [go_sem, h3, h8, h9, h10]
    refine F41_ok l[i].fName (gd_pos (hnm _ (List.getElem_mem _))) ?_
    simp (maxSteps := 1000000) (disch := omega) [go_sem, h3, h8, h9, h10]
    subst hc5
    refine IWp_region ?_
    show IOps prog 27 _ [0, 1, 2, 3, 4, 5, 6, 7, 8] _ _ _
    have hb1 : ¬ H.next = H'.next := by omega
    have htl := totV_le l (i + 1)
    have hts := totV_succ l i hc
    refine IOps_vc1 rfl rfl (by kernel_rfl) ?_
    simp (maxSteps := 1000000) (disch := omega) [go_sem, h3]
    refine IOps_vc1 rfl rfl (by kernel_rfl) ?_
    simp (maxSteps := 1000000) (disch := omega) [go_sem, h3]
    refine IOps_vc1 rfl rfl (by kernel_rfl) ?_
    simp (maxSteps := 1000000) (disch := omega) [go_sem, h3]
    refine IOps_vc1 rfl rfl (by kernel_rfl) ?_
    simp (maxSteps := 1000000) (disch := omega) [go_sem, h3]
    cases hg : mget m (l[i].fName.map lowB) with
    | none =>
      have hL : lkI (str (l[i].fName.map lowB)) (mE osE m) = none := by rw [lkI_mE, hg]; rfl
      have hS : setI (str (l[i].fName.map lowB)) (.os (H'.next + 1) l[i].fValues.length) (mE osE m) = mE osE (m ++ [(l[i].fName.map lowB, (H'.next + 1, l[i].fValues))]) := by
        rw [← mset_none hg]
        exact setI_mE osE m _ (H'.next + 1, l[i].fValues)
      refine IOps_run rfl (fun _ _ _ _ _ => rfl) (IOper_lookupN (zv := .slice none 0 0) rfl (by kernel_rfl) underlying69 underlying9 (fun w => Go.Proofs.Tryz.zeroValue40 w) (by simp [go_sem]; rfl) (by simp [go_sem]) (by simp [go_sem, hb1]; exact hm) rfl (by simp [go_sem]) hL ?_)
      simp (maxSteps := 1000000) (disch := omega) [go_sem, h3]
      refine IOps_vc1 rfl rfl (by kernel_rfl) ?_
      simp (maxSteps := 1000000) (disch := omega) [go_sem, h3]
      refine IOps_vc1 rfl rfl (by kernel_rfl) ?_
      simp (maxSteps := 1000000) (disch := omega) [go_sem, h3]
      refine IOps_vc1 rfl rfl (by kernel_rfl) ?_
      simp (maxSteps := 1000000) (disch := omega) [go_sem, h3]
      refine IOps_vc1 rfl rfl (by kernel_rfl) ?_
      simp (maxSteps := 1000000) (disch := omega) [go_sem, h3, hm, hb1, hL, hS]
      refine IOps_nil ?_
      subst hc3
      simp (maxSteps := 1000000) (disch := omega) [go_sem, h3]
      refine vc_sound _ (by kernel_rfl) _ _ _ ?_
      simp (maxSteps := 1000000) (disch := omega) [go_sem, h3, h8, h9, h10]
      refine .of hI hμ ⟨i + 1, m ++ [(l[i].fName.map lowB, (H'.next + 1, l[i].fValues))], by simp [go_sem, h3], by simp [go_sem, h8], by simp [go_sem, h9], by simp [go_sem], by omega, by simp [go_sem]; omega, ?_, by simp [go_sem], ?_, ?_, ?_⟩ (by simp [go_sem, h10]; omega)
      · exact (((he.new _).set (by omega) _).new _).set (Nat.le_refl _) _
      · intro p hp
        rcases List.mem_append.1 hp with hp | hp
        · obtain ⟨q1, q2, q3, q4⟩ := hrow p hp
          have n1 : ¬ p.2.1 = H.next := by omega
          have n2 : ¬ p.2.1 = H'.next + 1 := by omega
          have n3 : ¬ p.2.1 = H'.next := by omega
          exact ⟨q1, by simp [go_sem]; omega, by simp [go_sem, n1, n2, n3, q3], by omega⟩
        · simp only [List.mem_singleton] at hp
          subst hp
          have n1 : ¬ H'.next + 1 = H.next := by omega
          exact ⟨by show H.next < H'.next + 1; omega, by simp [go_sem], by simp [go_sem, n1], by show l[i].fValues.length ≤ _; omega⟩
      · rw [List.map_append, List.nodup_append]
        refine ⟨hnd, by simp, fun a ha b hb => ?_⟩
        obtain ⟨p, hp, rfl⟩ := List.mem_map.1 ha
        simp only [List.map_cons, List.map_nil, List.mem_singleton] at hb
        subst hb
        have := (hrow p hp).2.1
        omega
      · rw [tabS_succ l i hc, List.map_append, hspec]
        have hgs : mget (tabS (l.take i)) (l[i].fName.map lowB) = none := by
          rw [← hspec]
          exact (mget_map (f := fun q : Nat × List Str => q.2)).trans (by rw [hg]; rfl)
        rw [hgs, mset_none hgs]
        rfl
    | some q =>
      obtain ⟨nm, o⟩ := q
      have hL : lkI (str (l[i].fName.map lowB)) (mE osE m) = some (.os nm o.length) := by rw [lkI_mE, hg]; rfl
      have hS : setI (str (l[i].fName.map lowB)) (.os nm (o.length + l[i].fValues.length)) (mE osE m) = mE osE (mset m (l[i].fName.map lowB) (nm, o ++ l[i].fValues)) := by
        rw [← setI_mE]
        simp [osE]
      obtain ⟨p1, p2, p3, p4⟩ := hrow _ (mget_mem hg)
      simp only at p1 p2 p3 p4
      have hb2 : ¬ nm = H'.next := by omega
      have hb3 : ¬ H.next = nm := by omega
      have hok : okI false (.sl 1 []) (some (.os nm o.length)) = .os nm o.length := by simp [okI]
      refine IOps_vc1 rfl rfl (by kernel_rfl) ?_
      simp (maxSteps := 1000000) (disch := omega) [go_sem, h3, hm, hb1, hL, hok]
      refine IOps_vc1 rfl rfl (by kernel_rfl) ?_
      simp (maxSteps := 1000000) (disch := omega) [go_sem, h3]
      refine IOps_vc1 rfl rfl (by kernel_rfl) ?_
      simp (maxSteps := 1000000) (disch := omega) [go_sem, h3]
      refine IOps_vc1 rfl rfl (by kernel_rfl) ?_
      simp (maxSteps := 1000000) (disch := omega) [go_sem, h3, hb1, hb2, hb3, p3]
      refine IOps_vc1 rfl rfl (by kernel_rfl) ?_
      simp (maxSteps := 1000000) (disch := omega) [go_sem, h3, hm, hb1, hb2, hb3, hL, hS]
      refine IOps_nil ?_
      subst hc3
      simp (maxSteps := 1000000) (disch := omega) [go_sem, h3]
      refine vc_sound _ (by kernel_rfl) _ _ _ ?_
      simp (maxSteps := 1000000) (disch := omega) [go_sem, h3, h8, h9, h10]
      refine .of hI hμ ⟨i + 1, mset m (l[i].fName.map lowB) (nm, o ++ l[i].fValues), by simp [go_sem, h3], by simp [go_sem, h8], by simp [go_sem, h9], by simp [go_sem], by omega, by simp [go_sem]; omega, ?_, by simp [go_sem], ?_, ?_, ?_⟩ (by simp [go_sem, h10]; omega)
      · exact (((he.new _).set (by omega) _).set (by omega) _).set (Nat.le_refl _) _
      · intro p hp
        rcases mset_mem hg hnd p hp with rfl | ⟨hp, hpn⟩
        · have n1 : ¬ nm = H.next := by omega
          exact ⟨p1, by show nm < _; simp [go_sem]; omega, by simp [go_sem, n1], by show (o ++ l[i].fValues).length ≤ _; rw [List.length_append]; omega⟩
        · obtain ⟨q1, q2, q3, q4⟩ := hrow p hp
          have n1 : ¬ p.2.1 = H.next := by omega
          have n3 : ¬ p.2.1 = H'.next := by omega
          exact ⟨q1, by simp [go_sem]; omega, by simp [go_sem, n1, hpn, n3, q3], by omega⟩
      · rw [mset_names hg]; exact hnd
      · rw [tabS_succ l i hc]
        have hgs : mget (tabS (l.take i)) (l[i].fName.map lowB) = some o := by
          rw [← hspec]
          exact (mget_map (f := fun q : Nat × List Str => q.2)).trans (by rw [hg]; rfl)
        rw [hgs, ← hspec]
        exact mset_map (f := fun q : Nat × List Str => q.2)
  · subst hc2
    simp (maxSteps := 1000000) (disch := omega) [go_sem, h3, h8, h9, h10]
    have e : i = l.length := by omega
    subst e
    rw [List.take_length] at hspec
    obtain ⟨J, g1, g2, g3, g4⟩ := GhR.fzMapL (H0 := H) (km := H.next) m [] H' (by simpa [mE] using hm) (fun p hp => by
      obtain ⟨q1, q2, q3, q4⟩ := hrow p hp
      exact ⟨by omega, by omega, q3⟩) hnd he (Nat.le_refl _)
    have e2 : mE slE ([] ++ m) = mE (fun (x : List Str) => .sl 1 (x.map fun x => [.v (str x)])) (tabS l) := by
      rw [← hspec]
      simp [mE, slE]
    rw [e2] at g2
    have hr := g3.endR1 (k := H.next) (o := .map (mE (fun (x : List Str) => .sl 1 (x.map fun x => [.v (str x)])) (tabS l))) (o' := .map (mE (fun (x : List Str) => .sl 1 (x.map fun x => [.v (str x)])) (tabS l))) g2 (Nat.le_refl _) (by omega) (fun J ρ => .same _ (NBo_mEL fun _ => NB_slm fun _ => NBL.cons (.v _) NBL.nil))
    refine retG_g (EndG.gh g1 (hr.endG ?_)) hK
    have h1 := Rn.mp (H := J) (J := H.new (.map (mE (fun (x : List Str) => .sl 1 (x.map fun x => [.v (str x)])) (tabS l)))) (ρ := fun i => if i = H.next then H.next else i) (m := H.next) H.next (by simp [go_sem])
    simpa using h1

end Go.Idl

namespace Go.Idl

open Go Go.Proofs.Tryz

structure S48 where
 fKind : Int
 fName : List UInt8
 fValues : List (List UInt8)

deriving DecidableEq

def S48.zero : S48 := ⟨0, [], []⟩

def S50.zero : S50 := ⟨[], []⟩

structure S100 where
 fs : List UInt8

deriving DecidableEq

def S100.zero : S100 := ⟨[]⟩

structure S102 where
 ftext : S100
 fbad : Bool

deriving DecidableEq

def S102.zero : S102 := ⟨S100.zero, false⟩

structure S112 where
 fType : List UInt8
 fValue : List UInt8

deriving DecidableEq

def S112.zero : S112 := ⟨[], []⟩

/-! cardcase/dn.within -/

noncomputable def F113 (a0 : Int) (a1 : Int) (a2 : Int) : Option Bool :=
 if a1 ≤ a0 then (some (decide (a0 ≤ a2))) else (some false)

set_option maxHeartbeats 8000000 in
set_option pp.deepTerms false in
set_option maxRecDepth 60000 in
theorem F113_ok {H : IHeap} {K : IEnd → IHeap → Prop} (a0 : Int) (a1 : Int) (a2 : Int) {r : Bool} (h : F113 a0 a1 a2 = some r) (hK : K (.ret (.v (.bool r))) H) : ICalls prog 113 [.v (.int .u8 a0), .v (.int .u8 a1), .v (.int .u8 a2)] H K := by
 refine ICalls_iwp (N := 15) func113 (by kernel_rfl) rfl (by kernel_rfl) (by kernel_rfl) fun cb hcb hw hbd hnb => ?_
 clear hbd hnb
 subst hcb
 unfold F113 at h
 refine IWp_seqF fun cb hc1 => ?_
 refine vcK ?_
 try simp -implicitDefEqProofs (maxSteps := 1000000) (disch := omega) [go_sem]
 subst hc1
 refine IWp_seqF fun cb hc2 => ?_
 refine vcK ?_
 try simp -implicitDefEqProofs (maxSteps := 1000000) (disch := omega) [go_sem]
 refine splitG_f h (by first | with_reducible rfl | (simp -implicitDefEqProofs (maxSteps := 1000000) (disch := omega) [go_sem] <;> omega)) ?_ ?_
 ·intro c3 h
  try simp -implicitDefEqProofs (disch := omega) at c3
  try simp -implicitDefEqProofs (maxSteps := 1000000) (disch := omega) [go_sem]
  subst hc2
  refine vcK ?_
  simp -implicitDefEqProofs only [go_sem]
  have er := Option.some.inj h
  subst er
  try simp -implicitDefEqProofs (maxSteps := 1000000) (disch := omega) [go_sem]
  refine retG_pureA (Ext.refl hw) hK (e := by first | with_reducible rfl | (simp -implicitDefEqProofs (maxSteps := 1000000) (disch := omega) [go_sem] <;> omega))
 ·intro c3 h
  try simp -implicitDefEqProofs (disch := omega) at c3
  try simp -implicitDefEqProofs (maxSteps := 1000000) (disch := omega) [go_sem]
  subst hc2
  refine vcK ?_
  simp -implicitDefEqProofs only [go_sem]
  have er := Option.some.inj h
  subst er
  try simp -implicitDefEqProofs (maxSteps := 1000000) (disch := omega) [go_sem]
  refine retG_pureA (Ext.refl hw) hK (e := by first | with_reducible rfl | (simp -implicitDefEqProofs (maxSteps := 1000000) (disch := omega) [go_sem] <;> omega))

/-! cardcase/dn.name -/

noncomputable def F103_k5 (a0 : List UInt8) : Option Bool :=
 if 1 ≤ (a0.length : Int) then (some (decide ((a0.length : Int) ≤ 64))) else (some false)

noncomputable def F103_b5 (a0 : List UInt8) (v6 : Int) : Option (Int ⊕ (Unit ⊕ Bool)) :=
 if v6 < (a0.length : Int) then (gd (0 ≤ v6 ∧ v6 < a0.length) ((F113 (((a0.getD v6.toNat 0).toNat : Int)) 97 122).bind fun (x16 : Bool) => if ¬ (x16 = true) then ((F113 (((a0.getD v6.toNat 0).toNat : Int)) 65 90).bind fun (x17 : Bool) => if ¬ (x17 = true) then (if v6 = 0 then (some (.inr (.inr false))) else ((F113 (((a0.getD v6.toNat 0).toNat : Int)) 48 57).bind fun (x19 : Bool) => if ¬ (x19 = true) then (if ¬ (((a0.getD v6.toNat 0).toNat : Int)) = 45 then (some (.inr (.inr false))) else (some (.inl (IntKind.i64.wrap (v6 + 1))))) else (some (.inl (IntKind.i64.wrap (v6 + 1)))))) else (some (.inl (IntKind.i64.wrap (v6 + 1))))) else (some (.inl (IntKind.i64.wrap (v6 + 1)))))) else (some (.inr (.inl ())))

noncomputable def F103 (a0 : List UInt8) : Option Bool :=
 gd ((a0.length : Int) ≤ 9223372036854775807) ((loopO (fun (s : Int) => F103_b5 a0 s) 0).bind fun y => Sum.elim (fun (e : Unit) => F103_k5 a0) (fun (q : Bool) => some q) y)

set_option maxHeartbeats 8000000 in
set_option pp.deepTerms false in
set_option maxRecDepth 60000 in
theorem F103_ok {H : IHeap} {K : IEnd → IHeap → Prop} (a0 : List UInt8) {r : Bool} (h : F103 a0 = some r) (hK : K (.ret (.v (.bool r))) H) : ICalls prog 103 [.v (str a0)] H K := by
 refine ICalls_iwp (N := 43) func103 (by kernel_rfl) rfl (by kernel_rfl) (by kernel_rfl) fun cb hcb hw hbd hnb => ?_
 clear hbd hnb
 subst hcb
 unfold F103 at h
 refine IWp_seqF fun cb hc1 => ?_
 refine vcK ?_
 try simp -implicitDefEqProofs (maxSteps := 1000000) (disch := omega) [go_sem]
 subst hc1
 refine IWp_seqF fun cb hc2 => ?_
 refine IWp_seqF fun cb hc3 => ?_
 refine vcK ?_
 obtain ⟨g4, h⟩ := gd_some.1 h
 try simp -implicitDefEqProofs (disch := omega) at g4
 try simp -implicitDefEqProofs (maxSteps := 1000000) (disch := omega) [go_sem]
 refine IOper_toB a0 rfl (by kernel_rfl) underlying9 underlying89 underlying5 (by first | with_reducible rfl | (simp -implicitDefEqProofs (maxSteps := 1000000) (disch := omega) [go_sem]; done) | rfl) (by first | omega | decide | (simp; omega)) ?_
 try simp -implicitDefEqProofs (maxSteps := 1000000) (disch := omega) [go_sem]
 subst hc3
 obtain ⟨y5, hl5q, hk5⟩ := bind_some' h
 refine IWp_tailC (fun tm' H' => .inl () = y5 ∧ H = H' ∧ tm' 0 = .v (str a0)) ?_ fun cb hc5 => ?_
 ·rintro tm5e H5e ⟨rfl, rfl, t0_5e⟩
  have h : F103_k5 a0 = some r := hk5
  unfold F103_k5 at h
  simp -implicitDefEqProofs only [go_sem]
  subst hc2
  refine IWp_seqF fun cb hc7 => ?_
  refine vcK ?_
  try simp -implicitDefEqProofs (maxSteps := 1000000) (disch := omega) [go_sem, t0_5e]
  refine splitG_f h (by first | with_reducible rfl | (simp -implicitDefEqProofs (maxSteps := 1000000) (disch := omega) [go_sem, t0_5e] <;> omega)) ?_ ?_
  ·intro c8 h
   try simp -implicitDefEqProofs (disch := omega) at c8
   try simp -implicitDefEqProofs (maxSteps := 1000000) (disch := omega) [go_sem, t0_5e]
   subst hc7
   refine vcK ?_
   simp -implicitDefEqProofs only [go_sem]
   have er := Option.some.inj h
   subst er
   try simp -implicitDefEqProofs (maxSteps := 1000000) (disch := omega) [go_sem, t0_5e]
   refine retG_pureA (Ext.refl hw) hK (e := by first | with_reducible rfl | (simp -implicitDefEqProofs (maxSteps := 1000000) (disch := omega) [go_sem, t0_5e] <;> omega))
  ·intro c8 h
   try simp -implicitDefEqProofs (disch := omega) at c8
   try simp -implicitDefEqProofs (maxSteps := 1000000) (disch := omega) [go_sem, t0_5e]
   subst hc7
   refine vcK ?_
   simp -implicitDefEqProofs only [go_sem]
   have er := Option.some.inj h
   subst er
   try simp -implicitDefEqProofs (maxSteps := 1000000) (disch := omega) [go_sem, t0_5e]
   refine retG_pureA (Ext.refl hw) hK (e := by first | with_reducible rfl | (simp -implicitDefEqProofs (maxSteps := 1000000) (disch := omega) [go_sem, t0_5e] <;> omega))
 ·refine IWp_block ?_
  refine IWp_loopF (fun (s : Int) tm' H' => H = H' ∧ tm' 0 = .v (str a0) ∧ tm' 6 = .sl 1 (a0.map fun x => [.v (.int .u8 x.toNat)]) ∧ tm' 7 = .v (.int .i64 (a0.length : Int)) ∧ tm' 8 = .v (.int .i64 s)) hl5q ?_ ?_
  ·refine .same ⟨rfl, ?_, ?_, ?_, ?_⟩ <;> first | with_reducible rfl | with_reducible assumption | (simp -implicitDefEqProofs (maxSteps := 1000000) (disch := omega) [go_sem] <;> omega)
  ·rintro I5 hI5 v6 x5 tm5 H5 ⟨rfl, t0_5, t6_5, t7_5, t8_5⟩ h hret5
   replace h : F103_b5 a0 v6 = some x5 := h
   unfold F103_b5 at h
   refine IWp_seqF fun cb hc9 => ?_
   refine vcK ?_
   try simp -implicitDefEqProofs (maxSteps := 1000000) (disch := omega) [go_sem, t0_5, t6_5, t7_5, t8_5]
   subst hc9
   refine IWp_seqF fun cb hc10 => ?_
   refine IWp_cond_i h (by first | with_reducible rfl | (simp -implicitDefEqProofs (maxSteps := 1000000) (disch := omega) [go_sem, t0_5, t6_5, t7_5, t8_5] <;> omega)) rfl ?_ ?_
   ·intro c11 h
    try simp -implicitDefEqProofs (disch := omega) at c11
    refine vcK ?_
    simp -implicitDefEqProofs only [go_sem]
    subst hc10
    refine IWp_seqF fun cb hc12 => ?_
    refine IWp_block ?_
    refine IWp_seqF fun cb hc13 => ?_
    refine vcK ?_
    obtain ⟨g14, h⟩ := gd_some.1 h
    try simp -implicitDefEqProofs (disch := omega) at g14
    try simp -implicitDefEqProofs (maxSteps := 1000000) (disch := omega) [go_sem, t0_5, t6_5, t7_5, t8_5]
    subst hc13
    refine IWp_seqF fun cb hc15 => ?_
    refine vcK ?_
    try simp -implicitDefEqProofs (maxSteps := 1000000) (disch := omega) [go_sem, t0_5, t6_5, t7_5, t8_5]
    obtain ⟨x16, hx16, h⟩ := bind_some' h
    refine ICalls.eqA (args' := [.v (.int .u8 (((a0.getD v6.toNat 0).toNat : Int))), .v (.int .u8 97), .v (.int .u8 122)]) (by first | with_reducible rfl | (simp -implicitDefEqProofs (maxSteps := 1000000) (disch := omega) [go_sem, t0_5, t6_5, t7_5, t8_5] <;> omega)) (F113_ok (((a0.getD v6.toNat 0).toNat : Int)) 97 122 hx16 ?_)
    try simp -implicitDefEqProofs (maxSteps := 1000000) (disch := omega) [go_sem, t0_5, t6_5, t7_5, t8_5]
    refine splitG_f h (by first | with_reducible rfl | (simp -implicitDefEqProofs (maxSteps := 1000000) (disch := omega) [go_sem, t0_5, t6_5, t7_5, t8_5] <;> omega)) ?_ ?_
    ·intro c25 h
     try simp -implicitDefEqProofs (disch := omega) at c25
     try simp -implicitDefEqProofs (maxSteps := 1000000) (disch := omega) [go_sem, t0_5, t6_5, t7_5, t8_5]
     obtain ⟨x17, hx17, h⟩ := bind_some' h
     refine ICalls.eqA (args' := [.v (.int .u8 (((a0.getD v6.toNat 0).toNat : Int))), .v (.int .u8 65), .v (.int .u8 90)]) (by first | with_reducible rfl | (simp -implicitDefEqProofs (maxSteps := 1000000) (disch := omega) [go_sem, t0_5, t6_5, t7_5, t8_5] <;> omega)) (F113_ok (((a0.getD v6.toNat 0).toNat : Int)) 65 90 hx17 ?_)
     try simp -implicitDefEqProofs (maxSteps := 1000000) (disch := omega) [go_sem, t0_5, t6_5, t7_5, t8_5]
     refine splitG_f h (by first | with_reducible rfl | (simp -implicitDefEqProofs (maxSteps := 1000000) (disch := omega) [go_sem, t0_5, t6_5, t7_5, t8_5] <;> omega)) ?_ ?_
     ·intro c24 h
      try simp -implicitDefEqProofs (disch := omega) at c24
      try simp -implicitDefEqProofs (maxSteps := 1000000) (disch := omega) [go_sem, t0_5, t6_5, t7_5, t8_5]
      refine splitG_f h (by first | with_reducible rfl | (simp -implicitDefEqProofs (maxSteps := 1000000) (disch := omega) [go_sem, t0_5, t6_5, t7_5, t8_5] <;> omega)) ?_ ?_
      ·intro c23 h
       try simp -implicitDefEqProofs (disch := omega) at c23
       try simp -implicitDefEqProofs (maxSteps := 1000000) (disch := omega) [go_sem, t0_5, t6_5, t7_5, t8_5]
       subst hc15
       refine IWp_cond_t (by first | with_reducible rfl | (simp -implicitDefEqProofs (maxSteps := 1000000) (disch := omega) [go_sem, t0_5, t6_5, t7_5, t8_5] <;> omega)) rfl ?_
       refine IWp_seqF fun cb hc18 => ?_
       refine vcK ?_
       try simp -implicitDefEqProofs (maxSteps := 1000000) (disch := omega) [go_sem, t0_5, t6_5, t7_5, t8_5]
       subst hc18
       refine vcK ?_
       simp -implicitDefEqProofs only [go_sem]
       have e5 := Option.some.inj h
       subst e5
       have e5 := hret5 _ rfl
       subst e5
       replace h : some false = some r := hk5
       have er := Option.some.inj h
       subst er
       try simp -implicitDefEqProofs (maxSteps := 1000000) (disch := omega) [go_sem, t0_5, t6_5, t7_5, t8_5]
       refine retG_pureA (Ext.refl hw) hK (e := by first | with_reducible rfl | (simp -implicitDefEqProofs (maxSteps := 1000000) (disch := omega) [go_sem, t0_5, t6_5, t7_5, t8_5] <;> omega))
      ·intro c23 h
       try simp -implicitDefEqProofs (disch := omega) at c23
       try simp -implicitDefEqProofs (maxSteps := 1000000) (disch := omega) [go_sem, t0_5, t6_5, t7_5, t8_5]
       obtain ⟨x19, hx19, h⟩ := bind_some' h
       refine ICalls.eqA (args' := [.v (.int .u8 (((a0.getD v6.toNat 0).toNat : Int))), .v (.int .u8 48), .v (.int .u8 57)]) (by first | with_reducible rfl | (simp -implicitDefEqProofs (maxSteps := 1000000) (disch := omega) [go_sem, t0_5, t6_5, t7_5, t8_5] <;> omega)) (F113_ok (((a0.getD v6.toNat 0).toNat : Int)) 48 57 hx19 ?_)
       try simp -implicitDefEqProofs (maxSteps := 1000000) (disch := omega) [go_sem, t0_5, t6_5, t7_5, t8_5]
       refine splitG_f h (by first | with_reducible rfl | (simp -implicitDefEqProofs (maxSteps := 1000000) (disch := omega) [go_sem, t0_5, t6_5, t7_5, t8_5] <;> omega)) ?_ ?_
       ·intro c22 h
        try simp -implicitDefEqProofs (disch := omega) at c22
        try simp -implicitDefEqProofs (maxSteps := 1000000) (disch := omega) [go_sem, t0_5, t6_5, t7_5, t8_5]
        subst hc15
        refine IWp_cond_i h (by first | with_reducible rfl | (simp -implicitDefEqProofs (maxSteps := 1000000) (disch := omega) [go_sem, t0_5, t6_5, t7_5, t8_5] <;> omega)) rfl ?_ ?_
        ·intro c20 h
         try simp -implicitDefEqProofs (disch := omega) at c20
         refine IWp_seqF fun cb hc21 => ?_
         refine vcK ?_
         try simp -implicitDefEqProofs (maxSteps := 1000000) (disch := omega) [go_sem, t0_5, t6_5, t7_5, t8_5]
         subst hc21
         refine vcK ?_
         simp -implicitDefEqProofs only [go_sem]
         have e5 := Option.some.inj h
         subst e5
         have e5 := hret5 _ rfl
         subst e5
         replace h : some false = some r := hk5
         have er := Option.some.inj h
         subst er
         try simp -implicitDefEqProofs (maxSteps := 1000000) (disch := omega) [go_sem, t0_5, t6_5, t7_5, t8_5]
         refine retG_pureA (Ext.refl hw) hK (e := by first | with_reducible rfl | (simp -implicitDefEqProofs (maxSteps := 1000000) (disch := omega) [go_sem, t0_5, t6_5, t7_5, t8_5] <;> omega))
        ·intro c20 h
         try simp -implicitDefEqProofs (disch := omega) at c20
         refine vcK ?_
         simp -implicitDefEqProofs only [go_sem]
         subst hc12
         refine vcK ?_
         try simp -implicitDefEqProofs (maxSteps := 1000000) (disch := omega) [go_sem, t0_5, t6_5, t7_5, t8_5]
         have e5 := Option.some.inj h
         subst e5
         refine loopN_mk hI5 (IntKind.i64.wrap (v6 + 1)) ?_
         refine .same ⟨rfl, ?_, ?_, ?_, ?_⟩ <;> first | with_reducible rfl | with_reducible assumption | (simp -implicitDefEqProofs (maxSteps := 1000000) (disch := omega) [go_sem, t0_5, t6_5, t7_5, t8_5] <;> omega)
       ·intro c22 h
        try simp -implicitDefEqProofs (disch := omega) at c22
        try simp -implicitDefEqProofs (maxSteps := 1000000) (disch := omega) [go_sem, t0_5, t6_5, t7_5, t8_5]
        subst hc15
        refine IWp_cond_f (by first | with_reducible rfl | (simp -implicitDefEqProofs (maxSteps := 1000000) (disch := omega) [go_sem, t0_5, t6_5, t7_5, t8_5] <;> omega)) rfl ?_
        refine vcK ?_
        simp -implicitDefEqProofs only [go_sem]
        subst hc12
        refine vcK ?_
        try simp -implicitDefEqProofs (maxSteps := 1000000) (disch := omega) [go_sem, t0_5, t6_5, t7_5, t8_5]
        have e5 := Option.some.inj h
        subst e5
        refine loopN_mk hI5 (IntKind.i64.wrap (v6 + 1)) ?_
        refine .same ⟨rfl, ?_, ?_, ?_, ?_⟩ <;> first | with_reducible rfl | with_reducible assumption | (simp -implicitDefEqProofs (maxSteps := 1000000) (disch := omega) [go_sem, t0_5, t6_5, t7_5, t8_5] <;> omega)
     ·intro c24 h
      try simp -implicitDefEqProofs (disch := omega) at c24
      try simp -implicitDefEqProofs (maxSteps := 1000000) (disch := omega) [go_sem, t0_5, t6_5, t7_5, t8_5]
      subst hc15
      refine IWp_cond_f (by first | with_reducible rfl | (simp -implicitDefEqProofs (maxSteps := 1000000) (disch := omega) [go_sem, t0_5, t6_5, t7_5, t8_5] <;> omega)) rfl ?_
      refine vcK ?_
      simp -implicitDefEqProofs only [go_sem]
      subst hc12
      refine vcK ?_
      try simp -implicitDefEqProofs (maxSteps := 1000000) (disch := omega) [go_sem, t0_5, t6_5, t7_5, t8_5]
      have e5 := Option.some.inj h
      subst e5
      refine loopN_mk hI5 (IntKind.i64.wrap (v6 + 1)) ?_
      refine .same ⟨rfl, ?_, ?_, ?_, ?_⟩ <;> first | with_reducible rfl | with_reducible assumption | (simp -implicitDefEqProofs (maxSteps := 1000000) (disch := omega) [go_sem, t0_5, t6_5, t7_5, t8_5] <;> omega)
    ·intro c25 h
     try simp -implicitDefEqProofs (disch := omega) at c25
     try simp -implicitDefEqProofs (maxSteps := 1000000) (disch := omega) [go_sem, t0_5, t6_5, t7_5, t8_5]
     subst hc15
     refine IWp_cond_f (by first | with_reducible rfl | (simp -implicitDefEqProofs (maxSteps := 1000000) (disch := omega) [go_sem, t0_5, t6_5, t7_5, t8_5] <;> omega)) rfl ?_
     refine vcK ?_
     simp -implicitDefEqProofs only [go_sem]
     subst hc12
     refine vcK ?_
     try simp -implicitDefEqProofs (maxSteps := 1000000) (disch := omega) [go_sem, t0_5, t6_5, t7_5, t8_5]
     have e5 := Option.some.inj h
     subst e5
     refine loopN_mk hI5 (IntKind.i64.wrap (v6 + 1)) ?_
     refine .same ⟨rfl, ?_, ?_, ?_, ?_⟩ <;> first | with_reducible rfl | with_reducible assumption | (simp -implicitDefEqProofs (maxSteps := 1000000) (disch := omega) [go_sem, t0_5, t6_5, t7_5, t8_5] <;> omega)
   ·intro c11 h
    try simp -implicitDefEqProofs (disch := omega) at c11
    refine vcK ?_
    simp -implicitDefEqProofs only [go_sem]
    have e5 := Option.some.inj h
    subst e5
    have hy5 := hret5 _ rfl
    refine hc5 _ _ ?_
    refine .same ⟨hy5, rfl, by first | with_reducible rfl | with_reducible assumption | (simp -implicitDefEqProofs (maxSteps := 1000000) (disch := omega) [go_sem, t0_5, t6_5, t7_5, t8_5] <;> omega)⟩

/-! cardcase/dn.Check$1 -/

noncomputable def F102 (a0 : S112) : Option Bool :=
 (F103 a0.fType).bind fun (x3 : Bool) => if x3 = true then ((F41 a0.fType).bind fun (x4 : (List UInt8)) => if x4 = a0.fType then (if 1 ≤ (a0.fValue.length : Int) then (some (decide ((a0.fValue.length : Int) ≤ 200))) else (some false)) else (some false)) else (some false)

set_option maxHeartbeats 8000000 in
set_option pp.deepTerms false in
set_option maxRecDepth 60000 in
theorem F102_ok {H : IHeap} {K : IEnd → IHeap → Prop} (a0 : S112) {r : Bool} (h : F102 a0 = some r) (hK : K (.ret (.v (.bool r))) H) : ICalls prog 102 [.ag ([.v (str a0.fType), .v (str a0.fValue)])] H K := by
 refine ICalls_iwp (N := 26) func102 (by kernel_rfl) rfl (by kernel_rfl) (by kernel_rfl) fun cb hcb hw hbd hnb => ?_
 clear hbd hnb
 subst hcb
 unfold F102 at h
 refine IWp_seqF fun cb hc1 => ?_
 refine vcK ?_
 try simp -implicitDefEqProofs (maxSteps := 1000000) (disch := omega) [go_sem]
 subst hc1
 refine IWp_seqF fun cb hc2 => ?_
 refine IWp_drawP [2, 6] [0, 1, 2, 3, 4, 5, 6, 7, 8, 9, 10, 11, 12, 13, 14, 15, 16, 17, 18, 19, 20, 21, 22, 23] (by kernel_rfl) (by kernel_rfl) (fun _ _ _ _ h => h) ?_
 try simp -implicitDefEqProofs (maxSteps := 1000000) (disch := omega) [go_sem]
 obtain ⟨x3, hx3, h⟩ := bind_some' h
 refine PureC.mk _ (fun _ _ hK => ICalls.eqA (args' := [.v (str a0.fType)]) (by first | with_reducible rfl | (simp -implicitDefEqProofs (maxSteps := 1000000) (disch := omega) [go_sem] <;> omega)) (F103_ok a0.fType hx3 hK)) ?_
 try simp -implicitDefEqProofs (maxSteps := 1000000) (disch := omega) [go_sem]
 refine splitG_f h (by first | with_reducible rfl | (simp -implicitDefEqProofs (maxSteps := 1000000) (disch := omega) [go_sem] <;> omega)) ?_ ?_
 ·intro c7 h
  try simp -implicitDefEqProofs (disch := omega) at c7
  try simp -implicitDefEqProofs (maxSteps := 1000000) (disch := omega) [go_sem]
  obtain ⟨x4, hx4, h⟩ := bind_some' h
  refine PureC.mk _ (fun _ _ hK => ICalls.eqA (args' := [.v (str a0.fType)]) (by first | with_reducible rfl | (simp -implicitDefEqProofs (maxSteps := 1000000) (disch := omega) [go_sem] <;> omega)) (F41_ok a0.fType hx4 hK)) ?_
  try simp -implicitDefEqProofs (maxSteps := 1000000) (disch := omega) [go_sem]
  refine splitG_f h (by first | with_reducible rfl | (simp -implicitDefEqProofs (maxSteps := 1000000) (disch := omega) [go_sem] <;> omega)) ?_ ?_
  ·intro c6 h
   try simp -implicitDefEqProofs (disch := omega) at c6
   try simp -implicitDefEqProofs (maxSteps := 1000000) (disch := omega) [go_sem]
   refine splitG_f h (by first | with_reducible rfl | (simp -implicitDefEqProofs (maxSteps := 1000000) (disch := omega) [go_sem] <;> omega)) ?_ ?_
   ·intro c5 h
    try simp -implicitDefEqProofs (disch := omega) at c5
    try simp -implicitDefEqProofs (maxSteps := 1000000) (disch := omega) [go_sem]
    subst hc2
    refine vcK ?_
    simp -implicitDefEqProofs only [go_sem]
    have er := Option.some.inj h
    subst er
    try simp -implicitDefEqProofs (maxSteps := 1000000) (disch := omega) [go_sem]
    refine retG_pureA (Ext.refl hw) hK (e := by first | with_reducible rfl | (simp -implicitDefEqProofs (maxSteps := 1000000) (disch := omega) [go_sem] <;> omega))
   ·intro c5 h
    try simp -implicitDefEqProofs (disch := omega) at c5
    try simp -implicitDefEqProofs (maxSteps := 1000000) (disch := omega) [go_sem]
    subst hc2
    refine vcK ?_
    simp -implicitDefEqProofs only [go_sem]
    have er := Option.some.inj h
    subst er
    try simp -implicitDefEqProofs (maxSteps := 1000000) (disch := omega) [go_sem]
    refine retG_pureA (Ext.refl hw) hK (e := by first | with_reducible rfl | (simp -implicitDefEqProofs (maxSteps := 1000000) (disch := omega) [go_sem] <;> omega))
  ·intro c6 h
   try simp -implicitDefEqProofs (disch := omega) at c6
   try simp -implicitDefEqProofs (maxSteps := 1000000) (disch := omega) [go_sem]
   subst hc2
   refine vcK ?_
   simp -implicitDefEqProofs only [go_sem]
   have er := Option.some.inj h
   subst er
   try simp -implicitDefEqProofs (maxSteps := 1000000) (disch := omega) [go_sem]
   refine retG_pureA (Ext.refl hw) hK (e := by first | with_reducible rfl | (simp -implicitDefEqProofs (maxSteps := 1000000) (disch := omega) [go_sem] <;> omega))
 ·intro c7 h
  try simp -implicitDefEqProofs (disch := omega) at c7
  try simp -implicitDefEqProofs (maxSteps := 1000000) (disch := omega) [go_sem]
  subst hc2
  refine vcK ?_
  simp -implicitDefEqProofs only [go_sem]
  have er := Option.some.inj h
  subst er
  try simp -implicitDefEqProofs (maxSteps := 1000000) (disch := omega) [go_sem]
  refine retG_pureA (Ext.refl hw) hK (e := by first | with_reducible rfl | (simp -implicitDefEqProofs (maxSteps := 1000000) (disch := omega) [go_sem] <;> omega))

/-! cardcase/dn.each[cardcase/api.Rdn]$1 -/

noncomputable def F115 (a0 : S112) : Option Bool :=
 (F102 a0).bind fun (x3 : Bool) => some (!x3)

set_option maxHeartbeats 8000000 in
set_option pp.deepTerms false in
set_option maxRecDepth 60000 in
theorem F115_ok {H : IHeap} {K : IEnd → IHeap → Prop} (a0 : S112) (ka1 : Nat) (oka1 : H.obj ka1 = some (.cells ([.v (.func (.func 102) #[] #[])]))) {r : Bool} (h : F115 a0 = some r) (hK : K (.ret (.v (.bool r))) H) : ICalls prog 115 [.ag ([.v (str a0.fType), .v (str a0.fValue)]), .p ka1 0] H K := by
 refine ICalls_iwp (N := 8) func115 (by kernel_rfl) rfl (by kernel_rfl) (by kernel_rfl) fun cb hcb hw hbd hnb => ?_
 clear hbd hnb
 subst hcb
 unfold F115 at h
 have hka1 : ka1 < H.next := Nat.lt_of_not_le fun q => by rw [hw _ q] at oka1; cases oka1
 refine IWp_seqF fun cb hc1 => ?_
 refine vcK ?_
 try simp -implicitDefEqProofs (maxSteps := 1000000) (disch := omega) [go_sem, oka1]
 subst hc1
 refine IWp_seqF fun cb hc2 => ?_
 refine vcK ?_
 try simp -implicitDefEqProofs (maxSteps := 1000000) (disch := omega) [go_sem, oka1]
 obtain ⟨x3, hx3, h⟩ := bind_some' h
 refine ICalls.eqA (args' := [.ag ([.v (str a0.fType), .v (str a0.fValue)])]) (by first | with_reducible rfl | (simp -implicitDefEqProofs (maxSteps := 1000000) (disch := omega) [go_sem, oka1] <;> omega)) (F102_ok a0 hx3 ?_)
 try simp -implicitDefEqProofs (maxSteps := 1000000) (disch := omega) [go_sem, oka1]
 subst hc2
 refine vcK ?_
 simp -implicitDefEqProofs only [go_sem]
 have er := Option.some.inj h
 subst er
 try simp -implicitDefEqProofs (maxSteps := 1000000) (disch := omega) [go_sem, oka1]
 refine retG_pureA (Ext.refl hw) hK (e := by first | with_reducible rfl | (simp -implicitDefEqProofs (maxSteps := 1000000) (disch := omega) [go_sem, oka1] <;> omega))

/-! slices.IndexFunc[[]cardcase/api.Rdn,cardcase/api.Rdn] -/

noncomputable def F129_k4  : Option Int :=
 some (-1)

noncomputable def F129_b4 (a0 : List S112) (v5 : Int) : Option (Int ⊕ (Unit ⊕ Int)) :=
 if v5 < (a0.length : Int) then (gd (0 ≤ v5 ∧ v5 < a0.length) ((F115 (a0.getD v5.toNat S112.zero)).bind fun (x14 : Bool) => if x14 = true then (some (.inr (.inr v5))) else (some (.inl (IntKind.i64.wrap (v5 + 1)))))) else (some (.inr (.inl ())))

noncomputable def F129 (a0 : List S112) : Option Int :=
 (loopO (fun (s : Int) => F129_b4 a0 s) 0).bind fun y => Sum.elim (fun (e : Unit) => F129_k4) (fun (q : Int) => some q) y

set_option maxHeartbeats 8000000 in
set_option pp.deepTerms false in
set_option maxRecDepth 60000 in
theorem F129_ok {H : IHeap} {K : IEnd → IHeap → Prop} (a0 : List S112) (ka1_0 : Nat) (oka1_0 : H.obj ka1_0 = some (.cells ([.v (.func (.func 102) #[] #[])]))) {r : Int} (h : F129 a0 = some r) (hK : K (.ret (.v (.int .i64 r))) H) : ICalls prog 129 [.sl 2 (a0.map fun x => [.v (str x.fType), .v (str x.fValue)]), .fn (.func 115) [] [.p ka1_0 0]] H K := by
 refine ICalls_iwp (N := 19) func129 (by kernel_rfl) rfl (by kernel_rfl) (by kernel_rfl) fun cb hcb hw hbd hnb => ?_
 clear hbd hnb
 subst hcb
 unfold F129 at h
 have hka1_0 : ka1_0 < H.next := Nat.lt_of_not_le fun q => by rw [hw _ q] at oka1_0; cases oka1_0
 refine IWp_seqF fun cb hc1 => ?_
 refine vcK ?_
 try simp -implicitDefEqProofs (maxSteps := 1000000) (disch := omega) [go_sem, oka1_0]
 subst hc1
 refine IWp_seqF fun cb hc2 => ?_
 refine IWp_seqF fun cb hc3 => ?_
 refine vcK ?_
 try simp -implicitDefEqProofs (maxSteps := 1000000) (disch := omega) [go_sem, oka1_0]
 subst hc3
 obtain ⟨y4, hl4q, hk4⟩ := bind_some' h
 refine IWp_tailC (fun tm' H' => .inl () = y4 ∧ H = H') ?_ fun cb hc4 => ?_
 ·rintro tm4e H4e ⟨rfl, rfl⟩
  have h : F129_k4 = some r := hk4
  unfold F129_k4 at h
  simp -implicitDefEqProofs only [go_sem]
  subst hc2
  refine IWp_seqF fun cb hc6 => ?_
  refine vcK ?_
  try simp -implicitDefEqProofs (maxSteps := 1000000) (disch := omega) [go_sem, oka1_0]
  subst hc6
  refine vcK ?_
  simp -implicitDefEqProofs only [go_sem]
  have er := Option.some.inj h
  subst er
  try simp -implicitDefEqProofs (maxSteps := 1000000) (disch := omega) [go_sem, oka1_0]
  refine retG_pureA (Ext.refl hw) hK (e := by first | with_reducible rfl | (simp -implicitDefEqProofs (maxSteps := 1000000) (disch := omega) [go_sem, oka1_0] <;> omega))
 ·refine IWp_block ?_
  refine IWp_loopF (fun (s : Int) tm' H' => H = H' ∧ tm' 0 = .sl 2 (a0.map fun x => [.v (str x.fType), .v (str x.fValue)]) ∧ tm' 1 = .fn (.func 115) [] [.p ka1_0 0] ∧ tm' 7 = .v (.int .i64 (a0.length : Int)) ∧ tm' 8 = .v (.int .i64 s)) hl4q ?_ ?_
  ·refine .same ⟨rfl, ?_, ?_, ?_, ?_⟩ <;> first | with_reducible rfl | with_reducible assumption | (simp -implicitDefEqProofs (maxSteps := 1000000) (disch := omega) [go_sem, oka1_0] <;> omega)
  ·rintro I4 hI4 v5 x4 tm4 H4 ⟨rfl, t0_4, t1_4, t7_4, t8_4⟩ h hret4
   replace h : F129_b4 a0 v5 = some x4 := h
   unfold F129_b4 at h
   refine IWp_seqF fun cb hc7 => ?_
   refine vcK ?_
   try simp -implicitDefEqProofs (maxSteps := 1000000) (disch := omega) [go_sem, t0_4, t1_4, t7_4, t8_4, oka1_0]
   subst hc7
   refine IWp_seqF fun cb hc8 => ?_
   refine IWp_cond_i h (by first | with_reducible rfl | (simp -implicitDefEqProofs (maxSteps := 1000000) (disch := omega) [go_sem, t0_4, t1_4, t7_4, t8_4, oka1_0] <;> omega)) rfl ?_ ?_
   ·intro c9 h
    try simp -implicitDefEqProofs (disch := omega) at c9
    refine vcK ?_
    simp -implicitDefEqProofs only [go_sem]
    subst hc8
    refine IWp_seqF fun cb hc10 => ?_
    refine IWp_block ?_
    refine IWp_seqF fun cb hc11 => ?_
    refine vcK ?_
    try simp -implicitDefEqProofs (maxSteps := 1000000) (disch := omega) [go_sem, t0_4, t1_4, t7_4, t8_4, oka1_0]
    subst hc11
    refine IWp_seqF fun cb hc12 => ?_
    refine vcK ?_
    obtain ⟨g13, h⟩ := gd_some.1 h
    try simp -implicitDefEqProofs (disch := omega) at g13
    try simp -implicitDefEqProofs (maxSteps := 1000000) (disch := omega) [go_sem, t0_4, t1_4, t7_4, t8_4, oka1_0]
    obtain ⟨x14, hx14, h⟩ := bind_some' h
    refine ICalls.eqA (args' := [.ag ([.v (str ((a0.getD v5.toNat S112.zero).fType)), .v (str ((a0.getD v5.toNat S112.zero).fValue))]), .p ka1_0 0]) (by first | with_reducible rfl | (simp -implicitDefEqProofs (maxSteps := 1000000) (disch := omega) [go_sem, t0_4, t1_4, t7_4, t8_4, oka1_0] <;> omega)) (F115_ok (a0.getD v5.toNat S112.zero) ka1_0 (by first | with_reducible assumption | simp -implicitDefEqProofs (maxSteps := 1000000) (disch := omega) [go_sem, t0_4, t1_4, t7_4, t8_4, oka1_0]) hx14 ?_)
    try simp -implicitDefEqProofs (maxSteps := 1000000) (disch := omega) [go_sem, t0_4, t1_4, t7_4, t8_4, oka1_0]
    subst hc12
    refine IWp_cond_i h (by first | with_reducible rfl | (simp -implicitDefEqProofs (maxSteps := 1000000) (disch := omega) [go_sem, t0_4, t1_4, t7_4, t8_4, oka1_0] <;> omega)) rfl ?_ ?_
    ·intro c15 h
     try simp -implicitDefEqProofs (disch := omega) at c15
     refine IWp_seqF fun cb hc16 => ?_
     refine vcK ?_
     try simp -implicitDefEqProofs (maxSteps := 1000000) (disch := omega) [go_sem, t0_4, t1_4, t7_4, t8_4, oka1_0]
     subst hc16
     refine vcK ?_
     simp -implicitDefEqProofs only [go_sem]
     have e4 := Option.some.inj h
     subst e4
     have e4 := hret4 _ rfl
     subst e4
     replace h : some v5 = some r := hk4
     have er := Option.some.inj h
     subst er
     try simp -implicitDefEqProofs (maxSteps := 1000000) (disch := omega) [go_sem, t0_4, t1_4, t7_4, t8_4, oka1_0]
     refine retG_pureA (Ext.refl hw) hK (e := by first | with_reducible rfl | (simp -implicitDefEqProofs (maxSteps := 1000000) (disch := omega) [go_sem, t0_4, t1_4, t7_4, t8_4, oka1_0] <;> omega))
    ·intro c15 h
     try simp -implicitDefEqProofs (disch := omega) at c15
     refine vcK ?_
     simp -implicitDefEqProofs only [go_sem]
     subst hc10
     refine vcK ?_
     try simp -implicitDefEqProofs (maxSteps := 1000000) (disch := omega) [go_sem, t0_4, t1_4, t7_4, t8_4, oka1_0]
     have e4 := Option.some.inj h
     subst e4
     refine loopN_mk hI4 (IntKind.i64.wrap (v5 + 1)) ?_
     refine .same ⟨rfl, ?_, ?_, ?_, ?_⟩ <;> first | with_reducible rfl | with_reducible assumption | (simp -implicitDefEqProofs (maxSteps := 1000000) (disch := omega) [go_sem, t0_4, t1_4, t7_4, t8_4, oka1_0] <;> omega)
   ·intro c9 h
    try simp -implicitDefEqProofs (disch := omega) at c9
    refine vcK ?_
    simp -implicitDefEqProofs only [go_sem]
    have e4 := Option.some.inj h
    subst e4
    have hy4 := hret4 _ rfl
    refine hc4 _ _ ?_
    refine .same ⟨hy4, rfl⟩

/-! slices.ContainsFunc[[]cardcase/api.Rdn,cardcase/api.Rdn] -/

noncomputable def F114 (a0 : List S112) : Option Bool :=
 (F129 a0).bind fun (x3 : Int) => some (decide (0 ≤ x3))

set_option maxHeartbeats 8000000 in
set_option pp.deepTerms false in
set_option maxRecDepth 60000 in
theorem F114_ok {H : IHeap} {K : IEnd → IHeap → Prop} (a0 : List S112) (ka1_0 : Nat) (oka1_0 : H.obj ka1_0 = some (.cells ([.v (.func (.func 102) #[] #[])]))) {r : Bool} (h : F114 a0 = some r) (hK : K (.ret (.v (.bool r))) H) : ICalls prog 114 [.sl 2 (a0.map fun x => [.v (str x.fType), .v (str x.fValue)]), .fn (.func 115) [] [.p ka1_0 0]] H K := by
 refine ICalls_iwp (N := 9) func114 (by kernel_rfl) rfl (by kernel_rfl) (by kernel_rfl) fun cb hcb hw hbd hnb => ?_
 clear hbd hnb
 subst hcb
 unfold F114 at h
 have hka1_0 : ka1_0 < H.next := Nat.lt_of_not_le fun q => by rw [hw _ q] at oka1_0; cases oka1_0
 refine IWp_seqF fun cb hc1 => ?_
 refine vcK ?_
 try simp -implicitDefEqProofs (maxSteps := 1000000) (disch := omega) [go_sem, oka1_0]
 subst hc1
 refine IWp_seqF fun cb hc2 => ?_
 refine vcK ?_
 try simp -implicitDefEqProofs (maxSteps := 1000000) (disch := omega) [go_sem, oka1_0]
 obtain ⟨x3, hx3, h⟩ := bind_some' h
 refine ICalls.eqA (args' := [.sl 2 (a0.map fun x => [.v (str x.fType), .v (str x.fValue)]), .fn (.func 115) [] [.p ka1_0 0]]) (by first | with_reducible rfl | (simp -implicitDefEqProofs (maxSteps := 1000000) (disch := omega) [go_sem, oka1_0] <;> omega)) (F129_ok a0 ka1_0 (by first | with_reducible assumption | simp -implicitDefEqProofs (maxSteps := 1000000) (disch := omega) [go_sem, oka1_0]) hx3 ?_)
 try simp -implicitDefEqProofs (maxSteps := 1000000) (disch := omega) [go_sem, oka1_0]
 subst hc2
 refine vcK ?_
 simp -implicitDefEqProofs only [go_sem]
 have er := Option.some.inj h
 subst er
 try simp -implicitDefEqProofs (maxSteps := 1000000) (disch := omega) [go_sem, oka1_0]
 refine retG_pureA (Ext.refl hw) hK (e := by first | with_reducible rfl | (simp -implicitDefEqProofs (maxSteps := 1000000) (disch := omega) [go_sem, oka1_0] <;> omega))

/-! cardcase/dn.each[cardcase/api.Rdn] -/

noncomputable def F104 (a0 : List S112) : Option Bool :=
 (F114 a0).bind fun (x3 : Bool) => some (!x3)

set_option maxHeartbeats 8000000 in
set_option pp.deepTerms false in
set_option maxRecDepth 60000 in
theorem F104_ok {H : IHeap} {K : IEnd → IHeap → Prop} (a0 : List S112) {r : Bool} (h : F104 a0 = some r) (hK : K (.ret (.v (.bool r))) H) : ICalls prog 104 [.sl 2 (a0.map fun x => [.v (str x.fType), .v (str x.fValue)]), .v (.func (.func 102) #[] #[])] H K := by
 refine ICalls_iwp (N := 9) func104 (by kernel_rfl) rfl (by kernel_rfl) (by kernel_rfl) fun cb hcb hw hbd hnb => ?_
 clear hbd hnb
 subst hcb
 unfold F104 at h
 refine IWp_seqF fun cb hc1 => ?_
 refine vcK ?_
 try simp -implicitDefEqProofs (maxSteps := 1000000) (disch := omega) [go_sem]
 subst hc1
 refine IWp_seqF fun cb hc2 => ?_
 refine vcK ?_
 try simp -implicitDefEqProofs (maxSteps := 1000000) (disch := omega) [go_sem]
 obtain ⟨x3, hx3, h⟩ := bind_some' h
 refine ICalls.eqA (args' := [.sl 2 (a0.map fun x => [.v (str x.fType), .v (str x.fValue)]), .fn (.func 115) [] [.p H.next 0]]) (by first | with_reducible rfl | (simp -implicitDefEqProofs (maxSteps := 1000000) (disch := omega) [go_sem] <;> omega)) (F114_ok a0 H.next (by first | with_reducible assumption | simp -implicitDefEqProofs (maxSteps := 1000000) (disch := omega) [go_sem]) hx3 ?_)
 try simp -implicitDefEqProofs (maxSteps := 1000000) (disch := omega) [go_sem]
 subst hc2
 refine vcK ?_
 simp -implicitDefEqProofs only [go_sem]
 have er := Option.some.inj h
 subst er
 try simp -implicitDefEqProofs (maxSteps := 1000000) (disch := omega) [go_sem]
 refine retG_pureA (Ext.refl hw) hK (e := by first | with_reducible rfl | (simp -implicitDefEqProofs (maxSteps := 1000000) (disch := omega) [go_sem] <;> omega))

/-! cardcase/dn.Check -/

noncomputable def F84 (a0 : List S112) : Option Int :=
 if 16 < (a0.length : Int) then (some 2) else ((F104 a0).bind fun (x6 : Bool) => if ¬ (x6 = true) then (some 2) else (some 0))

set_option maxHeartbeats 8000000 in
set_option pp.deepTerms false in
set_option maxRecDepth 60000 in
theorem F84_ok {H : IHeap} {K : IEnd → IHeap → Prop} (a0 : List S112) {r : Int} (h : F84 a0 = some r) (hK : K (.ret (.v (.int .i64 r))) H) : ICalls prog 84 [.sl 2 (a0.map fun x => [.v (str x.fType), .v (str x.fValue)])] H K := by
 refine ICalls_iwp (N := 13) func84 (by kernel_rfl) rfl (by kernel_rfl) (by kernel_rfl) fun cb hcb hw hbd hnb => ?_
 clear hbd hnb
 subst hcb
 unfold F84 at h
 refine IWp_seqF fun cb hc1 => ?_
 refine vcK ?_
 try simp -implicitDefEqProofs (maxSteps := 1000000) (disch := omega) [go_sem]
 subst hc1
 refine IWp_seqF fun cb hc2 => ?_
 refine vcK ?_
 try simp -implicitDefEqProofs (maxSteps := 1000000) (disch := omega) [go_sem]
 subst hc2
 refine IWp_seqF fun cb hc3 => ?_
 refine IWp_seqF fun cb hc4 => ?_
 refine vcK ?_
 try simp -implicitDefEqProofs (maxSteps := 1000000) (disch := omega) [go_sem]
 refine splitG_f h (by first | with_reducible rfl | (simp -implicitDefEqProofs (maxSteps := 1000000) (disch := omega) [go_sem] <;> omega)) ?_ ?_
 ·intro c10 h
  try simp -implicitDefEqProofs (disch := omega) at c10
  try simp -implicitDefEqProofs (maxSteps := 1000000) (disch := omega) [go_sem]
  subst hc4
  refine IWp_cond_t (by first | with_reducible rfl | (simp -implicitDefEqProofs (maxSteps := 1000000) (disch := omega) [go_sem] <;> omega)) rfl ?_
  refine IWp_seqF fun cb hc5 => ?_
  refine vcK ?_
  try simp -implicitDefEqProofs (maxSteps := 1000000) (disch := omega) [go_sem]
  subst hc5
  refine vcK ?_
  simp -implicitDefEqProofs only [go_sem]
  have er := Option.some.inj h
  subst er
  try simp -implicitDefEqProofs (maxSteps := 1000000) (disch := omega) [go_sem]
  refine retG_pureA (Ext.refl hw) hK (e := by first | with_reducible rfl | (simp -implicitDefEqProofs (maxSteps := 1000000) (disch := omega) [go_sem] <;> omega))
 ·intro c10 h
  try simp -implicitDefEqProofs (disch := omega) at c10
  try simp -implicitDefEqProofs (maxSteps := 1000000) (disch := omega) [go_sem]
  obtain ⟨x6, hx6, h⟩ := bind_some' h
  refine ICalls.eqA (args' := [.sl 2 (a0.map fun x => [.v (str x.fType), .v (str x.fValue)]), .v (.func (.func 102) #[] #[])]) (by first | with_reducible rfl | (simp -implicitDefEqProofs (maxSteps := 1000000) (disch := omega) [go_sem] <;> omega)) (F104_ok a0 hx6 ?_)
  try simp -implicitDefEqProofs (maxSteps := 1000000) (disch := omega) [go_sem]
  subst hc4
  refine IWp_cond_i h (by first | with_reducible rfl | (simp -implicitDefEqProofs (maxSteps := 1000000) (disch := omega) [go_sem] <;> omega)) rfl ?_ ?_
  ·intro c7 h
   try simp -implicitDefEqProofs (disch := omega) at c7
   refine IWp_seqF fun cb hc8 => ?_
   refine vcK ?_
   try simp -implicitDefEqProofs (maxSteps := 1000000) (disch := omega) [go_sem]
   subst hc8
   refine vcK ?_
   simp -implicitDefEqProofs only [go_sem]
   have er := Option.some.inj h
   subst er
   try simp -implicitDefEqProofs (maxSteps := 1000000) (disch := omega) [go_sem]
   refine retG_pureA (Ext.refl hw) hK (e := by first | with_reducible rfl | (simp -implicitDefEqProofs (maxSteps := 1000000) (disch := omega) [go_sem] <;> omega))
  ·intro c7 h
   try simp -implicitDefEqProofs (disch := omega) at c7
   refine vcK ?_
   simp -implicitDefEqProofs only [go_sem]
   subst hc3
   refine IWp_seqF fun cb hc9 => ?_
   refine vcK ?_
   try simp -implicitDefEqProofs (maxSteps := 1000000) (disch := omega) [go_sem]
   subst hc9
   refine vcK ?_
   simp -implicitDefEqProofs only [go_sem]
   have er := Option.some.inj h
   subst er
   try simp -implicitDefEqProofs (maxSteps := 1000000) (disch := omega) [go_sem]
   refine retG_pureA (Ext.refl hw) hK (e := by first | with_reducible rfl | (simp -implicitDefEqProofs (maxSteps := 1000000) (disch := omega) [go_sem] <;> omega))

/-! cardcase/entry.name -/

noncomputable def F45 (a0 : List UInt8) : Option Bool :=
 (F41 a0).bind fun (x3 : (List UInt8)) => (F84 ([(⟨x3, [120]⟩ : S112)])).bind fun (x4 : Int) => some (decide (x4 = 0))

set_option maxHeartbeats 8000000 in
set_option pp.deepTerms false in
set_option maxRecDepth 60000 in
theorem F45_ok {H : IHeap} {K : IEnd → IHeap → Prop} (a0 : List UInt8) {r : Bool} (h : F45 a0 = some r) (hK : K (.ret (.v (.bool r))) H) : ICalls prog 45 [.v (str a0)] H K := by
 refine ICalls_iwp (N := 9) func45 (by kernel_rfl) rfl (by kernel_rfl) (by kernel_rfl) fun cb hcb hw hbd hnb => ?_
 clear hbd hnb
 subst hcb
 unfold F45 at h
 refine IWp_seqF fun cb hc1 => ?_
 refine vcK ?_
 try simp -implicitDefEqProofs (maxSteps := 1000000) (disch := omega) [go_sem, bdP]
 subst hc1
 refine IWp_seqF fun cb hc2 => ?_
 refine vcK ?_
 try simp -implicitDefEqProofs (maxSteps := 1000000) (disch := omega) [go_sem, bdP]
 obtain ⟨x3, hx3, h⟩ := bind_some' h
 refine ICalls.eqA (args' := [.v (str a0)]) (by first | with_reducible rfl | (simp -implicitDefEqProofs (maxSteps := 1000000) (disch := omega) [go_sem, bdP] <;> omega)) (F41_ok a0 hx3 ?_)
 try simp -implicitDefEqProofs (maxSteps := 1000000) (disch := omega) [go_sem, bdP]
 obtain ⟨x4, hx4, h⟩ := bind_some' h
 refine ICalls.eqA (args' := [.sl 2 (([(⟨x3, [120]⟩ : S112)]).map fun x => [.v (str x.fType), .v (str x.fValue)])]) (by first | with_reducible rfl | (simp -implicitDefEqProofs (maxSteps := 1000000) (disch := omega) [go_sem, bdP] <;> omega)) (F84_ok ([(⟨x3, [120]⟩ : S112)]) hx4 ?_)
 try simp -implicitDefEqProofs (maxSteps := 1000000) (disch := omega) [go_sem, bdP]
 subst hc2
 refine vcK ?_
 simp -implicitDefEqProofs only [go_sem]
 have er := Option.some.inj h
 subst er
 try simp -implicitDefEqProofs (maxSteps := 1000000) (disch := omega) [go_sem, bdP]
 refine retG_pureA (Ext.refl hw) hK (e := by first | with_reducible rfl | (simp -implicitDefEqProofs (maxSteps := 1000000) (disch := omega) [go_sem, bdP] <;> omega))

/-! cardcase/entry.value -/

noncomputable def F47 (a0 : List UInt8) : Option Bool :=
 if 1 ≤ (a0.length : Int) then (some (decide ((a0.length : Int) ≤ 2048))) else (some false)

set_option maxHeartbeats 8000000 in
set_option pp.deepTerms false in
set_option maxRecDepth 60000 in
theorem F47_ok {H : IHeap} {K : IEnd → IHeap → Prop} (a0 : List UInt8) {r : Bool} (h : F47 a0 = some r) (hK : K (.ret (.v (.bool r))) H) : ICalls prog 47 [.v (str a0)] H K := by
 refine ICalls_iwp (N := 11) func47 (by kernel_rfl) rfl (by kernel_rfl) (by kernel_rfl) fun cb hcb hw hbd hnb => ?_
 clear hbd hnb
 subst hcb
 unfold F47 at h
 refine IWp_seqF fun cb hc1 => ?_
 refine vcK ?_
 try simp -implicitDefEqProofs (maxSteps := 1000000) (disch := omega) [go_sem]
 subst hc1
 refine IWp_seqF fun cb hc2 => ?_
 refine vcK ?_
 try simp -implicitDefEqProofs (maxSteps := 1000000) (disch := omega) [go_sem]
 refine splitG_f h (by first | with_reducible rfl | (simp -implicitDefEqProofs (maxSteps := 1000000) (disch := omega) [go_sem] <;> omega)) ?_ ?_
 ·intro c3 h
  try simp -implicitDefEqProofs (disch := omega) at c3
  try simp -implicitDefEqProofs (maxSteps := 1000000) (disch := omega) [go_sem]
  subst hc2
  refine vcK ?_
  simp -implicitDefEqProofs only [go_sem]
  have er := Option.some.inj h
  subst er
  try simp -implicitDefEqProofs (maxSteps := 1000000) (disch := omega) [go_sem]
  refine retG_pureA (Ext.refl hw) hK (e := by first | with_reducible rfl | (simp -implicitDefEqProofs (maxSteps := 1000000) (disch := omega) [go_sem] <;> omega))
 ·intro c3 h
  try simp -implicitDefEqProofs (disch := omega) at c3
  try simp -implicitDefEqProofs (maxSteps := 1000000) (disch := omega) [go_sem]
  subst hc2
  refine vcK ?_
  simp -implicitDefEqProofs only [go_sem]
  have er := Option.some.inj h
  subst er
  try simp -implicitDefEqProofs (maxSteps := 1000000) (disch := omega) [go_sem]
  refine retG_pureA (Ext.refl hw) hK (e := by first | with_reducible rfl | (simp -implicitDefEqProofs (maxSteps := 1000000) (disch := omega) [go_sem] <;> omega))

/-! cardcase/entry.all[string]$1 -/

noncomputable def F86 (a0 : List UInt8) : Option Bool :=
 (F47 a0).bind fun (x3 : Bool) => some (!x3)

set_option maxHeartbeats 8000000 in
set_option pp.deepTerms false in
set_option maxRecDepth 60000 in
theorem F86_ok {H : IHeap} {K : IEnd → IHeap → Prop} (a0 : List UInt8) (ka1 : Nat) (oka1 : H.obj ka1 = some (.cells ([.v (.func (.func 47) #[] #[])]))) {r : Bool} (h : F86 a0 = some r) (hK : K (.ret (.v (.bool r))) H) : ICalls prog 86 [.v (str a0), .p ka1 0] H K := by
 refine ICalls_iwp (N := 8) func86 (by kernel_rfl) rfl (by kernel_rfl) (by kernel_rfl) fun cb hcb hw hbd hnb => ?_
 clear hbd hnb
 subst hcb
 unfold F86 at h
 have hka1 : ka1 < H.next := Nat.lt_of_not_le fun q => by rw [hw _ q] at oka1; cases oka1
 refine IWp_seqF fun cb hc1 => ?_
 refine vcK ?_
 try simp -implicitDefEqProofs (maxSteps := 1000000) (disch := omega) [go_sem, oka1]
 subst hc1
 refine IWp_seqF fun cb hc2 => ?_
 refine vcK ?_
 try simp -implicitDefEqProofs (maxSteps := 1000000) (disch := omega) [go_sem, oka1]
 obtain ⟨x3, hx3, h⟩ := bind_some' h
 refine ICalls.eqA (args' := [.v (str a0)]) (by first | with_reducible rfl | (simp -implicitDefEqProofs (maxSteps := 1000000) (disch := omega) [go_sem, oka1] <;> omega)) (F47_ok a0 hx3 ?_)
 try simp -implicitDefEqProofs (maxSteps := 1000000) (disch := omega) [go_sem, oka1]
 subst hc2
 refine vcK ?_
 simp -implicitDefEqProofs only [go_sem]
 have er := Option.some.inj h
 subst er
 try simp -implicitDefEqProofs (maxSteps := 1000000) (disch := omega) [go_sem, oka1]
 refine retG_pureA (Ext.refl hw) hK (e := by first | with_reducible rfl | (simp -implicitDefEqProofs (maxSteps := 1000000) (disch := omega) [go_sem, oka1] <;> omega))

/-! slices.IndexFunc[[]string,string] -/

noncomputable def F100_k4  : Option Int :=
 some (-1)

noncomputable def F100_b4 (a0 : List (List UInt8)) (v5 : Int) : Option (Int ⊕ (Unit ⊕ Int)) :=
 if v5 < (a0.length : Int) then (gd (0 ≤ v5 ∧ v5 < a0.length) ((F86 (a0.getD v5.toNat [])).bind fun (x14 : Bool) => if x14 = true then (some (.inr (.inr v5))) else (some (.inl (IntKind.i64.wrap (v5 + 1)))))) else (some (.inr (.inl ())))

noncomputable def F100 (a0 : List (List UInt8)) : Option Int :=
 (loopO (fun (s : Int) => F100_b4 a0 s) 0).bind fun y => Sum.elim (fun (e : Unit) => F100_k4) (fun (q : Int) => some q) y

set_option maxHeartbeats 8000000 in
set_option pp.deepTerms false in
set_option maxRecDepth 60000 in
theorem F100_ok {H : IHeap} {K : IEnd → IHeap → Prop} (a0 : List (List UInt8)) (ka1_0 : Nat) (oka1_0 : H.obj ka1_0 = some (.cells ([.v (.func (.func 47) #[] #[])]))) {r : Int} (h : F100 a0 = some r) (hK : K (.ret (.v (.int .i64 r))) H) : ICalls prog 100 [.sl 1 (a0.map fun x => [.v (str x)]), .fn (.func 86) [] [.p ka1_0 0]] H K := by
 refine ICalls_iwp (N := 19) func100 (by kernel_rfl) rfl (by kernel_rfl) (by kernel_rfl) fun cb hcb hw hbd hnb => ?_
 clear hbd hnb
 subst hcb
 unfold F100 at h
 have hka1_0 : ka1_0 < H.next := Nat.lt_of_not_le fun q => by rw [hw _ q] at oka1_0; cases oka1_0
 refine IWp_seqF fun cb hc1 => ?_
 refine vcK ?_
 try simp -implicitDefEqProofs (maxSteps := 1000000) (disch := omega) [go_sem, oka1_0]
 subst hc1
 refine IWp_seqF fun cb hc2 => ?_
 refine IWp_seqF fun cb hc3 => ?_
 refine vcK ?_
 try simp -implicitDefEqProofs (maxSteps := 1000000) (disch := omega) [go_sem, oka1_0]
 subst hc3
 obtain ⟨y4, hl4q, hk4⟩ := bind_some' h
 refine IWp_tailC (fun tm' H' => .inl () = y4 ∧ H = H') ?_ fun cb hc4 => ?_
 ·rintro tm4e H4e ⟨rfl, rfl⟩
  have h : F100_k4 = some r := hk4
  unfold F100_k4 at h
  simp -implicitDefEqProofs only [go_sem]
  subst hc2
  refine IWp_seqF fun cb hc6 => ?_
  refine vcK ?_
  try simp -implicitDefEqProofs (maxSteps := 1000000) (disch := omega) [go_sem, oka1_0]
  subst hc6
  refine vcK ?_
  simp -implicitDefEqProofs only [go_sem]
  have er := Option.some.inj h
  subst er
  try simp -implicitDefEqProofs (maxSteps := 1000000) (disch := omega) [go_sem, oka1_0]
  refine retG_pureA (Ext.refl hw) hK (e := by first | with_reducible rfl | (simp -implicitDefEqProofs (maxSteps := 1000000) (disch := omega) [go_sem, oka1_0] <;> omega))
 ·refine IWp_block ?_
  refine IWp_loopF (fun (s : Int) tm' H' => H = H' ∧ tm' 0 = .sl 1 (a0.map fun x => [.v (str x)]) ∧ tm' 1 = .fn (.func 86) [] [.p ka1_0 0] ∧ tm' 7 = .v (.int .i64 (a0.length : Int)) ∧ tm' 8 = .v (.int .i64 s)) hl4q ?_ ?_
  ·refine .same ⟨rfl, ?_, ?_, ?_, ?_⟩ <;> first | with_reducible rfl | with_reducible assumption | (simp -implicitDefEqProofs (maxSteps := 1000000) (disch := omega) [go_sem, oka1_0] <;> omega)
  ·rintro I4 hI4 v5 x4 tm4 H4 ⟨rfl, t0_4, t1_4, t7_4, t8_4⟩ h hret4
   replace h : F100_b4 a0 v5 = some x4 := h
   unfold F100_b4 at h
   refine IWp_seqF fun cb hc7 => ?_
   refine vcK ?_
   try simp -implicitDefEqProofs (maxSteps := 1000000) (disch := omega) [go_sem, t0_4, t1_4, t7_4, t8_4, oka1_0]
   subst hc7
   refine IWp_seqF fun cb hc8 => ?_
   refine IWp_cond_i h (by first | with_reducible rfl | (simp -implicitDefEqProofs (maxSteps := 1000000) (disch := omega) [go_sem, t0_4, t1_4, t7_4, t8_4, oka1_0] <;> omega)) rfl ?_ ?_
   ·intro c9 h
    try simp -implicitDefEqProofs (disch := omega) at c9
    refine vcK ?_
    simp -implicitDefEqProofs only [go_sem]
    subst hc8
    refine IWp_seqF fun cb hc10 => ?_
    refine IWp_block ?_
    refine IWp_seqF fun cb hc11 => ?_
    refine vcK ?_
    try simp -implicitDefEqProofs (maxSteps := 1000000) (disch := omega) [go_sem, t0_4, t1_4, t7_4, t8_4, oka1_0]
    subst hc11
    refine IWp_seqF fun cb hc12 => ?_
    refine vcK ?_
    obtain ⟨g13, h⟩ := gd_some.1 h
    try simp -implicitDefEqProofs (disch := omega) at g13
    try simp -implicitDefEqProofs (maxSteps := 1000000) (disch := omega) [go_sem, t0_4, t1_4, t7_4, t8_4, oka1_0]
    obtain ⟨x14, hx14, h⟩ := bind_some' h
    refine ICalls.eqA (args' := [.v (str (a0.getD v5.toNat [])), .p ka1_0 0]) (by first | with_reducible rfl | (simp -implicitDefEqProofs (maxSteps := 1000000) (disch := omega) [go_sem, t0_4, t1_4, t7_4, t8_4, oka1_0] <;> omega)) (F86_ok (a0.getD v5.toNat []) ka1_0 (by first | with_reducible assumption | simp -implicitDefEqProofs (maxSteps := 1000000) (disch := omega) [go_sem, t0_4, t1_4, t7_4, t8_4, oka1_0]) hx14 ?_)
    try simp -implicitDefEqProofs (maxSteps := 1000000) (disch := omega) [go_sem, t0_4, t1_4, t7_4, t8_4, oka1_0]
    subst hc12
    refine IWp_cond_i h (by first | with_reducible rfl | (simp -implicitDefEqProofs (maxSteps := 1000000) (disch := omega) [go_sem, t0_4, t1_4, t7_4, t8_4, oka1_0] <;> omega)) rfl ?_ ?_
    ·intro c15 h
     try simp -implicitDefEqProofs (disch := omega) at c15
     refine IWp_seqF fun cb hc16 => ?_
     refine vcK ?_
     try simp -implicitDefEqProofs (maxSteps := 1000000) (disch := omega) [go_sem, t0_4, t1_4, t7_4, t8_4, oka1_0]
     subst hc16
     refine vcK ?_
     simp -implicitDefEqProofs only [go_sem]
     have e4 := Option.some.inj h
     subst e4
     have e4 := hret4 _ rfl
     subst e4
     replace h : some v5 = some r := hk4
     have er := Option.some.inj h
     subst er
     try simp -implicitDefEqProofs (maxSteps := 1000000) (disch := omega) [go_sem, t0_4, t1_4, t7_4, t8_4, oka1_0]
     refine retG_pureA (Ext.refl hw) hK (e := by first | with_reducible rfl | (simp -implicitDefEqProofs (maxSteps := 1000000) (disch := omega) [go_sem, t0_4, t1_4, t7_4, t8_4, oka1_0] <;> omega))
    ·intro c15 h
     try simp -implicitDefEqProofs (disch := omega) at c15
     refine vcK ?_
     simp -implicitDefEqProofs only [go_sem]
     subst hc10
     refine vcK ?_
     try simp -implicitDefEqProofs (maxSteps := 1000000) (disch := omega) [go_sem, t0_4, t1_4, t7_4, t8_4, oka1_0]
     have e4 := Option.some.inj h
     subst e4
     refine loopN_mk hI4 (IntKind.i64.wrap (v5 + 1)) ?_
     refine .same ⟨rfl, ?_, ?_, ?_, ?_⟩ <;> first | with_reducible rfl | with_reducible assumption | (simp -implicitDefEqProofs (maxSteps := 1000000) (disch := omega) [go_sem, t0_4, t1_4, t7_4, t8_4, oka1_0] <;> omega)
   ·intro c9 h
    try simp -implicitDefEqProofs (disch := omega) at c9
    refine vcK ?_
    simp -implicitDefEqProofs only [go_sem]
    have e4 := Option.some.inj h
    subst e4
    have hy4 := hret4 _ rfl
    refine hc4 _ _ ?_
    refine .same ⟨hy4, rfl⟩

/-! slices.ContainsFunc[[]string,string] -/

noncomputable def F85 (a0 : List (List UInt8)) : Option Bool :=
 (F100 a0).bind fun (x3 : Int) => some (decide (0 ≤ x3))

set_option maxHeartbeats 8000000 in
set_option pp.deepTerms false in
set_option maxRecDepth 60000 in
theorem F85_ok {H : IHeap} {K : IEnd → IHeap → Prop} (a0 : List (List UInt8)) (ka1_0 : Nat) (oka1_0 : H.obj ka1_0 = some (.cells ([.v (.func (.func 47) #[] #[])]))) {r : Bool} (h : F85 a0 = some r) (hK : K (.ret (.v (.bool r))) H) : ICalls prog 85 [.sl 1 (a0.map fun x => [.v (str x)]), .fn (.func 86) [] [.p ka1_0 0]] H K := by
 refine ICalls_iwp (N := 9) func85 (by kernel_rfl) rfl (by kernel_rfl) (by kernel_rfl) fun cb hcb hw hbd hnb => ?_
 clear hbd hnb
 subst hcb
 unfold F85 at h
 have hka1_0 : ka1_0 < H.next := Nat.lt_of_not_le fun q => by rw [hw _ q] at oka1_0; cases oka1_0
 refine IWp_seqF fun cb hc1 => ?_
 refine vcK ?_
 try simp -implicitDefEqProofs (maxSteps := 1000000) (disch := omega) [go_sem, oka1_0]
 subst hc1
 refine IWp_seqF fun cb hc2 => ?_
 refine vcK ?_
 try simp -implicitDefEqProofs (maxSteps := 1000000) (disch := omega) [go_sem, oka1_0]
 obtain ⟨x3, hx3, h⟩ := bind_some' h
 refine ICalls.eqA (args' := [.sl 1 (a0.map fun x => [.v (str x)]), .fn (.func 86) [] [.p ka1_0 0]]) (by first | with_reducible rfl | (simp -implicitDefEqProofs (maxSteps := 1000000) (disch := omega) [go_sem, oka1_0] <;> omega)) (F100_ok a0 ka1_0 (by first | with_reducible assumption | simp -implicitDefEqProofs (maxSteps := 1000000) (disch := omega) [go_sem, oka1_0]) hx3 ?_)
 try simp -implicitDefEqProofs (maxSteps := 1000000) (disch := omega) [go_sem, oka1_0]
 subst hc2
 refine vcK ?_
 simp -implicitDefEqProofs only [go_sem]
 have er := Option.some.inj h
 subst er
 try simp -implicitDefEqProofs (maxSteps := 1000000) (disch := omega) [go_sem, oka1_0]
 refine retG_pureA (Ext.refl hw) hK (e := by first | with_reducible rfl | (simp -implicitDefEqProofs (maxSteps := 1000000) (disch := omega) [go_sem, oka1_0] <;> omega))

/-! cardcase/entry.all[string] -/

noncomputable def F46 (a0 : List (List UInt8)) : Option Bool :=
 (F85 a0).bind fun (x3 : Bool) => some (!x3)

set_option maxHeartbeats 8000000 in
set_option pp.deepTerms false in
set_option maxRecDepth 60000 in
theorem F46_ok {H : IHeap} {K : IEnd → IHeap → Prop} (a0 : List (List UInt8)) {r : Bool} (h : F46 a0 = some r) (hK : K (.ret (.v (.bool r))) H) : ICalls prog 46 [.sl 1 (a0.map fun x => [.v (str x)]), .v (.func (.func 47) #[] #[])] H K := by
 refine ICalls_iwp (N := 9) func46 (by kernel_rfl) rfl (by kernel_rfl) (by kernel_rfl) fun cb hcb hw hbd hnb => ?_
 clear hbd hnb
 subst hcb
 unfold F46 at h
 refine IWp_seqF fun cb hc1 => ?_
 refine vcK ?_
 try simp -implicitDefEqProofs (maxSteps := 1000000) (disch := omega) [go_sem]
 subst hc1
 refine IWp_seqF fun cb hc2 => ?_
 refine vcK ?_
 try simp -implicitDefEqProofs (maxSteps := 1000000) (disch := omega) [go_sem]
 obtain ⟨x3, hx3, h⟩ := bind_some' h
 refine ICalls.eqA (args' := [.sl 1 (a0.map fun x => [.v (str x)]), .fn (.func 86) [] [.p H.next 0]]) (by first | with_reducible rfl | (simp -implicitDefEqProofs (maxSteps := 1000000) (disch := omega) [go_sem] <;> omega)) (F85_ok a0 H.next (by first | with_reducible assumption | simp -implicitDefEqProofs (maxSteps := 1000000) (disch := omega) [go_sem]) hx3 ?_)
 try simp -implicitDefEqProofs (maxSteps := 1000000) (disch := omega) [go_sem]
 subst hc2
 refine vcK ?_
 simp -implicitDefEqProofs only [go_sem]
 have er := Option.some.inj h
 subst er
 try simp -implicitDefEqProofs (maxSteps := 1000000) (disch := omega) [go_sem]
 refine retG_pureA (Ext.refl hw) hK (e := by first | with_reducible rfl | (simp -implicitDefEqProofs (maxSteps := 1000000) (disch := omega) [go_sem] <;> omega))

/-! cardcase/entry.rises[string] -/

noncomputable def F48_k4  : Option Bool :=
 some true

noncomputable def F48_b4 (a0 : List (List UInt8)) (v5 : Int) : Option (Int ⊕ (Unit ⊕ Bool)) :=
 if v5 < (a0.length : Int) then (gd (0 ≤ (IntKind.i64.wrap (v5 - 1)) ∧ (IntKind.i64.wrap (v5 - 1)) < a0.length) (gd (0 ≤ v5 ∧ v5 < a0.length) (if ¬ Op.bytesLess (a0.getD (IntKind.i64.wrap (v5 - 1)).toNat []) (a0.getD v5.toNat []) = true then (some (.inr (.inr false))) else (some (.inl (IntKind.i64.wrap (v5 + 1))))))) else (some (.inr (.inl ())))

noncomputable def F48 (a0 : List (List UInt8)) : Option Bool :=
 (loopO (fun (s : Int) => F48_b4 a0 s) 1).bind fun y => Sum.elim (fun (e : Unit) => F48_k4) (fun (q : Bool) => some q) y

set_option maxHeartbeats 8000000 in
set_option pp.deepTerms false in
set_option maxRecDepth 60000 in
theorem F48_ok {H : IHeap} {K : IEnd → IHeap → Prop} (a0 : List (List UInt8)) {r : Bool} (h : F48 a0 = some r) (hK : K (.ret (.v (.bool r))) H) : ICalls prog 48 [.sl 1 (a0.map fun x => [.v (str x)])] H K := by
 refine ICalls_iwp (N := 20) func48 (by kernel_rfl) rfl (by kernel_rfl) (by kernel_rfl) fun cb hcb hw hbd hnb => ?_
 clear hbd hnb
 subst hcb
 unfold F48 at h
 refine IWp_seqF fun cb hc1 => ?_
 refine vcK ?_
 try simp -implicitDefEqProofs (maxSteps := 1000000) (disch := omega) [go_sem]
 subst hc1
 refine IWp_seqF fun cb hc2 => ?_
 refine IWp_seqF fun cb hc3 => ?_
 refine vcK ?_
 try simp -implicitDefEqProofs (maxSteps := 1000000) (disch := omega) [go_sem]
 subst hc3
 obtain ⟨y4, hl4q, hk4⟩ := bind_some' h
 refine IWp_tailC (fun tm' H' => .inl () = y4 ∧ H = H') ?_ fun cb hc4 => ?_
 ·rintro tm4e H4e ⟨rfl, rfl⟩
  have h : F48_k4 = some r := hk4
  unfold F48_k4 at h
  simp -implicitDefEqProofs only [go_sem]
  subst hc2
  refine IWp_seqF fun cb hc6 => ?_
  refine vcK ?_
  try simp -implicitDefEqProofs (maxSteps := 1000000) (disch := omega) [go_sem]
  subst hc6
  refine vcK ?_
  simp -implicitDefEqProofs only [go_sem]
  have er := Option.some.inj h
  subst er
  try simp -implicitDefEqProofs (maxSteps := 1000000) (disch := omega) [go_sem]
  refine retG_pureA (Ext.refl hw) hK (e := by first | with_reducible rfl | (simp -implicitDefEqProofs (maxSteps := 1000000) (disch := omega) [go_sem] <;> omega))
 ·refine IWp_block ?_
  refine IWp_loopF (fun (s : Int) tm' H' => H = H' ∧ tm' 0 = .sl 1 (a0.map fun x => [.v (str x)]) ∧ tm' 3 = .v (.int .i64 s)) hl4q ?_ ?_
  ·refine .same ⟨rfl, ?_, ?_⟩ <;> first | with_reducible rfl | with_reducible assumption | (simp -implicitDefEqProofs (maxSteps := 1000000) (disch := omega) [go_sem] <;> omega)
  ·rintro I4 hI4 v5 x4 tm4 H4 ⟨rfl, t0_4, t3_4⟩ h hret4
   replace h : F48_b4 a0 v5 = some x4 := h
   unfold F48_b4 at h
   refine IWp_seqF fun cb hc7 => ?_
   refine IWp_seqF fun cb hc8 => ?_
   refine vcK ?_
   try simp -implicitDefEqProofs (maxSteps := 1000000) (disch := omega) [go_sem, t0_4, t3_4]
   subst hc8
   refine IWp_cond_i h (by first | with_reducible rfl | (simp -implicitDefEqProofs (maxSteps := 1000000) (disch := omega) [go_sem, t0_4, t3_4] <;> omega)) rfl ?_ ?_
   ·intro c9 h
    try simp -implicitDefEqProofs (disch := omega) at c9
    refine vcK ?_
    simp -implicitDefEqProofs only [go_sem]
    subst hc7
    refine IWp_seqF fun cb hc10 => ?_
    refine IWp_block ?_
    refine IWp_seqF fun cb hc11 => ?_
    refine IWp_drawP [] [0, 1, 2, 3, 4, 5, 6, 7, 8, 9] (by kernel_rfl) (by kernel_rfl) (fun _ _ _ _ h => h) ?_
    obtain ⟨g12, h⟩ := gd_some.1 h
    try simp -implicitDefEqProofs (disch := omega) at g12
    obtain ⟨g13, h⟩ := gd_some.1 h
    try simp -implicitDefEqProofs (disch := omega) at g13
    try simp -implicitDefEqProofs (maxSteps := 1000000) (disch := omega) [go_sem, t0_4, t3_4]
    subst hc11
    refine IWp_cond_i h (by first | with_reducible rfl | (simp -implicitDefEqProofs (maxSteps := 1000000) (disch := omega) [go_sem, t0_4, t3_4] <;> omega)) rfl ?_ ?_
    ·intro c14 h
     try simp -implicitDefEqProofs (disch := omega) at c14
     refine IWp_seqF fun cb hc15 => ?_
     refine vcK ?_
     try simp -implicitDefEqProofs (maxSteps := 1000000) (disch := omega) [go_sem, t0_4, t3_4]
     subst hc15
     refine vcK ?_
     simp -implicitDefEqProofs only [go_sem]
     have e4 := Option.some.inj h
     subst e4
     have e4 := hret4 _ rfl
     subst e4
     replace h : some false = some r := hk4
     have er := Option.some.inj h
     subst er
     try simp -implicitDefEqProofs (maxSteps := 1000000) (disch := omega) [go_sem, t0_4, t3_4]
     refine retG_pureA (Ext.refl hw) hK (e := by first | with_reducible rfl | (simp -implicitDefEqProofs (maxSteps := 1000000) (disch := omega) [go_sem, t0_4, t3_4] <;> omega))
    ·intro c14 h
     try simp -implicitDefEqProofs (disch := omega) at c14
     refine vcK ?_
     simp -implicitDefEqProofs only [go_sem]
     subst hc10
     refine vcK ?_
     try simp -implicitDefEqProofs (maxSteps := 1000000) (disch := omega) [go_sem, t0_4, t3_4]
     have e4 := Option.some.inj h
     subst e4
     refine loopN_mk hI4 (IntKind.i64.wrap (v5 + 1)) ?_
     refine .same ⟨rfl, ?_, ?_⟩ <;> first | with_reducible rfl | with_reducible assumption | (simp -implicitDefEqProofs (maxSteps := 1000000) (disch := omega) [go_sem, t0_4, t3_4] <;> omega)
   ·intro c9 h
    try simp -implicitDefEqProofs (disch := omega) at c9
    refine vcK ?_
    simp -implicitDefEqProofs only [go_sem]
    have e4 := Option.some.inj h
    subst e4
    have hy4 := hret4 _ rfl
    refine hc4 _ _ ?_
    refine .same ⟨hy4, rfl⟩

/-! cardcase/entry.Check -/

noncomputable def F17_k5 (a0 : List S50) (v9 : List (List UInt8)) : Option Int :=
 if 24 < (a0.length : Int) then (some 2) else ((F48 v9).bind fun (x14 : Bool) => if ¬ (x14 = true) then (some 2) else (some 0))

noncomputable def F17_b5 (a0 : List S50) (v6 : List (List UInt8)) (v8 : Int) : Option (((List (List UInt8)) × Int) ⊕ (((List (List UInt8))) ⊕ Int)) :=
 if v8 < (a0.length : Int) then (gd (0 ≤ v8 ∧ v8 < a0.length) (gd ((v6.length + ([(a0.getD v8.toNat S50.zero).fName]).length) * 16 ≤ 140737488355328) ((F45 ((a0.getD v8.toNat S50.zero).fName)).bind fun (x28 : Bool) => if ¬ (x28 = true) then (some (.inr (.inr 2))) else ((F41 ((a0.getD v8.toNat S50.zero).fName)).bind fun (x30 : (List UInt8)) => if ¬ x30 = ((a0.getD v8.toNat S50.zero).fName) then (some (.inr (.inr 2))) else (if ((((a0.getD v8.toNat S50.zero).fValues).length : Int)) < 1 then (some (.inr (.inr 2))) else (if 16 < ((((a0.getD v8.toNat S50.zero).fValues).length : Int)) then (some (.inr (.inr 2))) else ((F46 ((a0.getD v8.toNat S50.zero).fValues)).bind fun (x34 : Bool) => if ¬ (x34 = true) then (some (.inr (.inr 2))) else ((F48 ((a0.getD v8.toNat S50.zero).fValues)).bind fun (x36 : Bool) => if ¬ (x36 = true) then (some (.inr (.inr 2))) else (some (.inl ((v6 ++ ([(a0.getD v8.toNat S50.zero).fName]), IntKind.i64.wrap (v8 + 1))))))))))))) else (some (.inr (.inl v6)))

noncomputable def F17 (a0 : List S50) : Option Int :=
 (loopO (fun (s : (List (List UInt8)) × Int) => F17_b5 a0 s.1 s.2) ([], 0)).bind fun y => Sum.elim (fun (e : (List (List UInt8))) => F17_k5 a0 e) (fun (q : Int) => some q) y

set_option maxHeartbeats 8000000 in
set_option pp.deepTerms false in
set_option maxRecDepth 60000 in
theorem F17_ok {H : IHeap} {K : IEnd → IHeap → Prop} (a0 : List S50) {r : Int} (h : F17 a0 = some r) (hK : K (.ret (.v (.int .i64 r))) H) : ICalls prog 17 [.sl 2 (a0.map fun x => [.v (str x.fName), .sl 1 (x.fValues.map fun x => [.v (str x)])])] H K := by
 refine ICalls_iwp (N := 62) func17 (by kernel_rfl) rfl (by kernel_rfl) (by kernel_rfl) fun cb hcb hw hbd hnb => ?_
 clear hbd hnb
 subst hcb
 unfold F17 at h
 refine IWp_seqF fun cb hc1 => ?_
 refine vcK ?_
 try simp -implicitDefEqProofs (maxSteps := 1000000) (disch := omega) [go_sem]
 subst hc1
 refine IWp_seqF fun cb hc2 => ?_
 refine vcK ?_
 try simp -implicitDefEqProofs (maxSteps := 1000000) (disch := omega) [go_sem]
 subst hc2
 refine IWp_seqF fun cb hc3 => ?_
 refine IWp_seqF fun cb hc4 => ?_
 refine vcK ?_
 try simp -implicitDefEqProofs (maxSteps := 1000000) (disch := omega) [go_sem]
 subst hc4
 obtain ⟨y5, hl5q, hk5⟩ := bind_some' h
 refine IWp_tailC (fun tm' H' => ∃ n10 : Nat, ∃ v9 : List (List UInt8), .inl v9 = y5 ∧ Ext H H' ∧ H.next ≤ H'.next ∧ H.next ≤ n10 ∧ n10 < H'.next ∧ tm' 0 = .sl 2 (a0.map fun x => [.v (str x.fName), .sl 1 (x.fValues.map fun x => [.v (str x)])]) ∧ tm' 3 = .os n10 v9.length ∧ H'.obj n10 = some (.row 1 (v9.map fun x => [.v (str x)]))) ?_ fun cb hc5 => ?_
 ·rintro tm5e H5e ⟨n10, v9, rfl, he5e, hl5e, hr0_5e, hs0_5e, t0_5e, t3_5e, or0_5e⟩
  have h : F17_k5 a0 v9 = some r := hk5
  unfold F17_k5 at h
  simp -implicitDefEqProofs only [go_sem]
  subst hc3
  refine IWp_seqF fun cb hc11 => ?_
  refine IWp_seqF fun cb hc12 => ?_
  refine IWp.gh (Gh.freeze (d := 3) (k := n10) (sz := 1) (es := v9.map fun x => [.v (str x)]) (by simp -implicitDefEqProofs (maxSteps := 1000000) (disch := omega) [go_sem, t0_5e, t3_5e, or0_5e]) (by simp -implicitDefEqProofs (maxSteps := 1000000) (disch := omega) [go_sem, t0_5e, t3_5e, or0_5e])) ?_
  refine vcK ?_
  try simp -implicitDefEqProofs (maxSteps := 1000000) (disch := omega) [go_sem, t0_5e, t3_5e, or0_5e]
  refine splitG_f h (by first | with_reducible rfl | (simp -implicitDefEqProofs (maxSteps := 1000000) (disch := omega) [go_sem, t0_5e, t3_5e, or0_5e] <;> omega)) ?_ ?_
  ·intro c18 h
   try simp -implicitDefEqProofs (disch := omega) at c18
   try simp -implicitDefEqProofs (maxSteps := 1000000) (disch := omega) [go_sem, t0_5e, t3_5e, or0_5e]
   subst hc12
   refine IWp_cond_t (by first | with_reducible rfl | (simp -implicitDefEqProofs (maxSteps := 1000000) (disch := omega) [go_sem, t0_5e, t3_5e, or0_5e] <;> omega)) rfl ?_
   refine IWp_seqF fun cb hc13 => ?_
   refine vcK ?_
   try simp -implicitDefEqProofs (maxSteps := 1000000) (disch := omega) [go_sem, t0_5e, t3_5e, or0_5e]
   subst hc13
   refine vcK ?_
   simp -implicitDefEqProofs only [go_sem]
   have er := Option.some.inj h
   subst er
   try simp -implicitDefEqProofs (maxSteps := 1000000) (disch := omega) [go_sem, t0_5e, t3_5e, or0_5e]
   refine retG_pureA he5e hK (e := by first | with_reducible rfl | (simp -implicitDefEqProofs (maxSteps := 1000000) (disch := omega) [go_sem, t0_5e, t3_5e, or0_5e] <;> omega))
  ·intro c18 h
   try simp -implicitDefEqProofs (disch := omega) at c18
   try simp -implicitDefEqProofs (maxSteps := 1000000) (disch := omega) [go_sem, t0_5e, t3_5e, or0_5e]
   obtain ⟨x14, hx14, h⟩ := bind_some' h
   refine ICalls.eqA (args' := [.sl 1 (v9.map fun x => [.v (str x)])]) (by first | with_reducible rfl | (simp -implicitDefEqProofs (maxSteps := 1000000) (disch := omega) [go_sem, t0_5e, t3_5e, or0_5e] <;> omega)) (F48_ok v9 hx14 ?_)
   try simp -implicitDefEqProofs (maxSteps := 1000000) (disch := omega) [go_sem, t0_5e, t3_5e, or0_5e]
   subst hc12
   refine IWp_cond_i h (by first | with_reducible rfl | (simp -implicitDefEqProofs (maxSteps := 1000000) (disch := omega) [go_sem, t0_5e, t3_5e, or0_5e] <;> omega)) rfl ?_ ?_
   ·intro c15 h
    try simp -implicitDefEqProofs (disch := omega) at c15
    refine IWp_seqF fun cb hc16 => ?_
    refine vcK ?_
    try simp -implicitDefEqProofs (maxSteps := 1000000) (disch := omega) [go_sem, t0_5e, t3_5e, or0_5e]
    subst hc16
    refine vcK ?_
    simp -implicitDefEqProofs only [go_sem]
    have er := Option.some.inj h
    subst er
    try simp -implicitDefEqProofs (maxSteps := 1000000) (disch := omega) [go_sem, t0_5e, t3_5e, or0_5e]
    refine retG_pureA he5e hK (e := by first | with_reducible rfl | (simp -implicitDefEqProofs (maxSteps := 1000000) (disch := omega) [go_sem, t0_5e, t3_5e, or0_5e] <;> omega))
   ·intro c15 h
    try simp -implicitDefEqProofs (disch := omega) at c15
    refine vcK ?_
    simp -implicitDefEqProofs only [go_sem]
    subst hc11
    refine IWp_seqF fun cb hc17 => ?_
    refine vcK ?_
    try simp -implicitDefEqProofs (maxSteps := 1000000) (disch := omega) [go_sem, t0_5e, t3_5e, or0_5e]
    subst hc17
    refine vcK ?_
    simp -implicitDefEqProofs only [go_sem]
    have er := Option.some.inj h
    subst er
    try simp -implicitDefEqProofs (maxSteps := 1000000) (disch := omega) [go_sem, t0_5e, t3_5e, or0_5e]
    refine retG_pureA he5e hK (e := by first | with_reducible rfl | (simp -implicitDefEqProofs (maxSteps := 1000000) (disch := omega) [go_sem, t0_5e, t3_5e, or0_5e] <;> omega))
 ·refine IWp_block ?_
  refine IWp_loopF (fun (s : (List (List UInt8)) × Int) tm' H' => ∃ n7 : Nat, Ext H H' ∧ H.next ≤ H'.next ∧ H.next ≤ n7 ∧ n7 < H'.next ∧ tm' 0 = .sl 2 (a0.map fun x => [.v (str x.fName), .sl 1 (x.fValues.map fun x => [.v (str x)])]) ∧ tm' 3 = .os n7 s.1.length ∧ tm' 6 = .sl 2 (a0.map fun x => [.v (str x.fName), .sl 1 (x.fValues.map fun x => [.v (str x)])]) ∧ tm' 7 = .v (.int .i64 (a0.length : Int)) ∧ tm' 8 = .v (.int .i64 s.2) ∧ H'.obj n7 = some (.row 1 (s.1.map fun x => [.v (str x)]))) hl5q ?_ ?_
  ·refine UpI.gh (Gh.nilrow (d := 3) (sz := 1) (by omega) (by (simp -implicitDefEqProofs (maxSteps := 1000000) (disch := omega) [go_sem] <;> omega))) ?_
   refine .same ⟨H.next, by repeat (first | exact (Ext.refl hw) | refine Ext.new ?_ _ | refine Ext.set ?_ (by first | omega | (simp [go_sem]; done) | (simp [go_sem]; omega)) _ | refine Ext.del ?_ (by first | omega | (simp [go_sem]; done) | (simp [go_sem]; omega))), by first | with_reducible rfl | with_reducible assumption | omega | (simp -implicitDefEqProofs (maxSteps := 1000000) (disch := omega) [go_sem] <;> omega), by first | with_reducible rfl | with_reducible assumption | omega | (simp -implicitDefEqProofs (maxSteps := 1000000) (disch := omega) [go_sem] <;> omega), by first | with_reducible rfl | with_reducible assumption | omega | (simp -implicitDefEqProofs (maxSteps := 1000000) (disch := omega) [go_sem] <;> omega), by first | with_reducible rfl | with_reducible assumption | (simp -implicitDefEqProofs (maxSteps := 1000000) (disch := omega) [go_sem] <;> omega), by first | with_reducible rfl | with_reducible assumption | (simp -implicitDefEqProofs (maxSteps := 1000000) (disch := omega) [go_sem] <;> omega), by first | with_reducible rfl | with_reducible assumption | (simp -implicitDefEqProofs (maxSteps := 1000000) (disch := omega) [go_sem] <;> omega), by first | with_reducible rfl | with_reducible assumption | (simp -implicitDefEqProofs (maxSteps := 1000000) (disch := omega) [go_sem] <;> omega), by first | with_reducible rfl | with_reducible assumption | (simp -implicitDefEqProofs (maxSteps := 1000000) (disch := omega) [go_sem] <;> omega), by first | with_reducible rfl | with_reducible assumption | (simp -implicitDefEqProofs (maxSteps := 1000000) (disch := omega) [go_sem] <;> omega)⟩
  ·rintro I5 hI5 ⟨v6, v8⟩ x5 tm5 H5 ⟨n7, he5, hl5, hr0_5, hs0_5, t0_5, t3_5, t6_5, t7_5, t8_5, or0_5⟩ h hret5
   replace h : F17_b5 a0 v6 v8 = some x5 := h
   unfold F17_b5 at h
   refine IWp_seqF fun cb hc19 => ?_
   refine vcK ?_
   try simp -implicitDefEqProofs (maxSteps := 1000000) (disch := omega) [go_sem, t0_5, t3_5, t6_5, t7_5, t8_5, or0_5]
   subst hc19
   refine IWp_seqF fun cb hc20 => ?_
   refine IWp_cond_i h (by first | with_reducible rfl | (simp -implicitDefEqProofs (maxSteps := 1000000) (disch := omega) [go_sem, t0_5, t3_5, t6_5, t7_5, t8_5, or0_5] <;> omega)) rfl ?_ ?_
   ·intro c21 h
    try simp -implicitDefEqProofs (disch := omega) at c21
    refine vcK ?_
    simp -implicitDefEqProofs only [go_sem]
    subst hc20
    refine IWp_seqF fun cb hc22 => ?_
    refine IWp_block ?_
    refine IWp_seqF fun cb hc23 => ?_
    refine vcK ?_
    obtain ⟨g24, h⟩ := gd_some.1 h
    try simp -implicitDefEqProofs (disch := omega) at g24
    try simp -implicitDefEqProofs (maxSteps := 1000000) (disch := omega) [go_sem, t0_5, t3_5, t6_5, t7_5, t8_5, or0_5]
    subst hc23
    refine IWp_seqF fun cb hc25 => ?_
    refine vcK ?_
    obtain ⟨g26, h⟩ := gd_some.1 h
    try simp -implicitDefEqProofs (disch := omega) at g26
    try simp -implicitDefEqProofs (maxSteps := 1000000) (disch := omega) [go_sem, t0_5, t3_5, t6_5, t7_5, t8_5, or0_5]
    subst hc25
    refine IWp_seqF fun cb hc27 => ?_
    refine IWp_drawP [2, 7, 27, 33] [0, 1, 2, 3, 4, 5, 6, 7, 8, 9, 10, 11, 12, 13, 14, 15, 16, 17, 18, 19, 20, 21, 22, 23, 24, 25, 26, 27, 28, 29, 30, 31, 32, 33, 34, 35] (by kernel_rfl) (by kernel_rfl) (fun _ _ _ _ h => h) ?_
    try simp -implicitDefEqProofs (maxSteps := 1000000) (disch := omega) [go_sem, t0_5, t3_5, t6_5, t7_5, t8_5, or0_5]
    obtain ⟨x28, hx28, h⟩ := bind_some' h
    refine PureC.mk _ (fun _ _ hK => ICalls.eqA (args' := [.v (str ((a0.getD v8.toNat S50.zero).fName))]) (by first | with_reducible rfl | (simp -implicitDefEqProofs (maxSteps := 1000000) (disch := omega) [go_sem, t0_5, t3_5, t6_5, t7_5, t8_5, or0_5] <;> omega)) (F45_ok ((a0.getD v8.toNat S50.zero).fName) hx28 hK)) ?_
    try simp -implicitDefEqProofs (maxSteps := 1000000) (disch := omega) [go_sem, t0_5, t3_5, t6_5, t7_5, t8_5, or0_5]
    refine splitG_f h (by first | with_reducible rfl | (simp -implicitDefEqProofs (maxSteps := 1000000) (disch := omega) [go_sem, t0_5, t3_5, t6_5, t7_5, t8_5, or0_5] <;> omega)) ?_ ?_
    ·intro c43 h
     try simp -implicitDefEqProofs (disch := omega) at c43
     try simp -implicitDefEqProofs (maxSteps := 1000000) (disch := omega) [go_sem, t0_5, t3_5, t6_5, t7_5, t8_5, or0_5]
     subst hc27
     refine IWp_cond_t (by first | with_reducible rfl | (simp -implicitDefEqProofs (maxSteps := 1000000) (disch := omega) [go_sem, t0_5, t3_5, t6_5, t7_5, t8_5, or0_5] <;> omega)) rfl ?_
     refine IWp_seqF fun cb hc29 => ?_
     refine vcK ?_
     try simp -implicitDefEqProofs (maxSteps := 1000000) (disch := omega) [go_sem, t0_5, t3_5, t6_5, t7_5, t8_5, or0_5]
     subst hc29
     refine vcK ?_
     simp -implicitDefEqProofs only [go_sem]
     have e5 := Option.some.inj h
     subst e5
     have e5 := hret5 _ rfl
     subst e5
     replace h : some 2 = some r := hk5
     have er := Option.some.inj h
     subst er
     try simp -implicitDefEqProofs (maxSteps := 1000000) (disch := omega) [go_sem, t0_5, t3_5, t6_5, t7_5, t8_5, or0_5]
     refine retG_pureA he5 hK (e := by first | with_reducible rfl | (simp -implicitDefEqProofs (maxSteps := 1000000) (disch := omega) [go_sem, t0_5, t3_5, t6_5, t7_5, t8_5, or0_5] <;> omega))
    ·intro c43 h
     try simp -implicitDefEqProofs (disch := omega) at c43
     try simp -implicitDefEqProofs (maxSteps := 1000000) (disch := omega) [go_sem, t0_5, t3_5, t6_5, t7_5, t8_5, or0_5]
     obtain ⟨x30, hx30, h⟩ := bind_some' h
     refine PureC.mk _ (fun _ _ hK => ICalls.eqA (args' := [.v (str ((a0.getD v8.toNat S50.zero).fName))]) (by first | with_reducible rfl | (simp -implicitDefEqProofs (maxSteps := 1000000) (disch := omega) [go_sem, t0_5, t3_5, t6_5, t7_5, t8_5, or0_5] <;> omega)) (F41_ok ((a0.getD v8.toNat S50.zero).fName) hx30 hK)) ?_
     try simp -implicitDefEqProofs (maxSteps := 1000000) (disch := omega) [go_sem, t0_5, t3_5, t6_5, t7_5, t8_5, or0_5]
     refine splitG_f h (by first | with_reducible rfl | (simp -implicitDefEqProofs (maxSteps := 1000000) (disch := omega) [go_sem, t0_5, t3_5, t6_5, t7_5, t8_5, or0_5] <;> omega)) ?_ ?_
     ·intro c42 h
      try simp -implicitDefEqProofs (disch := omega) at c42
      try simp -implicitDefEqProofs (maxSteps := 1000000) (disch := omega) [go_sem, t0_5, t3_5, t6_5, t7_5, t8_5, or0_5]
      subst hc27
      refine IWp_cond_t (by first | with_reducible rfl | (simp -implicitDefEqProofs (maxSteps := 1000000) (disch := omega) [go_sem, t0_5, t3_5, t6_5, t7_5, t8_5, or0_5] <;> omega)) rfl ?_
      refine IWp_seqF fun cb hc31 => ?_
      refine vcK ?_
      try simp -implicitDefEqProofs (maxSteps := 1000000) (disch := omega) [go_sem, t0_5, t3_5, t6_5, t7_5, t8_5, or0_5]
      subst hc31
      refine vcK ?_
      simp -implicitDefEqProofs only [go_sem]
      have e5 := Option.some.inj h
      subst e5
      have e5 := hret5 _ rfl
      subst e5
      replace h : some 2 = some r := hk5
      have er := Option.some.inj h
      subst er
      try simp -implicitDefEqProofs (maxSteps := 1000000) (disch := omega) [go_sem, t0_5, t3_5, t6_5, t7_5, t8_5, or0_5]
      refine retG_pureA he5 hK (e := by first | with_reducible rfl | (simp -implicitDefEqProofs (maxSteps := 1000000) (disch := omega) [go_sem, t0_5, t3_5, t6_5, t7_5, t8_5, or0_5] <;> omega))
     ·intro c42 h
      try simp -implicitDefEqProofs (disch := omega) at c42
      try simp -implicitDefEqProofs (maxSteps := 1000000) (disch := omega) [go_sem, t0_5, t3_5, t6_5, t7_5, t8_5, or0_5]
      refine splitG_f h (by first | with_reducible rfl | (simp -implicitDefEqProofs (maxSteps := 1000000) (disch := omega) [go_sem, t0_5, t3_5, t6_5, t7_5, t8_5, or0_5] <;> omega)) ?_ ?_
      ·intro c41 h
       try simp -implicitDefEqProofs (disch := omega) at c41
       try simp -implicitDefEqProofs (maxSteps := 1000000) (disch := omega) [go_sem, t0_5, t3_5, t6_5, t7_5, t8_5, or0_5]
       subst hc27
       refine IWp_cond_t (by first | with_reducible rfl | (simp -implicitDefEqProofs (maxSteps := 1000000) (disch := omega) [go_sem, t0_5, t3_5, t6_5, t7_5, t8_5, or0_5] <;> omega)) rfl ?_
       refine IWp_seqF fun cb hc32 => ?_
       refine vcK ?_
       try simp -implicitDefEqProofs (maxSteps := 1000000) (disch := omega) [go_sem, t0_5, t3_5, t6_5, t7_5, t8_5, or0_5]
       subst hc32
       refine vcK ?_
       simp -implicitDefEqProofs only [go_sem]
       have e5 := Option.some.inj h
       subst e5
       have e5 := hret5 _ rfl
       subst e5
       replace h : some 2 = some r := hk5
       have er := Option.some.inj h
       subst er
       try simp -implicitDefEqProofs (maxSteps := 1000000) (disch := omega) [go_sem, t0_5, t3_5, t6_5, t7_5, t8_5, or0_5]
       refine retG_pureA he5 hK (e := by first | with_reducible rfl | (simp -implicitDefEqProofs (maxSteps := 1000000) (disch := omega) [go_sem, t0_5, t3_5, t6_5, t7_5, t8_5, or0_5] <;> omega))
      ·intro c41 h
       try simp -implicitDefEqProofs (disch := omega) at c41
       try simp -implicitDefEqProofs (maxSteps := 1000000) (disch := omega) [go_sem, t0_5, t3_5, t6_5, t7_5, t8_5, or0_5]
       refine splitG_f h (by first | with_reducible rfl | (simp -implicitDefEqProofs (maxSteps := 1000000) (disch := omega) [go_sem, t0_5, t3_5, t6_5, t7_5, t8_5, or0_5] <;> omega)) ?_ ?_
       ·intro c40 h
        try simp -implicitDefEqProofs (disch := omega) at c40
        try simp -implicitDefEqProofs (maxSteps := 1000000) (disch := omega) [go_sem, t0_5, t3_5, t6_5, t7_5, t8_5, or0_5]
        subst hc27
        refine IWp_cond_t (by first | with_reducible rfl | (simp -implicitDefEqProofs (maxSteps := 1000000) (disch := omega) [go_sem, t0_5, t3_5, t6_5, t7_5, t8_5, or0_5] <;> omega)) rfl ?_
        refine IWp_seqF fun cb hc33 => ?_
        refine vcK ?_
        try simp -implicitDefEqProofs (maxSteps := 1000000) (disch := omega) [go_sem, t0_5, t3_5, t6_5, t7_5, t8_5, or0_5]
        subst hc33
        refine vcK ?_
        simp -implicitDefEqProofs only [go_sem]
        have e5 := Option.some.inj h
        subst e5
        have e5 := hret5 _ rfl
        subst e5
        replace h : some 2 = some r := hk5
        have er := Option.some.inj h
        subst er
        try simp -implicitDefEqProofs (maxSteps := 1000000) (disch := omega) [go_sem, t0_5, t3_5, t6_5, t7_5, t8_5, or0_5]
        refine retG_pureA he5 hK (e := by first | with_reducible rfl | (simp -implicitDefEqProofs (maxSteps := 1000000) (disch := omega) [go_sem, t0_5, t3_5, t6_5, t7_5, t8_5, or0_5] <;> omega))
       ·intro c40 h
        try simp -implicitDefEqProofs (disch := omega) at c40
        try simp -implicitDefEqProofs (maxSteps := 1000000) (disch := omega) [go_sem, t0_5, t3_5, t6_5, t7_5, t8_5, or0_5]
        obtain ⟨x34, hx34, h⟩ := bind_some' h
        refine PureC.mk _ (fun _ _ hK => ICalls.eqA (args' := [.sl 1 (((a0.getD v8.toNat S50.zero).fValues).map fun x => [.v (str x)]), .v (.func (.func 47) #[] #[])]) (by first | with_reducible rfl | (simp -implicitDefEqProofs (maxSteps := 1000000) (disch := omega) [go_sem, t0_5, t3_5, t6_5, t7_5, t8_5, or0_5] <;> omega)) (F46_ok ((a0.getD v8.toNat S50.zero).fValues) hx34 hK)) ?_
        try simp -implicitDefEqProofs (maxSteps := 1000000) (disch := omega) [go_sem, t0_5, t3_5, t6_5, t7_5, t8_5, or0_5]
        refine splitG_f h (by first | with_reducible rfl | (simp -implicitDefEqProofs (maxSteps := 1000000) (disch := omega) [go_sem, t0_5, t3_5, t6_5, t7_5, t8_5, or0_5] <;> omega)) ?_ ?_
        ·intro c39 h
         try simp -implicitDefEqProofs (disch := omega) at c39
         try simp -implicitDefEqProofs (maxSteps := 1000000) (disch := omega) [go_sem, t0_5, t3_5, t6_5, t7_5, t8_5, or0_5]
         subst hc27
         refine IWp_cond_t (by first | with_reducible rfl | (simp -implicitDefEqProofs (maxSteps := 1000000) (disch := omega) [go_sem, t0_5, t3_5, t6_5, t7_5, t8_5, or0_5] <;> omega)) rfl ?_
         refine IWp_seqF fun cb hc35 => ?_
         refine vcK ?_
         try simp -implicitDefEqProofs (maxSteps := 1000000) (disch := omega) [go_sem, t0_5, t3_5, t6_5, t7_5, t8_5, or0_5]
         subst hc35
         refine vcK ?_
         simp -implicitDefEqProofs only [go_sem]
         have e5 := Option.some.inj h
         subst e5
         have e5 := hret5 _ rfl
         subst e5
         replace h : some 2 = some r := hk5
         have er := Option.some.inj h
         subst er
         try simp -implicitDefEqProofs (maxSteps := 1000000) (disch := omega) [go_sem, t0_5, t3_5, t6_5, t7_5, t8_5, or0_5]
         refine retG_pureA he5 hK (e := by first | with_reducible rfl | (simp -implicitDefEqProofs (maxSteps := 1000000) (disch := omega) [go_sem, t0_5, t3_5, t6_5, t7_5, t8_5, or0_5] <;> omega))
        ·intro c39 h
         try simp -implicitDefEqProofs (disch := omega) at c39
         try simp -implicitDefEqProofs (maxSteps := 1000000) (disch := omega) [go_sem, t0_5, t3_5, t6_5, t7_5, t8_5, or0_5]
         obtain ⟨x36, hx36, h⟩ := bind_some' h
         refine PureC.mk _ (fun _ _ hK => ICalls.eqA (args' := [.sl 1 (((a0.getD v8.toNat S50.zero).fValues).map fun x => [.v (str x)])]) (by first | with_reducible rfl | (simp -implicitDefEqProofs (maxSteps := 1000000) (disch := omega) [go_sem, t0_5, t3_5, t6_5, t7_5, t8_5, or0_5] <;> omega)) (F48_ok ((a0.getD v8.toNat S50.zero).fValues) hx36 hK)) ?_
         try simp -implicitDefEqProofs (maxSteps := 1000000) (disch := omega) [go_sem, t0_5, t3_5, t6_5, t7_5, t8_5, or0_5]
         subst hc27
         refine IWp_cond_i h (by first | with_reducible rfl | (simp -implicitDefEqProofs (maxSteps := 1000000) (disch := omega) [go_sem, t0_5, t3_5, t6_5, t7_5, t8_5, or0_5] <;> omega)) rfl ?_ ?_
         ·intro c37 h
          try simp -implicitDefEqProofs (disch := omega) at c37
          refine IWp_seqF fun cb hc38 => ?_
          refine vcK ?_
          try simp -implicitDefEqProofs (maxSteps := 1000000) (disch := omega) [go_sem, t0_5, t3_5, t6_5, t7_5, t8_5, or0_5]
          subst hc38
          refine vcK ?_
          simp -implicitDefEqProofs only [go_sem]
          have e5 := Option.some.inj h
          subst e5
          have e5 := hret5 _ rfl
          subst e5
          replace h : some 2 = some r := hk5
          have er := Option.some.inj h
          subst er
          try simp -implicitDefEqProofs (maxSteps := 1000000) (disch := omega) [go_sem, t0_5, t3_5, t6_5, t7_5, t8_5, or0_5]
          refine retG_pureA he5 hK (e := by first | with_reducible rfl | (simp -implicitDefEqProofs (maxSteps := 1000000) (disch := omega) [go_sem, t0_5, t3_5, t6_5, t7_5, t8_5, or0_5] <;> omega))
         ·intro c37 h
          try simp -implicitDefEqProofs (disch := omega) at c37
          refine vcK ?_
          simp -implicitDefEqProofs only [go_sem]
          subst hc22
          refine vcK ?_
          try simp -implicitDefEqProofs (maxSteps := 1000000) (disch := omega) [go_sem, t0_5, t3_5, t6_5, t7_5, t8_5, or0_5]
          have e5 := Option.some.inj h
          subst e5
          refine loopN_mk hI5 ((v6 ++ ([(a0.getD v8.toNat S50.zero).fName]), IntKind.i64.wrap (v8 + 1))) ?_
          refine .same ⟨n7, by repeat (first | exact he5 | refine Ext.new ?_ _ | refine Ext.set ?_ (by first | omega | (simp [go_sem]; done) | (simp [go_sem]; omega)) _ | refine Ext.del ?_ (by first | omega | (simp [go_sem]; done) | (simp [go_sem]; omega))), by first | with_reducible rfl | with_reducible assumption | omega | (simp -implicitDefEqProofs (maxSteps := 1000000) (disch := omega) [go_sem, t0_5, t3_5, t6_5, t7_5, t8_5, or0_5] <;> omega), by first | with_reducible rfl | with_reducible assumption | omega | (simp -implicitDefEqProofs (maxSteps := 1000000) (disch := omega) [go_sem, t0_5, t3_5, t6_5, t7_5, t8_5, or0_5] <;> omega), by first | with_reducible rfl | with_reducible assumption | omega | (simp -implicitDefEqProofs (maxSteps := 1000000) (disch := omega) [go_sem, t0_5, t3_5, t6_5, t7_5, t8_5, or0_5] <;> omega), by first | with_reducible rfl | with_reducible assumption | (simp -implicitDefEqProofs (maxSteps := 1000000) (disch := omega) [go_sem, t0_5, t3_5, t6_5, t7_5, t8_5, or0_5] <;> omega), by first | with_reducible rfl | with_reducible assumption | (simp -implicitDefEqProofs (maxSteps := 1000000) (disch := omega) [go_sem, t0_5, t3_5, t6_5, t7_5, t8_5, or0_5] <;> omega), by first | with_reducible rfl | with_reducible assumption | (simp -implicitDefEqProofs (maxSteps := 1000000) (disch := omega) [go_sem, t0_5, t3_5, t6_5, t7_5, t8_5, or0_5] <;> omega), by first | with_reducible rfl | with_reducible assumption | (simp -implicitDefEqProofs (maxSteps := 1000000) (disch := omega) [go_sem, t0_5, t3_5, t6_5, t7_5, t8_5, or0_5] <;> omega), by first | with_reducible rfl | with_reducible assumption | (simp -implicitDefEqProofs (maxSteps := 1000000) (disch := omega) [go_sem, t0_5, t3_5, t6_5, t7_5, t8_5, or0_5] <;> omega), by first | with_reducible rfl | with_reducible assumption | (simp -implicitDefEqProofs (maxSteps := 1000000) (disch := omega) [go_sem, t0_5, t3_5, t6_5, t7_5, t8_5, or0_5] <;> omega)⟩
   ·intro c21 h
    try simp -implicitDefEqProofs (disch := omega) at c21
    refine vcK ?_
    simp -implicitDefEqProofs only [go_sem]
    have e5 := Option.some.inj h
    subst e5
    have hy5 := hret5 _ rfl
    refine hc5 _ _ ?_
    refine .same ⟨n7, v6, hy5, by repeat (first | exact he5 | refine Ext.new ?_ _ | refine Ext.set ?_ (by first | omega | (simp [go_sem]; done) | (simp [go_sem]; omega)) _ | refine Ext.del ?_ (by first | omega | (simp [go_sem]; done) | (simp [go_sem]; omega))), by first | with_reducible rfl | with_reducible assumption | omega | (simp -implicitDefEqProofs (maxSteps := 1000000) (disch := omega) [go_sem, t0_5, t3_5, t6_5, t7_5, t8_5, or0_5] <;> omega), by first | with_reducible rfl | with_reducible assumption | omega | (simp -implicitDefEqProofs (maxSteps := 1000000) (disch := omega) [go_sem, t0_5, t3_5, t6_5, t7_5, t8_5, or0_5] <;> omega), by first | with_reducible rfl | with_reducible assumption | omega | (simp -implicitDefEqProofs (maxSteps := 1000000) (disch := omega) [go_sem, t0_5, t3_5, t6_5, t7_5, t8_5, or0_5] <;> omega), by first | with_reducible rfl | with_reducible assumption | (simp -implicitDefEqProofs (maxSteps := 1000000) (disch := omega) [go_sem, t0_5, t3_5, t6_5, t7_5, t8_5, or0_5] <;> omega), by first | with_reducible rfl | with_reducible assumption | (simp -implicitDefEqProofs (maxSteps := 1000000) (disch := omega) [go_sem, t0_5, t3_5, t6_5, t7_5, t8_5, or0_5] <;> omega), by first | with_reducible rfl | with_reducible assumption | (simp -implicitDefEqProofs (maxSteps := 1000000) (disch := omega) [go_sem, t0_5, t3_5, t6_5, t7_5, t8_5, or0_5] <;> omega)⟩

end Go.Idl

