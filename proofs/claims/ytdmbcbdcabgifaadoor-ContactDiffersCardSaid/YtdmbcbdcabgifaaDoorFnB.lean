/- More functions of the program over contacts, walked. Conditions: none. -/
import Derived.Test.YtdmbcbdcabgifaaDoorFnA
set_option linter.unusedSimpArgs false
set_option linter.unusedVariables false

namespace Go.Idl
open Go Go.RowKit

variable {P : Program} {N : Nat} {tm : Tm} {H : IHeap}

theorem run_toBytes {e : TypeId} (s : ByteArray) (w : World) : ∃ w' cap xs f, (Conv.stringToBytes e s).run P w = .ok (.slice (some ⟨w.heap.size, 0, none⟩) s.size cap) w' ∧ s.size ≤ cap ∧
    w.heap.size < w'.heap.size ∧ w'.os = w.os ∧ w'.tape = w.tape ∧ w'.output = w.output ∧ (∀ b, b < w.heap.size → w'.heap[b]? = w.heap[b]?) ∧ w'.heap[w.heap.size]? = some (.cells xs e f) ∧ xs.size = cap ∧
    FreeZ xs.size f ∧ (∀ j, j < s.size → xs[j]? = some (.int .u8 ((bytes s).getD j 0).toNat)) := by
  let cap := grownCap w s.size 0 e
  let xs : Array Value := (s.data.map fun b => Value.int .u8 b.toNat) ++ Array.replicate (cap - s.size) (.int .u8 0)
  have hge : s.size ≤ cap := grownCap_ge w s.size 0 e
  have hsz : xs.size = cap := by
    have : s.data.size = s.size := rfl
    simp [xs]; omega
  have hhp : (w.drew.alloc (.cells xs e)).heap.size = w.heap.size + 1 := by
    show (w.heap.push _).size = _
    simp
  have hnew : (w.drew.alloc (.cells xs e)).heap[w.heap.size]? = some (.cells xs e (0, 0)) := by
    have := World.alloc_heap_new w.drew (.cells xs e)
    exact this
  have hfz : ∀ i, ((w.drew.alloc (.cells xs e)).freeze ⟨w.heap.size, xs.size, none⟩ 1).heap[i]? = if i = w.heap.size then some (.cells xs e (xs.size, xs.size + 1)) else w.heap[i]? := by
    intro i
    simp only [World.freeze]
    rw [if_neg (by omega), Array.getElem?_modify]
    by_cases h : i = w.heap.size
    · rw [if_pos h.symm, if_pos h, h, hnew]
      rfl
    · rw [if_neg (fun h' => h h'.symm), if_neg h, alloc_get]
      have : ¬ i = w.drew.heap.size := h
      rw [if_neg this]
      rfl
  refine ⟨(w.drew.alloc (.cells xs e)).freeze ⟨w.heap.size, xs.size, none⟩ 1, cap, xs, (xs.size, xs.size + 1), ?_, hge, ?_, rfl, rfl, rfl, fun b hb => by rw [hfz, if_neg (by omega)], by rw [hfz, if_pos rfl], hsz, fun i hi h => by simp at h; omega, fun j hj => ?_⟩
  · unfold Conv.stringToBytes
    have hsh : (w.drew.alloc (.cells xs e)).shape? w.heap.size = some (e, xs.size) := by simp only [World.shape?, hnew]
    have hch : (choose (.appendCap s.size 0 e)).run P w = .ok cap w.drew := by
      rw [run_choose]
      simp only [Question.forced, Bool.false_eq_true, if_false]
      rfl
    simp only [Sem.run_bind, hch, Result.andThen_ok, newRow, run_newObj_alloc, Sem.run_pure, markStringish, run_shape]
    have hxs : (s.data.map fun b => Value.int .u8 b.toNat) ++ Array.replicate (cap - s.size) (.int .u8 0) = xs := rfl
    rw [hxs]
    have hdh : w.drew.heap.size = w.heap.size := rfl
    rw [hdh, hsh]
    simp only [run_freeze, Result.andThen_ok]
  · show w.heap.size < ((w.drew.alloc (.cells xs e)).freeze ⟨w.heap.size, xs.size, none⟩ 1).heap.size
    simp only [World.freeze]
    rw [if_neg (by omega)]
    rw [Array.size_modify, hhp]
    omega
  · have hj' : j < s.data.size := hj
    have e1 : (bytes s).getD j 0 = s.data[j] := by
      simp only [bytes, List.getD_eq_getElem?_getD, Array.getElem?_toList, Array.getElem?_eq_getElem hj', Option.getD_some]
    rw [e1]
    simp only [xs]
    rw [Array.getElem?_append_left (by simpa using hj'), Array.getElem?_map, Array.getElem?_eq_getElem hj']
    rfl
@[go_sem] theorem roundQ_normal {K : IHeap → Prop} {J : Exit → IHeap → Prop} : roundQ K J .normal tm H = K H := rfl
@[go_sem] theorem roundQ_ret {K : IHeap → Prop} {J : Exit → IHeap → Prop} : roundQ K J .ret tm H = J .ret H := rfl
@[go_sem] theorem roundQ_exit {K : IHeap → Prop} {J : Exit → IHeap → Prop} {id : Nat} : roundQ K J (.exit id) tm H = J (.exit id) H := rfl

section
variable {l : Nat} {J : Tm → IHeap → Prop} {Q : Exit → Tm → IHeap → Prop}
@[go_sem] theorem jumpQ_normal : jumpQ l J Q .normal tm H = Q .normal tm H := rfl
@[go_sem] theorem jumpQ_ret : jumpQ l J Q .ret tm H = Q .ret tm H := rfl
@[go_sem] theorem jumpQ_exit {id : Nat} : jumpQ l J Q (.exit id) tm H = Q (.exit id) tm H := rfl
@[go_sem] theorem jumpQ_goto {l' : Nat} : jumpQ l J Q (.goto l') tm H = (l' = l ∧ J tm H) := rfl
@[go_sem] theorem jumpQ_panic {c : List PanicEntry} : jumpQ l J Q (.panic c) tm H = Q (.panic c) tm H := rfl
end

/-- The bytes of a text, frozen. -/
theorem IOper_toBytes {o : Oper} {K : IV → IHeap → Prop} {Qp : List PanicEntry → IHeap → Prop} {ta tb e : TypeId} {d : TypeDesc} {x : Operand} {s : ByteArray} (ho : o.op = .convert ta tb x) (hok : okO N o = true) (ha : P.underlying ta = some d)
    (hb : P.underlying tb = some (.slice e)) (he : P.underlying e = some (.int .u8)) (hx : ev tm x = .v (.string s)) (hs : (bytes s).length ≤ maxN) (hK : K (.sl 1 (byt (bytes s))) H) : IOper P N o tm H K Qp := by
  obtain ⟨dst, op, type, pos, after, guard⟩ := o
  simp only at ho
  subst ho
  refine IOper_of (by simp) fun w g a sm r hN => ?_
  subst hN
  have rx := r.ev (x := x) (by simp [okO, Op.operands] at hok; exact hok.1)
  rw [hx] at rx
  have hxe := rx.v_eq
  obtain ⟨w', cap, xs, f, h1, h2, h3, h4, h5, h6, h7, h8, h9, h10, h11⟩ := run_toBytes (P := P) (e := e) s w
  have hg := sm.grow (w' := w') (Nat.le_of_lt h3) h4 h5 h6 h7
  have hsz := bytes_size s
  have hcs : CellsR w g xs ((bytes s).map fun b => .v (.int .u8 b.toNat)) := by
    refine ⟨by rw [List.length_map, ← hsz, h9]; exact h2, fun j c hj => ?_⟩
    have hjl : j < (bytes s).length := by
      have := (List.getElem?_eq_some_iff.1 hj).1
      simpa using this
    have := h11 j (by rw [hsz]; exact hjl)
    refine ⟨_, this, rfl, ?_⟩
    simp only [List.getElem?_map, Option.map_eq_some_iff] at hj
    obtain ⟨b, hb', rfl⟩ := hj
    rw [List.getD_eq_getElem?_getD, hb']
    exact .v _
  have hR := frozen_new hg.2 (sz := 1) (n := s.size) (cap := cap) h8 (sm.fresh (Nat.le_refl _)) hcs (by rw [List.length_map, hsz]; omega) h2 (by rw [hsz]; exact hs)
  rw [chunks_one' (by rw [List.length_map, hsz]), List.map_map] at hR
  refine ⟨_, w', g, H, _, .inl ?_, hg.2, hg.1, hR, hK⟩
  simp [execOp, convert, hxe, run_underlying ha, run_underlying hb, run_underlying he, h1]
end Go.Idl

namespace Go.Idl
open Go Go.Proofs.Tryd

/-- A byte that a field's value may hold. -/
def byteOk (f : Int) (x : UInt8) : Bool := !(decide (x.toNat < 32) && (!decide (x.toNat = 10) || !decide (f = 5)))
def valueS (f : Int) (s : List UInt8) : Bool := s.all (byteOk f) && decide (1 ≤ s.length) && decide (s.length ≤ 200)

set_option pp.deepTerms false in
set_option maxRecDepth 4000 in
theorem value44 {H : IHeap} {K : IEnd → IHeap → Prop} (f : Int) (s : List UInt8) (hs : s.length ≤ 1000000) (hK : K (.ret (.v (.bool (valueS f s)))) H) : ICalls prog 44 [.v (str s), .cp [.v (.int .i64 f)]] H K := by
  refine ICalls_vc (N := 32) func44 (by kernel_rfl) rfl (by kernel_rfl) (by kernel_rfl) fun hw hbd hnb => ?_
  simp (maxSteps := 1000000) (disch := omega) [go_sem]
  refine IOper_toBytes rfl (by kernel_rfl) underlying9 underlying51 underlying5 (by simp [go_sem]; rfl) (by rw [bytes_mk]; simp only [maxN]; omega) ?_
  simp (maxSteps := 1000000) (disch := omega) [go_sem, byt]
  refine vcLoop_mk (fun tm' H' => H' = H ∧ ∃ i : Nat, tm' 0 = .v (str s) ∧ tm' 1 = .cp [.v (.int .i64 f)] ∧ tm' 7 = .sl 1 (s.map fun b => [.v (.int .u8 b.toNat)]) ∧ tm' 8 = .v (.int .i64 s.length) ∧ tm' 9 = .v (.int .i64 i) ∧ i ≤ s.length ∧ ∀ x ∈ s.take i, byteOk f x = true) (fun tm' _ => s.length - (intOf (tm' 9)).toNat) (.same ?_) ?_
  · exact ⟨rfl, 0, by simp [go_sem], by simp [go_sem], by simp [go_sem], by simp [go_sem], by simp [go_sem], by omega, by simp⟩
  rintro I' μ' hI hμ tm' H' ⟨rfl, i, h0, h1, h7, h8, h9, hi, hr⟩
  refine vc_sound _ (by kernel_rfl) _ _ _ ?_
  simp (maxSteps := 1000000) (disch := omega) [go_sem, h0, h1, h7, h8, h9]
  refine condB ?_ ?_ <;> intro hc <;> (try simp at hc)
  · simp (maxSteps := 1000000) (disch := omega) [go_sem, h0, h1, h7, h8, h9]
    have fin : byteOk f s[i] = false → valueS f s = false := by
      intro h
      have : s.all (byteOk f) = false := by
        rw [Bool.eq_false_iff]
        intro h'
        rw [List.all_eq_true.1 h' s[i] (List.getElem_mem _)] at h
        cases h
      simp [valueS, this]
    have go : byteOk f s[i] = true → ∀ x ∈ s.take (i + 1), byteOk f x = true := by
      intro h x hx
      rw [List.take_succ_eq_append_getElem hc, List.mem_append] at hx
      rcases hx with hx | hx
      · exact hr x hx
      · simp at hx; subst hx; exact h
    (first | refine splitG' ?_ ?_ | refine splitB' ?_ ?_) <;> intro g1 <;> (try simp at g1)
    · simp (maxSteps := 1000000) (disch := omega) [go_sem, h0, h1, h7, h8, h9]
      have g1' : s[i].toNat < 32 := by omega
      (first | refine splitG' ?_ ?_ | refine splitB' ?_ ?_) <;> intro g2 <;> (try simp at g2)
      · simp (maxSteps := 1000000) (disch := omega) [go_sem, h0, h1, h7, h8, h9]
        rw [fin (by have : ¬ s[i].toNat = 10 := by omega
                    simp [byteOk, g1', this])] at hK
        exact retG_pure (.refl hw) (.v _) hK
      · simp (maxSteps := 1000000) (disch := omega) [go_sem, h0, h1, h7, h8, h9]
        have g2' : s[i].toNat = 10 := by omega
        refine condB ?_ ?_ <;> intro g3 <;> (try simp at g3)
        · simp (maxSteps := 1000000) (disch := omega) [go_sem, h0, h1, h7, h8, h9]
          rw [fin (by simp [byteOk, g2', g3])] at hK
          exact retG_pure (.refl hw) (.v _) hK
        · simp (maxSteps := 1000000) (disch := omega) [go_sem, h0, h1, h7, h8, h9]
          exact .of hI hμ ⟨rfl, i + 1, by simp [go_sem, h0], by simp [go_sem, h1], by simp [go_sem, h7], by simp [go_sem, h8], by simp [go_sem], by omega, go (by simp [byteOk, g2', g3])⟩ (by simp [go_sem, h9]; omega)
    · simp (maxSteps := 1000000) (disch := omega) [go_sem, h0, h1, h7, h8, h9]
      have g1' : ¬ s[i].toNat < 32 := by omega
      exact .of hI hμ ⟨rfl, i + 1, by simp [go_sem, h0], by simp [go_sem, h1], by simp [go_sem, h7], by simp [go_sem, h8], by simp [go_sem], by omega, go (by simp [byteOk, g1'])⟩ (by simp [go_sem, h9]; omega)
  · simp (maxSteps := 1000000) (disch := omega) [go_sem, h0, h1, h7, h8, h9]
    have hall : s.all (byteOk f) = true := by
      rw [List.take_of_length_le (by omega)] at hr
      exact List.all_eq_true.2 hr
    (first | refine splitG' ?_ ?_ | refine splitB' ?_ ?_) <;> intro g1 <;> (try simp at g1)
    · simp (maxSteps := 1000000) (disch := omega) [go_sem, h0, h1, h7, h8, h9]
      have e : valueS f s = decide ((s.length : Int) ≤ 200) := by
        have : 1 ≤ s.length := by omega
        simp [valueS, hall, this]
        omega
      rw [e] at hK
      exact retG_pure (.refl hw) (.v _) hK
    · simp (maxSteps := 1000000) (disch := omega) [go_sem, h0, h1, h7, h8, h9]
      have e : valueS f s = false := by
        have : ¬ 1 ≤ s.length := by omega
        simp [valueS, this]
      rw [e] at hK
      exact retG_pure (.refl hw) (.v _) hK
end Go.Idl

namespace Go.Idl
open Go Go.Proofs.Tryd

theorem notvalue35 {H : IHeap} {K : IEnd → IHeap → Prop} (f : Int) (s : List UInt8) (k : Nat) (hs : s.length ≤ 1000000) (ho : H.obj k = some (.cells [.fn (.func 44) [] [.cp [.v (.int .i64 f)]]])) (hK : K (.ret (.v (.bool (!valueS f s)))) H) : ICalls prog 35 [.v (str s), .p k 0] H K := by
  refine ICalls_vc (N := 8) func35 (by kernel_rfl) rfl (by kernel_rfl) (by kernel_rfl) fun hw hbd hnb => ?_
  simp (maxSteps := 1000000) (disch := omega) [go_sem, ho]
  refine value44 f s hs ?_
  simp (maxSteps := 1000000) (disch := omega) [go_sem]
  exact retG_pure (.refl hw) (.v _) hK

def mostS (f : Int) : Int := if 6 ≤ f then 8 else 1
/-- May a field hold these? -/
def fieldOk (f : Int) (l : List (List UInt8)) : Bool := decide ((l.length : Int) ≤ mostS f) && !(l.any fun s => !valueS f s) && risesS l
def checkS (c : List (List (List UInt8))) : Bool := (c.zipIdx.all fun p => fieldOk p.2 p.1) && decide ((c.getD 0 []).length = 1)

set_option pp.deepTerms false in
set_option maxRecDepth 4000 in
theorem check19 {H : IHeap} {K : IEnd → IHeap → Prop} (c : List (List (List UInt8))) (hc : c.length = 8) (hs : ∀ l, l ∈ c → l.length ≤ 1000000 ∧ ∀ s, s ∈ l → s.length ≤ 1000000) (hK : K (.ret (.v (.int .i64 (if checkS c = true then 0 else 2)))) H) : ICalls prog 19 [cS c] H K := by
  have ht : List.take 8 (c.map sS) = c.map sS := by rw [List.take_of_length_le]; simp [hc]
  refine ICalls_vc (N := 31) func19 (by kernel_rfl) rfl (by kernel_rfl) (by kernel_rfl) fun hw hbd hnb => ?_
  simp (maxSteps := 1000000) (disch := omega) [go_sem, hc, ht]
  refine fields25 c hc ?_
  simp (maxSteps := 1000000) (disch := omega) [go_sem, hc, ht]
  refine IWp_rangeFunc (gf := 49) (cap := [.cp [.sl 1 ((c.map sS).map fun x => [x])]]) (by kernel_rfl) (by simp [go_sem]) (all49 (c.map sS))
    (fun i Hu => Hu.obj H.next = some (.cells (c.map sS)) ∧ (∃ x, Hu.obj (H.next + 1) = some (.cells [x])) ∧ Ext H Hu ∧ H.next + 2 ≤ Hu.next ∧ ∀ p, p ∈ c.zipIdx.take i → fieldOk p.2 p.1 = true) ?_ (by simp) ?_ ?_ ?_
  · exact ⟨by simp [go_sem], ⟨_, by simp [go_sem]; rfl⟩, (Ext.refl hw).new _ |>.new _, by simp [go_sem], by simp⟩
  · intro args h
    obtain ⟨i, hi⟩ := List.getElem?_of_mem h
    simp only [ixs, List.getElem?_map, Option.map_eq_some_iff] at hi
    obtain ⟨p, _, rfl⟩ := hi
    rfl
  · rintro i args Hu hx ⟨h1, ⟨x2, h2⟩, h3, h4, h5⟩
    have hi : i < c.length := by
      have := (List.getElem?_eq_some_iff.1 hx).1
      simpa [ixs_length] using this
    rw [ixs_get (by simpa using hi)] at hx
    cases hx
    have hsi := hs c[i] (List.getElem_mem _)
    refine vc_sound _ (by kernel_rfl) _ _ _ ?_
    simp (maxSteps := 1000000) (disch := omega) [go_sem, setPs, hc]
    refine vc_sound _ (by kernel_rfl) _ _ _ ?_
    simp (maxSteps := 1000000) (disch := omega) [go_sem, setPs, hc, h1, h2]
    refine value32 _ ?_
    simp (maxSteps := 1000000) (disch := omega) [go_sem, setPs, hc, h1, h2]
    refine most33 _ ?_
    simp (maxSteps := 1000000) (disch := omega) [go_sem, setPs, hc, h1, h2]
    have n1 : ¬ H.next = Hu.next := by omega
    have n2 : ¬ H.next = Hu.next + 1 := by omega
    have bad : fieldOk i c[i] = false → checkS c = false := by
      intro h
      have : (c.zipIdx.all fun p => fieldOk p.2 p.1) = false := by
        rw [Bool.eq_false_iff]
        intro h'
        have hm : (c[i], i) ∈ c.zipIdx := by
          rw [List.mem_zipIdx_iff_getElem?]
          simp [hi]
        have := List.all_eq_true.1 h' _ hm
        rw [h] at this
        cases this
      rw [checkS, this, Bool.false_and]
    have fin : ∀ J : IHeap, checkS c = false → Ext H J → retG (.v (.int .i64 2)) H K J := by
      intro J h he
      rw [h] at hK
      exact retG_pure he (.v _) hK
    (first | refine splitG' ?_ ?_ | refine splitB' ?_ ?_) <;> intro g1 <;> (try simp at g1)
    · simp (maxSteps := 1000000) (disch := omega) [go_sem, setPs, hc, h1, h2, n1, n2]
      have hb : fieldOk i c[i] = false := by
        have : ¬ ((c[i].length : Int) ≤ mostS i) := by simp only [mostS]; omega
        simp [fieldOk, this]
      exact fin _ (bad hb) (((h3.skip.new _).set (by omega) _).set (by omega) _).skip
    · simp (maxSteps := 1000000) (disch := omega) [go_sem, setPs, hc, h1, h2, n1, n2]
      refine contains34 c[i] hsi.1 35 _ (fun s => !valueS i s) (fun s hs' K' hK' => notvalue35 i s _ (hsi.2 s hs') (by simp [go_sem]) hK') ?_
      simp (maxSteps := 1000000) (disch := omega) [go_sem, setPs, hc, h1, h2, n1, n2]
      (first | refine splitG' ?_ ?_ | refine splitB' ?_ ?_) <;> intro g2 <;> (try simp at g2)
      · simp (maxSteps := 1000000) (disch := omega) [go_sem, setPs, hc, h1, h2, n1, n2]
        have hb : fieldOk i c[i] = false := by
          have e : (c[i].any fun s => !valueS i s) = true := by simpa using g2
          simp [fieldOk, e]
        exact fin _ (bad hb) (((h3.skip.new _).set (by omega) _).set (by omega) _).skip
      · simp (maxSteps := 1000000) (disch := omega) [go_sem, setPs, hc, h1, h2, n1, n2]
        refine rises36 c[i] hsi.1 ?_
        simp (maxSteps := 1000000) (disch := omega) [go_sem, setPs, hc, h1, h2, n1, n2]
        refine condB ?_ ?_ <;> intro g3 <;> (try simp at g3)
        · simp (maxSteps := 1000000) (disch := omega) [go_sem, setPs, hc, h1, h2, n1, n2]
          have hb : fieldOk i c[i] = false := by simp [fieldOk, g3]
          exact fin _ (bad hb) (((h3.skip.new _).set (by omega) _).set (by omega) _).skip
        · simp (maxSteps := 1000000) (disch := omega) [go_sem, setPs, hc, h1, h2, n1, n2]
          refine ⟨(h3.skip.new _).set (by omega) _, by omega, fun a b hp => ?_⟩
          rw [List.take_succ_eq_append_getElem (by simpa using hi), List.mem_append] at hp
          rcases hp with hp | hp
          · exact h5 (a, b) hp
          · simp at hp
            obtain ⟨rfl, rfl⟩ := hp
            simp [fieldOk, g3]
            exact ⟨by simp only [mostS]; omega, g2⟩
  · rintro Hu ⟨h1, ⟨x2, h2⟩, h3, h4, h5⟩
    simp (maxSteps := 1000000) (disch := omega) [go_sem, hc, h1, h2]
    have hall : (c.zipIdx.all fun p => fieldOk p.2 p.1) = true := by
      rw [List.all_eq_true]
      intro p hp
      refine h5 p ?_
      rw [ixs_length, List.length_map, List.take_of_length_le (by simp)]
      exact hp
    have e0 : checkS c = decide (c[0].length = 1) := by
      have : c.getD 0 [] = c[0] := by simp [hc]
      simp only [checkS, hall, Bool.true_and, this]
    rw [e0] at hK
    refine condB ?_ ?_ <;> intro g1 <;> (try simp at g1)
    · simp (maxSteps := 1000000) (disch := omega) [go_sem, hc, h1, h2]
      have : ¬ c[0].length = 1 := by omega
      simp [this] at hK
      exact retG_pure ((h3.skip).set (by omega) _) (.v _) hK
    · simp (maxSteps := 1000000) (disch := omega) [go_sem, hc, h1, h2]
      have : c[0].length = 1 := by omega
      simp [this] at hK
      exact retG_pure ((h3.skip).set (by omega) _) (.v _) hK
end Go.Idl

namespace Go.Idl
open Go Go.Proofs.Tryd

/-- The values of a field, put in order where it holds several. -/
def orderS (f : Int) (v : List (List UInt8)) : List (List UInt8) := if 6 ≤ f then compactS (sortS v) else v
def emptyC : List (List (List UInt8)) := List.replicate 8 []
/-- A contact with other values of a field. -/
def withS (c : List (List (List UInt8))) (f : Int) (v : List (List UInt8)) : List (List (List UInt8)) × Int :=
  if checkS c = true ∧ 0 ≤ f ∧ f < 8 then
    if checkS (c.set f.toNat (orderS f v)) = true then (c.set f.toNat (orderS f v), 0) else (emptyC, 2)
  else (emptyC, 2)

theorem Fz.nils {H J : IHeap} (n : Nat) : Fz H J (.ag (List.replicate n (.v (.slice none 0 0)))) (.ag (List.replicate n (.sl 1 []))) := .ag _ _ (by simp) fun j c c' h1 h2 => by
  rw [List.eq_of_mem_replicate (List.mem_of_getElem? h1), List.eq_of_mem_replicate (List.mem_of_getElem? h2)]
  exact .wk _ _ (.nil 1) (NB_sl.2 (by simp))

theorem compT_mem : ∀ (t : List (List UInt8)) (p x : List UInt8), x ∈ compT p t → x ∈ t
  | [], _, _, h => by simp [compT] at h
  | y :: t, p, x, h => by
    simp only [compT] at h
    split at h
    · exact List.mem_cons_of_mem _ (compT_mem t y x h)
    · rcases List.mem_cons.1 h with h | h
      · rw [h]; exact List.mem_cons_self
      · exact List.mem_cons_of_mem _ (compT_mem t y x h)
theorem compT_len : ∀ (t : List (List UInt8)) (p : List UInt8), (compT p t).length ≤ t.length
  | [], _ => by simp [compT]
  | y :: t, p => by
    simp only [compT]
    split
    · have := compT_len t y; simp; omega
    · have := compT_len t y; simp; omega
theorem compact_mem {l : List (List UInt8)} {x : List UInt8} (h : x ∈ compactS l) : x ∈ l := by
  cases l with
  | nil => simp [compactS] at h
  | cons y t =>
    rcases List.mem_cons.1 h with h | h
    · rw [h]; exact List.mem_cons_self
    · exact List.mem_cons_of_mem _ (compT_mem t y x h)
theorem compact_len (l : List (List UInt8)) : (compactS l).length ≤ l.length := by
  cases l with
  | nil => simp [compactS]
  | cons y t => have := compT_len t y; simp [compactS]; omega

theorem put_formS (cs : List (List (List UInt8))) (i : Nat) (x : List (List UInt8)) (h : i < cs.length) : List.take i (cs.map sS) ++ sS x :: List.drop (i + 1) (cs.map sS) = (cs.set i x).map sS := by
  rw [List.set_eq_take_append_cons_drop, if_pos h]
  simp

theorem NB_sS {n : Nat} (l : List (List UInt8)) : NB n (sS l) := by
  refine NB_sl.2 fun e he c hc => ?_
  obtain ⟨s, _, rfl⟩ := List.mem_map.1 he
  simp at hc
  subst hc
  exact .v _
theorem NB_cS {n : Nat} (c : List (List (List UInt8))) : NB n (cS c) := by
  refine NB_ag.2 fun e he => ?_
  obtain ⟨s, _, rfl⟩ := List.mem_map.1 he
  exact NB_sS s

theorem cS_empty : cS emptyC = .ag (List.replicate 8 (.sl 1 [])) := by simp [cS, emptyC, sS]

set_option pp.deepTerms false in
set_option maxRecDepth 8000 in
theorem with9 {H : IHeap} {K : IEnd → IHeap → Prop} (c : List (List (List UInt8))) (f : Int) (v : List (List UInt8)) (hc : c.length = 8) (hs : ∀ l, l ∈ c → l.length ≤ 1000000 ∧ ∀ s, s ∈ l → s.length ≤ 1000000) (hv : v.length ≤ 1000000 ∧ ∀ s, s ∈ v → s.length ≤ 1000000)
    (hK : K (.ret (.tu [cS (withS c f v).1, .v (.int .i64 (withS c f v).2)])) H) : ICalls prog 9 [cS c, .v (.int .i64 f), sS v] H K := by
  have ht : List.take 8 (c.map sS) = c.map sS := by rw [List.take_of_length_le]; simp [hc]
  refine ICalls_vc (N := 38) func9 (by kernel_rfl) rfl (by kernel_rfl) (by kernel_rfl) fun hw hbd hnb => ?_
  simp (maxSteps := 1000000) (disch := omega) [go_sem, hc, ht]
  refine IWp_scope 0 (fun tm' H' => tm' 3 = .p H.next 0 ∧ tm' 6 = .p (H.next + 1) 0 ∧ withS c f v = (emptyC, 2) ∧ (∃ cs, cs.length = 8 ∧ H'.obj (H.next + 1) = some (.cells cs)) ∧ Ext H H' ∧ H.next + 2 ≤ H'.next) (fun _ _ => 0) rfl ?_ ?_
  · refine vc_sound _ (by kernel_rfl) _ _ _ ?_
    simp (maxSteps := 1000000) (disch := omega) [go_sem, hc, ht]
    refine check19 c hc hs ?_
    simp (maxSteps := 1000000) (disch := omega) [go_sem, hc, ht]
    have H2 : Ext H ((H.new (.cells (c.map sS))).new (.cells (List.replicate 8 (.v (.slice none 0 0))))) := (Ext.refl hw).new _ |>.new _
    (first | refine splitG' ?_ ?_ | refine splitB' ?_ ?_) <;> intro g1 <;> (try simp at g1)
    · simp (maxSteps := 1000000) (disch := omega) [go_sem, hc, ht]
      have e : withS c f v = (emptyC, 2) := by simp [withS, g1]
      exact ⟨e, H2⟩
    · simp (maxSteps := 1000000) (disch := omega) [go_sem, hc, ht]
      (first | refine splitG' ?_ ?_ | refine splitB' ?_ ?_) <;> intro g2 <;> (try simp at g2)
      · simp (maxSteps := 1000000) (disch := omega) [go_sem, hc, ht]
        have e : withS c f v = (emptyC, 2) := by
          have : ¬ (0 ≤ f) := by omega
          simp [withS, this]
        exact ⟨e, H2⟩
      · simp (maxSteps := 1000000) (disch := omega) [go_sem, hc, ht]
        refine condB ?_ ?_ <;> intro g3 <;> (try simp at g3)
        · simp (maxSteps := 1000000) (disch := omega) [go_sem, hc, ht]
          have e : withS c f v = (emptyC, 2) := by
            have : ¬ (f < 8) := by omega
            simp [withS, this]
          exact ⟨e, H2⟩
        · simp (maxSteps := 1000000) (disch := omega) [go_sem, hc, ht]
          refine copy16 c hc (fun s h => (hs s h).1) ?_
          simp (maxSteps := 1000000) (disch := omega) [go_sem, hc, ht]
          refine clone20 v hv.1 ?_
          simp (maxSteps := 1000000) (disch := omega) [go_sem, hc, ht]
          have hput : List.take f.toNat (c.map sS) ++ .sl 1 (v.map fun s => [.v (str s)]) :: List.drop (f.toNat + 1) (c.map sS) = (c.set f.toNat v).map sS := by
            rw [List.set_eq_take_append_cons_drop, if_pos (by omega)]
            simp
          refine condB ?_ ?_ <;> intro g4 <;> (try simp at g4)
          · simp (maxSteps := 1000000) (disch := omega) [go_sem, hc, ht]
            refine values23 _ rfl ?_
            simp (maxSteps := 1000000) (disch := omega) [go_sem, hc, ht]
            refine sorted22 v hv.1 39 _ [] (by have := values39 (v.map fun s => .v (str s)); simp only [List.map_map] at this; exact this) (by simp) fun r J hJ ho => ?_
            simp (maxSteps := 1000000) (disch := omega) [go_sem]
            refine compact21 _ (by rw [sortS_length]; exact hv.1) r hJ ho fun J2 hJ2 => ?_
            have o1 := hJ2.sub (H.next + 1) _ (by simp [go_sem]; rfl)
            rw [hput] at o1
            have hx : (compactS (sortS v)).length ≤ 1000000 ∧ ∀ s, s ∈ compactS (sortS v) → s.length ≤ 1000000 := by
              refine ⟨Nat.le_trans (compact_len _) (by rw [sortS_length]; exact hv.1), fun s hs' => hv.2 s ?_⟩
              have := compact_mem hs'
              simpa [sortS] using this
            have hput2 : List.take f.toNat ((c.set f.toNat v).map sS) ++ .sl 1 ((compactS (sortS v)).map fun s => [.v (str s)]) :: List.drop (f.toNat + 1) ((c.set f.toNat v).map sS) = (c.set f.toNat (compactS (sortS v))).map sS := by
              have h := put_formS (c.set f.toNat v) f.toNat (compactS (sortS v)) (by simp; omega)
              rw [List.set_set] at h
              exact h
            have hlen : (c.set f.toNat (compactS (sortS v))).length = 8 := by simp [hc]
            have ht2 : List.take 8 ((c.set f.toNat (compactS (sortS v))).map sS) = (c.set f.toNat (compactS (sortS v))).map sS := by rw [List.take_of_length_le]; simp [hc]
            have hs2 : ∀ l, l ∈ c.set f.toNat (compactS (sortS v)) → l.length ≤ 1000000 ∧ ∀ s, s ∈ l → s.length ≤ 1000000 := by
              intro l hl
              rcases List.mem_or_eq_of_mem_set hl with h | h
              · exact hs l h
              · subst h; exact hx
            have ho : orderS f v = compactS (sortS v) := by simp only [orderS]; rw [if_pos g4]
            have hle : H.next + 2 ≤ J2.next := by
              have := hJ2.le
              simp [go_sem] at this
              omega
            have hE : Ext H J2 := ((((Ext.refl hw).new _).new _).set (by omega) _).trans hJ2
            generalize compactS (sortS v) = x at *
            simp (maxSteps := 1000000) (disch := omega) [go_sem, o1, -List.map_set]
            rw [hput2, ht2]
            refine check19 _ hlen hs2 ?_
            simp (maxSteps := 1000000) (disch := omega) [go_sem, -List.map_set]
            refine condB ?_ ?_ <;> intro g5 <;> (try simp at g5)
            · simp (maxSteps := 1000000) (disch := omega) [go_sem, -List.map_set]
              exact ⟨by simp [withS, g1, g2, g3, ho, g5], hc, hE.set (by omega) _, hle⟩
            · simp (maxSteps := 1000000) (disch := omega) [go_sem, ht2, -List.map_set]
              have e : withS c f v = (c.set f.toNat x, 0) := by simp [withS, g1, g2, g3, ho, g5]
              rw [e] at hK
              have hd : List.drop c.length (List.map sS (c.set f.toNat x)) = [] := by simp
              rw [hd, List.append_nil, ht2]
              exact retG_pure (hE.set (by omega) _) (NB_tu.2 (by
                intro c' hc'
                simp only [List.mem_cons, List.not_mem_nil, or_false] at hc'
                rcases hc' with rfl | rfl
                · exact NB_cS _
                · exact .v _)) hK
          · have hlen : (c.set f.toNat v).length = 8 := by simp [hc]
            have ht2 : List.take 8 ((c.set f.toNat v).map sS) = (c.set f.toNat v).map sS := by rw [List.take_of_length_le]; simp [hc]
            have hs2 : ∀ l, l ∈ c.set f.toNat v → l.length ≤ 1000000 ∧ ∀ s, s ∈ l → s.length ≤ 1000000 := by
              intro l hl
              rcases List.mem_or_eq_of_mem_set hl with h | h
              · exact hs l h
              · subst h; exact hv
            have ho : orderS f v = v := by simp only [orderS]; rw [if_neg (by omega)]
            simp (maxSteps := 1000000) (disch := omega) [go_sem, hc, ht]
            rw [hput, ht2]
            refine check19 _ hlen hs2 ?_
            simp (maxSteps := 1000000) (disch := omega) [go_sem, hc, ht]
            refine condB ?_ ?_ <;> intro g5 <;> (try simp at g5)
            · simp (maxSteps := 1000000) (disch := omega) [go_sem, hc, ht]
              have e : withS c f v = (emptyC, 2) := by simp [withS, g1, g2, g3, ho, g5]
              exact ⟨e, (((Ext.refl hw).new _).new _).set (by omega) _⟩
            · simp (maxSteps := 1000000) (disch := omega) [go_sem, hc, ht, ht2]
              have e : withS c f v = (c.set f.toNat v, 0) := by simp [withS, g1, g2, g3, ho, g5]
              rw [e] at hK
              have ht3 : List.take 8 ((List.map sS c).set f.toNat (.sl 1 (List.map (fun s => [.v (str s)]) v))) = (c.set f.toNat v).map sS := by
                rw [List.take_of_length_le (by simp [hc]), List.map_set]
              rw [ht3]
              exact retG_pure ((((Ext.refl hw).new _).new _).set (by omega) _) (NB_tu.2 (by
                intro c' hc'
                simp only [List.mem_cons, List.not_mem_nil, or_false] at hc'
                rcases hc' with rfl | rfl
                · exact NB_cS _
                · exact .v _)) hK
  · rintro tm' H' ⟨g3, g6, e, ⟨cs, hcs, h1⟩, he, hn⟩
    refine vc_sound _ (by kernel_rfl) _ _ _ ?_
    simp (maxSteps := 1000000) (disch := omega) [go_sem, hc, ht, g3, g6, h1, hcs, bdP]
    rw [e] at hK
    simp only [cS_empty] at hK
    exact retG_fz (J := H) (he.set (by omega) _).endH (.tu2 (.nils 8) (.same (.v _))) hK
end Go.Idl

namespace Go.Idl
open Go Go.Proofs.Tryd

def textsS (l : List (List UInt8)) : Bool := decide (l.length ≤ 20 ∧ ∀ s ∈ l, s.length ≤ 400)

set_option pp.deepTerms false in
set_option maxRecDepth 4000 in
theorem light6 {H : IHeap} {K : IEnd → IHeap → Prop} (c : List (List (List UInt8))) (hc : c.length = 8) (hK : K (.ret (.v (.bool (c.all textsS)))) H) : ICalls prog 6 [cS c] H K := by
  have ht : List.take 8 (c.map sS) = c.map sS := by rw [List.take_of_length_le]; simp [hc]
  refine ICalls_vc (N := 13) func6 (by kernel_rfl) rfl (by kernel_rfl) (by kernel_rfl) fun hw hbd hnb => ?_
  simp (maxSteps := 1000000) (disch := omega) [go_sem, hc, ht]
  refine vcLoop_mk (fun tm' H' => H' = H.new (.cells (c.map sS)) ∧ ∃ i : Nat, tm' 1 = .p H.next 0 ∧ tm' 3 = .v (.int .i64 i) ∧ i ≤ 8 ∧ ∀ l ∈ c.take i, textsS l = true) (fun tm' _ => 8 - (intOf (tm' 3)).toNat) (.same ?_) ?_
  · exact ⟨rfl, 0, by simp [go_sem], by simp [go_sem], by omega, by simp⟩
  rintro I' μ' hI hμ tm' H' ⟨rfl, i, h1, h3, hi, hr⟩
  refine vc_sound _ (by kernel_rfl) _ _ _ ?_
  simp (maxSteps := 1000000) (disch := omega) [go_sem, h1, h3]
  refine condB ?_ ?_ <;> intro hc1 <;> (try simp at hc1)
  · have hi' : i < c.length := by omega
    simp (maxSteps := 1000000) (disch := omega) [go_sem, h1, h3, hc, ht]
    refine texts_spec c[i] fun r hr' => ?_
    simp (maxSteps := 1000000) (disch := omega) [go_sem, h1, h3, hc, ht]
    refine condB ?_ ?_ <;> intro hc2 <;> (try simp at hc2)
    · simp (maxSteps := 1000000) (disch := omega) [go_sem, h1, h3, hc, ht]
      have e : c.all textsS = false := by
        rw [Bool.eq_false_iff]
        intro h
        have := List.all_eq_true.1 h c[i] (List.getElem_mem _)
        rw [hc2] at hr'
        simp only [textsS, ← hr'] at this
        cases this
      rw [e] at hK
      exact retG_pure ((Ext.refl hw).new _) (.v _) hK
    · simp (maxSteps := 1000000) (disch := omega) [go_sem, h1, h3, hc, ht]
      refine .of hI hμ ⟨rfl, i + 1, by simp [go_sem, h1], by simp [go_sem], by omega, fun l hl => ?_⟩ (by simp [go_sem, h3]; omega)
      rw [List.take_succ_eq_append_getElem hi', List.mem_append] at hl
      rcases hl with hl | hl
      · exact hr l hl
      · simp at hl; subst hl
        rw [hc2] at hr'
        exact hr'.symm
  · simp (maxSteps := 1000000) (disch := omega) [go_sem, h1, h3]
    have e : c.all textsS = true := by
      rw [List.take_of_length_le (by omega)] at hr
      exact List.all_eq_true.2 hr
    rw [e] at hK
    exact retG_pure ((Ext.refl hw).new _) (.v _) hK
end Go.Idl

namespace Go.Idl
open Go Go.Proofs.Tryd

def nS (l : List Nat) : List (List IV) := l.map fun (n : Nat) => [.v (.int .i64 n)]
/-- The fields in which two contacts differ. -/
def differS (a b : List (List (List UInt8))) (n : Nat) : List Nat := (List.range n).filter fun i => !decide (a.getD i [] = b.getD i [])

theorem differ_succ (a b : List (List (List UInt8))) (n : Nat) : differS a b (n + 1) = differS a b n ++ (if a.getD n [] = b.getD n [] then [] else [n]) := by
  simp only [differS, List.range_succ, List.filter_append, List.filter_cons, List.filter_nil]
  by_cases h : a.getD n [] = b.getD n []
  · simp [h]
  · simp [h]

set_option pp.deepTerms false in
set_option maxRecDepth 4000 in
theorem differ14 {H : IHeap} {K : IEnd → IHeap → Prop} (a b : List (List (List UInt8))) (ha : a.length = 8) (hb : b.length = 8) (hK : K (.ret (.sl 1 (nS (differS a b 8)))) H) : ICalls prog 14 [cS a, cS b] H K := by
  have hta : List.take 8 (a.map sS) = a.map sS := by rw [List.take_of_length_le]; simp [ha]
  have htb : List.take 8 (b.map sS) = b.map sS := by rw [List.take_of_length_le]; simp [hb]
  refine ICalls_vc (N := 24) func14 (by kernel_rfl) rfl (by kernel_rfl) (by kernel_rfl) fun hw hbd hnb => ?_
  simp (maxSteps := 1000000) (disch := omega) [go_sem, ha, hb, hta, htb]
  refine vcLoop_mk (fun tm' H' => ∃ i : Nat, tm' 2 = .p H.next 0 ∧ tm' 3 = .p (H.next + 1) 0 ∧ tm' 6 = .v (.int .i64 i) ∧ i ≤ 8 ∧ H'.obj H.next = some (.cells (a.map sS)) ∧ H'.obj (H.next + 1) = some (.cells (b.map sS)) ∧ Ext H H' ∧ H.next + 2 ≤ H'.next ∧
    ((tm' 5 = .v (.slice none 0 0) ∧ differS a b i = []) ∨ ∃ k, H.next + 2 ≤ k ∧ k < H'.next ∧ tm' 5 = .os k (differS a b i).length ∧ H'.obj k = some (.row 1 (nS (differS a b i))))) (fun tm' _ => 8 - (intOf (tm' 6)).toNat) (.same ?_) ?_
  · exact ⟨0, by simp [go_sem], by simp [go_sem], by simp [go_sem], by omega, by simp [go_sem], by simp [go_sem], (Ext.refl hw).new _ |>.new _, by simp [go_sem], .inl ⟨by simp [go_sem], rfl⟩⟩
  rintro I' μ' hI hμ tm' H' ⟨i, h2, h3, h6, hi, o1, o2, he, hn, hd⟩
  refine vc_sound _ (by kernel_rfl) _ _ _ ?_
  simp (maxSteps := 1000000) (disch := omega) [go_sem, h2, h3, h6]
  refine condB ?_ ?_ <;> intro hc1 <;> (try simp at hc1)
  · have hia : i < a.length := by omega
    have hib : i < b.length := by omega
    simp (maxSteps := 1000000) (disch := omega) [go_sem, h2, h3, h6, ha, hb]
    refine IWp_draw [0, 1, 2, 3, 4, 5, 6, 7] (by kernel_rfl) (by kernel_rfl) (fun _ _ _ _ h => h) ?_
    simp (maxSteps := 1000000) (disch := omega) [go_sem, h2, h3, h6, ha, hb, o1, o2]
    refine same17 a[i] b[i] fun r hr => ?_
    simp (maxSteps := 1000000) (disch := omega) [go_sem, h2, h3, h6, ha, hb, o1, o2]
    have hs := differ_succ a b i
    have ga : a.getD i [] = a[i] := by simp [hia]
    have gb : b.getD i [] = b[i] := by simp [hib]
    rw [ga, gb] at hs
    have n1 : ¬ H.next = H'.next := by omega
    have n2 : ¬ H.next + 1 = H'.next := by omega
    refine condB ?_ ?_ <;> intro hc2 <;> (try simp at hc2)
    · have hne : ¬ a[i] = b[i] := by rw [hc2] at hr; simpa using hr.symm
      rw [if_neg hne] at hs
      rcases hd with ⟨h5, hd⟩ | ⟨k, hk1, hk2, h5, hd⟩
      · simp (maxSteps := 1000000) (disch := omega) [go_sem, h2, h3, h6, h5, ha, hb, o1, o2]
        rw [hd, List.nil_append] at hs
        refine .of hI hμ ⟨i + 1, by simp [go_sem, h2], by simp [go_sem, h3], by simp [go_sem], by omega, by simp [go_sem, n1, o1], by simp [go_sem, n2, o2], he.new _, by simp [go_sem]; omega, .inr ⟨H'.next, hn, by simp [go_sem], ?_, ?_⟩⟩ (by simp [go_sem, h6]; omega)
        · simp [go_sem, hs]
        · simp [go_sem, hs, nS]
      · have n3 : ¬ H.next = k := by omega
        have n4 : ¬ H.next + 1 = k := by omega
        have hl : (differS a b i).length ≤ 8 := by
          simp only [differS]
          exact Nat.le_trans (List.length_filter_le _ _) (by simp; omega)
        simp (maxSteps := 1000000) (disch := omega) [go_sem, h2, h3, h6, h5, ha, hb, o1, o2, hd, nS]
        refine .of hI hμ ⟨i + 1, by simp [go_sem, h2], by simp [go_sem, h3], by simp [go_sem], by omega, by simp [go_sem, n3, o1], by simp [go_sem, n4, o2], he.set (by omega) _, by simp [go_sem]; omega, .inr ⟨k, hk1, by simp [go_sem]; omega, ?_, ?_⟩⟩ (by simp [go_sem, h6]; omega)
        · simp [go_sem, hs]
        · simp [go_sem, hs, nS]
    · have heq : a[i] = b[i] := by rw [hc2] at hr; simpa using hr.symm
      rw [if_pos heq, List.append_nil] at hs
      simp (maxSteps := 1000000) (disch := omega) [go_sem, h2, h3, h6, ha, hb, o1, o2]
      refine .of hI hμ ⟨i + 1, by simp [go_sem, h2], by simp [go_sem, h3], by simp [go_sem], by omega, o1, o2, he, hn, ?_⟩ (by simp [go_sem, h6]; omega)
      rw [hs]
      rcases hd with ⟨h5, hd⟩ | ⟨k, hk1, hk2, h5, hd⟩
      · exact .inl ⟨by simp [go_sem, h5], hd⟩
      · exact .inr ⟨k, hk1, hk2, by simp [go_sem, h5], hd⟩
  · rcases hd with ⟨h5, hd⟩ | ⟨k, hk1, hk2, h5, hd⟩
    · simp (maxSteps := 1000000) (disch := omega) [go_sem, h2, h3, h6, h5]
      have e : i = 8 := by omega
      subst e
      rw [hd] at hK
      exact retG_fz (J := H) he.endH (.wk _ _ (.nil 1) (NB_sl.2 (by simp [nS]))) hK
    · simp (maxSteps := 1000000) (disch := omega) [go_sem, h2, h3, h6, h5]
      have e : i = 8 := by omega
      subst e
      refine retG_fz (J := H) he.endH (.row (hw k (by omega)) hd (by simp [nS]) (NB_sl.2 fun x hx y hy => ?_)) hK
      obtain ⟨n, _, rfl⟩ := List.mem_map.1 hx
      simp at hy
      subst hy
      exact .v _

theorem differ_nil {a b : List (List (List UInt8))} (ha : a.length = 8) (hb : b.length = 8) : differS a b 8 = [] ↔ a = b := by
  simp only [differS, List.filter_eq_nil_iff, List.mem_range]
  constructor
  · intro h
    refine List.ext_getElem (by omega) fun i h1 h2 => ?_
    have := h i (by omega)
    simpa [h1, h2] using this
  · rintro rfl i _
    simp

theorem same11 {H : IHeap} {K : IEnd → IHeap → Prop} (a b : List (List (List UInt8))) (ha : a.length = 8) (hb : b.length = 8) (hK : K (.ret (.v (.bool (decide (a = b))))) H) : ICalls prog 11 [cS a, cS b] H K := by
  have hta : List.take 8 (a.map sS) = a.map sS := by rw [List.take_of_length_le]; simp [ha]
  have htb : List.take 8 (b.map sS) = b.map sS := by rw [List.take_of_length_le]; simp [hb]
  refine ICalls_vc (N := 10) func11 (by kernel_rfl) rfl (by kernel_rfl) (by kernel_rfl) fun hw hbd hnb => ?_
  simp (maxSteps := 1000000) (disch := omega) [go_sem, ha, hb, hta, htb]
  refine differ14 a b ha hb ?_
  simp (maxSteps := 1000000) (disch := omega) [go_sem, nS]
  have e : decide (differS a b 8 = []) = decide (a = b) := by simp only [differ_nil ha hb]
  rw [← e] at hK
  exact retG_pure ((Ext.refl hw).new _ |>.new _) (.v _) hK
end Go.Idl
