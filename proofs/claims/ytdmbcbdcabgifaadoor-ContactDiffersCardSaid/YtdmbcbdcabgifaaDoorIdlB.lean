/- The same logic: rows that grow, ends, calls, verification conditions, rewriting rules; general laws alone. Conditions: none. -/
import Derived.Test.YtdmbcbdcabgifaaDoorIdlA
import Derived.Laws.AppendOwn
import Derived.Lib.ConvBytes
set_option linter.unusedSimpArgs false
set_option linter.unusedVariables false

namespace Go.Idl
open Go Go.RowKit

variable {P : Program} {N : Nat} {tm : Tm} {H : IHeap}

theorem flatten_get {sz : Nat} (h0 : 0 < sz) : ∀ {es : List (List IV)}, (∀ e, e ∈ es → e.length = sz) → ∀ q : Nat, es.flatten[q]? = (es[q / sz]?).bind (·[q % sz]?)
  | [], _, q => by simp
  | e :: es, h, q => by
    have he : e.length = sz := h e (by simp)
    rw [List.flatten_cons]
    rcases Nat.lt_or_ge q sz with hq | hq
    · rw [List.getElem?_append_left (by omega), Nat.div_eq_of_lt hq, Nat.mod_eq_of_lt hq]
      rfl
    · rw [List.getElem?_append_right (by omega), he, flatten_get h0 (fun e he => h e (List.mem_cons_of_mem _ he))]
      have h1 : q / sz = (q - sz) / sz + 1 := by
        rw [Nat.div_eq_sub_div h0 hq]
      have h2 : q % sz = (q - sz) % sz := by
        rw [Nat.mod_eq_sub_mod hq]
      rw [h1, h2, List.getElem?_cons_succ]

theorem flatten_len {sz : Nat} : ∀ {es : List (List IV)}, (∀ e, e ∈ es → e.length = sz) → es.flatten.length = es.length * sz
  | [], _ => by simp
  | e :: es, h => by
    rw [List.flatten_cons, List.length_append, flatten_len (fun e he => h e (List.mem_cons_of_mem _ he)), h e (by simp), List.length_cons, Nat.add_mul]
    omega

/-- What is appended: its cells, in whatever world of this heap. -/
structure SrcR (P : Program) (w : World) (g : Gs) (sz : Nat) (x : Value) (es : List (List IV)) (news : Array Value) : Prop where
  len : ∀ w', w'.heap = w.heap → (Builtin.lenOf x).run P w' = .ok es.length w'
  cells : ∀ w', w'.heap = w.heap → (Builtin.firstCells sz es.length x).run P w' = .ok news w'
  all : ∀ e, e ∈ es → e.length = sz
  size : news.size = es.flatten.length
  one : ∀ v, v ∈ news.toList → v.oneCell' = true
  rel : ∀ (j : Nat) (y : Value) (c : IV), news[j]? = some y → es.flatten[j]? = some c → R w g y c

theorem srcR_nil {w : World} {g : Gs} {sz : Nat} {a : Option Addr} {cap : Nat} : SrcR P w g sz (.slice a 0 cap) [] #[] where
  len := fun w' _ => by simp [Builtin.lenOf]
  cells := fun w' _ => by cases a <;> simp [Builtin.firstCells, loadCells, loadCellsFrom]
  all := by simp
  size := by simp
  one := by simp
  rel := by simp

theorem srcR_sl {w : World} {g : Gs} {sz : Nat} {x : Value} {es : List (List IV)} (h0 : 0 < sz) (hx : R w g x (.sl sz es)) : ∃ news, SrcR P w g sz x es news := by
  rcases hx.sl_inv with ⟨rfl, a, cap, rfl⟩ | ⟨b, off, cap, cv, rfl, hb, hlt, hlen, hcap, hsz, hc, ho, hr⟩
  · exact ⟨_, srcR_nil⟩
  · have hfl := flatten_len hsz
    have hget : ∀ (q : Nat) (c : IV), es.flatten[q]? = some c → ∃ e, es[q / sz]? = some e ∧ e[q % sz]? = some c := by
      intro q c hq
      rw [flatten_get h0 hsz] at hq
      cases he : es[q / sz]? with
      | none => simp [he] at hq
      | some e => exact ⟨e, rfl, by simpa [he] using hq⟩
    have hval : ∀ q, q < es.length * sz → ∃ c, es.flatten[q]? = some c := fun q hq => ⟨_, List.getElem?_eq_getElem (by rw [hfl]; exact hq)⟩
    refine ⟨((List.range (es.length * sz)).map fun q => cv (q / sz) (q % sz)).toArray, ?_, ?_, hsz, by simp [hfl], ?_, ?_⟩
    · intro w' _; simp [Builtin.lenOf]
    · intro w' hw
      simp only [Builtin.firstCells]
      refine run_loadCells w' _ _ (fun q => cv (q / sz) (q % sz)) fun q hq => ?_
      rw [addr_add]
      have hcell : w'.cell? ⟨b, off + q, none⟩ = w.cell? ⟨b, off + q, none⟩ := by simp [World.cell?, hw]
      rw [hcell]
      obtain ⟨c, hcq⟩ := hval q hq
      obtain ⟨e, h1, h2⟩ := hget q c hcq
      have := hc _ e _ c h1 h2
      rw [← this]
      congr 2
      have := Nat.div_add_mod q sz
      rw [Nat.mul_comm] at this
      omega
    · intro v hv
      simp only [List.toList_toArray, List.mem_map, List.mem_range] at hv
      obtain ⟨q, hq, rfl⟩ := hv
      obtain ⟨c, hcq⟩ := hval q hq
      obtain ⟨e, h1, h2⟩ := hget q c hcq
      exact ho _ e _ c h1 h2
    · intro q y c hy hcq
      obtain ⟨e, h1, h2⟩ := hget q c hcq
      have hq : q < es.length * sz := by rw [← hfl]; exact (List.getElem?_eq_some_iff.1 hcq).1
      simp [hq] at hy
      subst hy
      exact hr _ e _ c h1 h2

def byt (l : List UInt8) : List (List IV) := l.map fun b => [.v (.int .u8 b.toNat)]

theorem byt_length (l : List UInt8) : (byt l).length = l.length := by simp [byt]
theorem byt_all (l : List UInt8) : ∀ e, e ∈ byt l → e.length = 1 := by
  intro e he
  simp only [byt, List.mem_map] at he
  obtain ⟨b, _, rfl⟩ := he
  rfl
theorem byt_flatten (l : List UInt8) : (byt l).flatten = l.map fun b => .v (.int .u8 b.toNat) := by
  induction l with
  | nil => rfl
  | cons b l ih => simp only [byt, List.map_cons, List.flatten_cons] at ih ⊢; rw [ih]; rfl

theorem srcR_str {w : World} {g : Gs} (s : ByteArray) : ∃ news, SrcR P w g 1 (.string s) (byt (bytes s)) news := by
  refine ⟨(s.data.map fun b => .int .u8 b.toNat), ?_, ?_, byt_all _, ?_, ?_, ?_⟩
  · intro w' _; simp [Builtin.lenOf, byt_length, ← bytes_size]
  · intro w' _
    have : s.extract 0 (byt (bytes s)).length = s := by
      rw [byt_length, ← bytes_size]
      exact ByteArray.extract_zero_size
    simp [Builtin.firstCells, this]
  · rw [byt_flatten]; simp [bytes]
  · intro v hv
    simp only [Array.toList_map, List.mem_map] at hv
    obtain ⟨b, _, rfl⟩ := hv
    rfl
  · intro j y c hy hc
    rw [byt_flatten] at hc
    simp only [Array.getElem?_map, Option.map_eq_some_iff] at hy
    obtain ⟨b, hb, rfl⟩ := hy
    have : (bytes s)[j]? = some b := by simpa [bytes] using hb
    simp only [List.getElem?_map, this, Option.map_some, Option.some.injEq] at hc
    subst hc
    exact .v _

theorem srcR_os {w : World} {g : Gs} {sz : Nat} {x : Value} {es : List (List IV)} {k n : Nat} (s : Sim w g H) (hk : H.obj k = some (.row sz es)) (hn : es.length = n) (hx : R w g x (.os k n)) :
    ∃ news, SrcR P w g sz x es news := by
  obtain ⟨a, cap, h1, h2, h3, h4, h5, h6⟩ := s.obj k _ hk
  have hsh : g.sh k = some (.row es.length) := by rw [s.sh, IHeap.sh, hk]; rfl
  have hmu : x = g.mu k := by
    cases hx with
    | os _ _ _ _ h _ => exact (h _ hsh).2 hn.symm
  rw [hmu, h1]
  rcases h6 with ⟨rfl, rfl⟩ | ⟨b, xs, el, f, rfl, h7, h8, h9, h10⟩
  · have : es = [] := List.eq_nil_of_length_eq_zero (by omega)
    subst this
    exact ⟨_, srcR_nil⟩
  · have hfl := flatten_len h4
    have hle := h10.1
    refine ⟨((List.range (es.length * sz)).map fun q => xs.getD q undef).toArray, ?_, ?_, h4, by simp [hfl], ?_, ?_⟩
    · intro w' _; simp [Builtin.lenOf]
    · intro w' hw
      simp only [Builtin.firstCells]
      refine run_loadCells w' _ _ (fun q => xs.getD q undef) fun q hq => ?_
      rw [addr_add, Nat.zero_add]
      have hlt : q < xs.size := by omega
      simp [World.cell?, hw, h7, hlt]
    · intro v hv
      simp only [List.toList_toArray, List.mem_map, List.mem_range] at hv
      obtain ⟨q, hq, rfl⟩ := hv
      obtain ⟨y, q1, q2, _⟩ := h10.2 q _ (List.getElem?_eq_getElem (by rw [hfl]; exact hq))
      simp [q1, q2]
    · intro q y c hy hcq
      have hq : q < es.length * sz := by rw [← hfl]; exact (List.getElem?_eq_some_iff.1 hcq).1
      obtain ⟨z, q1, _, q3⟩ := h10.2 q c hcq
      simp [hq, q1] at hy
      subst hy
      exact q3

/-- A slice type whose elements have cells: the element's type, its cells, its bytes. -/
def elI (P : Program) (t : TypeId) : Option (TypeId × Nat × Nat) :=
  match P.underlying t with
  | some (.slice e) =>
    match zeroOf P e with
    | some z => if z.cells.size = P.cellsOf e ∧ 0 < P.cellsOf e ∧ 0 < P.bytesOf e then some (e, P.cellsOf e, P.bytesOf e) else none
    | none => none
  | _ => none

theorem elI_spec {t e : TypeId} {sz by_ : Nat} (h : elI P t = some (e, sz, by_)) : ∃ i z, P.underlying t = some (.slice e) ∧ P.info? e = some i ∧ i.zero = some z ∧ z.cells.size = sz ∧ i.size = sz ∧ i.bytes = by_ ∧ 0 < sz ∧ 0 < by_ := by
  unfold elI at h
  split at h
  · rename_i e' hu
    split at h
    · rename_i z hz
      split at h
      · rename_i hc
        simp only [Option.some.injEq, Prod.mk.injEq] at h
        obtain ⟨rfl, rfl, rfl⟩ := h
        unfold zeroOf at hz
        cases hi : P.info? e' with
        | none => simp [hi] at hz
        | some i =>
          simp only [hi, Option.bind_some] at hz
          have h1 : P.cellsOf e' = i.size := by simp [Program.cellsOf, hi]
          have h2 : P.bytesOf e' = i.bytes := by simp [Program.bytesOf, hi]
          exact ⟨i, z, hu, rfl, hz, hc.1, h1.symm, h2.symm, hc.2.1, hc.2.2⟩
      · cases h
    · cases h
  · cases h

/-- What may be appended from: not the number of a make. -/
def notInt (P : Program) (t : TypeId) : Bool :=
  match P.underlying t with
  | some (.int _) => false
  | some _ => true
  | none => false

theorem notInt_spec {t : TypeId} (h : notInt P t = true) : ∃ d, P.underlying t = some d ∧ (match d with | .int _ => true | _ => false) = false := by
  unfold notInt at h
  split at h
  · cases h
  · rename_i d hd hu
    refine ⟨d, hu, ?_⟩
    cases d <;> first | rfl | exact absurd rfl (hd _)
  · cases h

theorem run_append_room' {t t' e : TypeId} {i : TypeInfo} (ht : P.underlying t = some (.slice e)) (hi : P.info? e = some i) (ht' : notInt P t' = true) {base : Option Addr} {sLen sCap : Nat} {x : Value} {es : List (List IV)} {news : Array Value} {w : World} {g : Gs}
    (hs : SrcR P w g i.size x es news) (hroom : sLen + es.length ≤ sCap) (ty : TypeId) :
    (Builtin.append_ #[t, t'] ty #[.slice base sLen sCap, x]).run P w =
      (match base with
        | some a => (storeCells (a.add (sLen * i.size)) news.toList).run P w
        | none => .ok () w).andThen fun _ w' => .ok (.slice base (sLen + es.length) sCap) w' := by
  obtain ⟨d, hu, hd⟩ := notInt_spec ht'
  have hl := hs.len w rfl
  have hc := hs.cells w rfl
  have hsz : (sizeOf e).run P w = .ok i.size w := by simp [sizeOf, typeInfo, hi]
  unfold Builtin.append_
  simp only [List.getElem?_toArray, List.getElem?_cons_zero, List.getElem?_cons_succ, Sem.run_bind, run_underlying ht, run_underlying hu, Result.andThen_ok, hsz, Sem.run_pure]
  split
  · simp at hd
  · simp only [Bool.false_eq_true, if_false, hl, hroom, if_true, Bool.not_false, hc, Result.andThen_ok]
    cases base <;> simp [hl, hroom, hc]

theorem run_append_grow' {t t' e : TypeId} {i : TypeInfo} {z : Value} (ht : P.underlying t = some (.slice e)) (hi : P.info? e = some i) (hz : i.zero = some z) (ht' : notInt P t' = true) {base : Option Addr} {sLen sCap : Nat} {x : Value} {es : List (List IV)} {news olds : Array Value} {w : World} {g : Gs}
    (hs : SrcR P w g i.size x es news) (hroom : sCap < sLen + es.length) (hold : (Builtin.firstCells i.size sLen (.slice base sLen sCap)).run P w.drew = .ok olds w.drew) (hfit : (sLen + es.length) * i.bytes ≤ 140737488355328) (hb : 0 < i.bytes) (ty : TypeId) :
    (Builtin.append_ #[t, t'] ty #[.slice base sLen sCap, x]).run P w =
      .ok (.slice (some ⟨w.heap.size, 0, none⟩) (sLen + es.length) (grownCap w (sLen + es.length) sCap e))
        (w.drew.alloc (.cells (olds ++ news ++ Builtin.zeroCells z.cells (grownCap w (sLen + es.length) sCap e - (sLen + es.length))) e)) := by
  obtain ⟨d, hu, hd⟩ := notInt_spec ht'
  · have hl := hs.len w rfl
    have hc := hs.cells w.drew rfl
    have hn : ¬ (sLen + es.length ≤ sCap) := by omega
    have hb0 : ¬ i.bytes = 0 := by omega
    have hfit' := growslice_fits (bytes := i.bytes) hroom hfit
    have h48 : ¬ (281474976710656 < Builtin.nextslicecap (sLen + es.length) sCap * i.bytes) := by omega
    have hsz : (sizeOf e).run P w = .ok i.size w := by simp [sizeOf, typeInfo, hi]
    have hti : ∀ w', (typeInfo e).run P w' = .ok i w' := by simp [typeInfo, hi]
    have hzv : ∀ w', (zeroValue e).run P w' = .ok z w' := by simp [zeroValue, typeInfo, hi, hz]
    have h48' : ¬ (Builtin.nextslicecap (sLen + es.length) sCap * i.bytes > 2 ^ 48) := by omega
    unfold Builtin.append_
    simp only [List.getElem?_toArray, List.getElem?_cons_zero, List.getElem?_cons_succ, Sem.run_bind, run_underlying ht, run_underlying hu, Result.andThen_ok, hsz, Sem.run_pure]
    split
    · simp at hd
    · simp only [Bool.false_eq_true, if_false, hl, hn, Bool.not_false, if_true, hti, hb0, h48', false_or, and_false, Sem.run_pure, run_choose, Question.forced, Result.andThen_ok]
      simp [hl, hn, hb0, h48, hold, hc, hti, hzv, newRow, grownCap, Question.forced]

/-- **Append, to a row of one's own or to nothing.** -/
theorem append_row {t t' e : TypeId} {sz by_ : Nat} (he : elI P t = some (e, sz, by_)) (ht' : notInt P t' = true) {w : World} {g : Gs} {a : Option Addr} {cap : Nat} {es0 es : List (List IV)} {x : Value} {news : Array Value}
    (ho : ObjR w g (.slice a es0.length cap) (.row sz es0)) (hs : SrcR P w g sz x es news) (hfit : (es0.length + es.length) * by_ ≤ 140737488355328) (ty : TypeId) :
    ∃ v' w', (Builtin.append_ #[t, t'] ty #[.slice a es0.length cap, x]).run P w = .ok v' w' ∧ w.heap.size ≤ w'.heap.size ∧ w'.os = w.os ∧ w'.tape = w.tape ∧ w'.output = w.output ∧
      (∀ b, b < w.heap.size → blk (.slice a es0.length cap) = some b ∨ w'.heap[b]? = w.heap[b]?) ∧
      (∀ b, blk v' = some b → b < w'.heap.size ∧ (w.heap.size ≤ b ∨ blk (.slice a es0.length cap) = some b)) ∧
      (es.length = 0 → v' = .slice a es0.length cap) ∧
      (∀ g', Mono w g w' g' → ObjR w' g' v' (.row sz (es0 ++ es))) ∧ (Pin w (.slice a es0.length cap) e (.row sz es0) → Pin w' v' e (.row sz (es0 ++ es))) := by
  obtain ⟨i, z, hu, hi, hz, hzs, hsz, hby, h0, hb0⟩ := elI_spec he
  subst hsz
  subst hby
  obtain ⟨a', cap', hv, h1, h2, h3, _, h5⟩ := ho
  simp only [Value.slice.injEq, true_and] at hv
  obtain ⟨rfl, rfl⟩ := hv
  have hall : ∀ e, e ∈ es0 ++ es → e.length = i.size := by
    intro e he
    rcases List.mem_append.1 he with h | h
    · exact h3 e h
    · exact hs.all e h
  have hfl0 := flatten_len h3
  have hfl := flatten_len hs.all
  have hmax : (es0 ++ es).length ≤ maxN := by
    rw [List.length_append]
    unfold maxN
    have : es0.length + es.length ≤ (es0.length + es.length) * i.bytes := Nat.le_mul_of_pos_right _ hb0
    omega
  by_cases hroom : es0.length + es.length ≤ cap
  · have hrun := run_append_room' (P := P) hu hi ht' (base := a) hs hroom ty
    rcases h5 with ⟨rfl, rfl⟩ | ⟨b, xs, el, f, rfl, h6, h7, h8, h9⟩
    · have e0 : es0 = [] := List.eq_nil_of_length_eq_zero (by omega)
      have e1 : es = [] := List.eq_nil_of_length_eq_zero (by omega)
      subst e0 e1
      refine ⟨_, w, hrun, Nat.le_refl _, rfl, rfl, rfl, fun _ _ => .inr rfl, fun b hb => by simp [blk] at hb, fun _ => rfl, fun g' m => ⟨none, 0, rfl, by simp, hmax, hall, h0, .inl ⟨rfl, rfl⟩⟩, fun _ b hb => by simp [blk] at hb⟩
    · have hlt := heap_lt h6
      have hcl := h9.1
      have hmul : (es0.length + es.length) * i.size ≤ cap * i.size := Nat.mul_le_mul_right _ hroom
      rw [Nat.add_mul] at hmul
      have hst := run_storeCells_free (P := P) (b := b) (off := es0.length * i.size) (el := el) (f := f) news.toList 0 xs w h6 h7 (by simp [hs.size, hfl]; omega) hs.one
      simp only [addr_add, Nat.zero_add, hst, Result.andThen_ok, Nat.add_zero] at hrun
      refine ⟨_, _, hrun, by simp, rfl, rfl, rfl, fun i hi' => ?_, fun b' hb' => ?_, fun h => by rw [h]; rfl, fun g' m => ?_, fun hp b' hb' => ?_⟩
      rotate_left 3
      · simp only [blk, Option.some.injEq] at hb'
        subst hb'
        obtain ⟨xs', hx', _⟩ := hp _ rfl
        rw [h6] at hx'
        cases hx'
        exact ⟨_, by rw [putObj_get _ _ _ hlt, if_pos rfl], fun _ e => by cases e⟩
      · by_cases e : i = b
        · exact .inl (by rw [e]; rfl)
        · exact .inr (World.putObj_heap_other e)
      · simp only [blk, Option.some.injEq] at hb'
        subst hb'
        exact ⟨by simpa using hlt, .inr rfl⟩
      · refine ⟨_, cap, by rw [List.length_append], by rw [List.length_append]; exact hroom, hmax, hall, h0, .inr ⟨b, _, el, f, rfl, by rw [putObj_get _ _ _ hlt, if_pos rfl], by rw [putA_size]; exact h7, by rw [putA_size]; exact h8, ?_, ?_⟩⟩
        · rw [putA_size, List.flatten_append, List.length_append, hfl0, hfl]; omega
        · intro j c hj
          rw [putA_get _ _ _ _ (by simp [hs.size, hfl]; omega)]
          simp only [Array.length_toList, hs.size, hfl]
          rw [List.flatten_append] at hj
          rcases Nat.lt_or_ge j (es0.length * i.size) with hjl | hjl
          · rw [if_neg (by omega)]
            rw [List.getElem?_append_left (by omega)] at hj
            obtain ⟨y, q1, q2, q3⟩ := h9.2 j c hj
            exact ⟨y, q1, q2, q3.mono m⟩
          · rw [List.getElem?_append_right (by omega), hfl0] at hj
            have hjn := (List.getElem?_eq_some_iff.1 hj).1
            rw [hfl] at hjn
            rw [if_pos (by omega)]
            have hlt' : j - es0.length * i.size < news.size := by rw [hs.size, hfl]; exact hjn
            refine ⟨news[j - es0.length * i.size], by rw [Array.getElem?_toList]; exact Array.getElem?_eq_getElem hlt', hs.one _ (by rw [Array.mem_toList_iff]; exact Array.getElem_mem hlt'), (hs.rel _ _ _ (Array.getElem?_eq_getElem hlt') hj).mono m⟩
  · have hnz : es.length ≠ 0 := by omega
    have ⟨olds, hold, ho1, ho2, ho3⟩ : ∃ olds : Array Value, (Builtin.firstCells i.size es0.length (.slice a es0.length cap)).run P w.drew = .ok olds w.drew ∧ olds.size = es0.flatten.length ∧ (∀ v, v ∈ olds.toList → v.oneCell' = true) ∧
        ∀ (j : Nat) (y : Value) (c : IV), olds[j]? = some y → es0.flatten[j]? = some c → R w g y c := by
      rcases h5 with ⟨rfl, rfl⟩ | ⟨b, xs, el, f, rfl, h6, h7, h8, h9⟩
      · have e0 : es0 = [] := List.eq_nil_of_length_eq_zero (by omega)
        subst e0
        exact ⟨#[], by simp [Builtin.firstCells], by simp, by simp, by simp⟩
      · have hle := h9.1
        refine ⟨((List.range (es0.length * i.size)).map fun q => xs.getD q undef).toArray, ?_, by simp [hfl0], ?_, ?_⟩
        · simp only [Builtin.firstCells]
          refine run_loadCells w.drew _ _ (fun q => xs.getD q undef) fun q hq => ?_
          rw [addr_add, Nat.zero_add]
          have hlt : q < xs.size := by omega
          simp [World.cell?, h6, hlt, World.drew, -World.drew_eq]
        · intro v hv
          simp only [List.toList_toArray, List.mem_map, List.mem_range] at hv
          obtain ⟨q, hq, rfl⟩ := hv
          obtain ⟨y, q1, q2, _⟩ := h9.2 q _ (List.getElem?_eq_getElem (by rw [hfl0]; exact hq))
          simp [q1, q2]
        · intro q y c hy hcq
          have hq : q < es0.length * i.size := by rw [← hfl0]; exact (List.getElem?_eq_some_iff.1 hcq).1
          obtain ⟨z', q1, _, q3⟩ := h9.2 q c hcq
          simp [hq, q1] at hy
          subst hy
          exact q3
    have hge := grownCap_ge w (es0.length + es.length) cap e
    refine ⟨_, _, run_append_grow' (P := P) hu hi hz ht' hs (by omega) hold hfit hb0 ty, by simp, rfl, rfl, rfl, fun b hb => .inr (by rw [alloc_get, if_neg (by simp; omega)]; rfl), fun b hb => ?_, fun h => absurd h hnz, fun g' m => ?_, fun _ b' hb' => ⟨_, by
      simp only [blk, Option.some.injEq] at hb'
      subst hb'
      rw [alloc_get, if_pos (by simp)], fun _ e => by cases e⟩⟩
    · simp only [blk, Option.some.injEq] at hb
      subst hb
      exact ⟨by simp, .inl (Nat.le_refl _)⟩
    · refine ⟨_, _, by rw [List.length_append], by rw [List.length_append]; exact hge, hmax, hall, h0, .inr ⟨w.heap.size, _, e, (0, 0), rfl, by rw [alloc_get, if_pos (by simp)], freeZ_zero _, ?_, ?_, ?_⟩⟩
      · simp only [Array.size_append, size_zeroCells, hzs, ho1, hs.size, hfl0, hfl, ← Nat.add_mul]
        apply Nat.mul_le_mul_right
        omega
      · rw [List.flatten_append, List.length_append]
        simp only [Array.size_append, ho1, hs.size]
        omega
      · intro j c hj
        rw [List.flatten_append] at hj
        have hjl : j < es0.flatten.length + es.flatten.length := by
          have := (List.getElem?_eq_some_iff.1 hj).1
          rwa [List.length_append] at this
        rw [Array.getElem?_append_left (by rw [Array.size_append, ho1, hs.size]; exact hjl)]
        rcases Nat.lt_or_ge j es0.flatten.length with h | h
        · rw [List.getElem?_append_left h] at hj
          have hlt : j < olds.size := by rw [ho1]; exact h
          rw [Array.getElem?_append_left hlt]
          exact ⟨olds[j], Array.getElem?_eq_getElem hlt, ho2 _ (by rw [Array.mem_toList_iff]; exact Array.getElem_mem hlt), (ho3 _ _ _ (Array.getElem?_eq_getElem hlt) hj).mono m⟩
        · rw [List.getElem?_append_right h] at hj
          have hlt : j - olds.size < news.size := by rw [hs.size, ho1]; omega
          rw [Array.getElem?_append_right (by omega)]
          refine ⟨news[j - olds.size], Array.getElem?_eq_getElem hlt, hs.one _ (by rw [Array.mem_toList_iff]; exact Array.getElem_mem hlt), (hs.rel _ _ _ (Array.getElem?_eq_getElem hlt) (by rw [ho1]; exact hj)).mono m⟩
end Go.Idl

namespace Go.Idl
open Go Go.RowKit

variable {P : Program} {N : Nat} {tm : Tm} {H : IHeap}

/-! ### append -/
def srcI (H : IHeap) (sz : Nat) (y : IV) : Option (Prop × List (List IV)) :=
  match y with
  | .sl sz' es => if sz' = sz then some (True, es) else none
  | .v (.slice none 0 0) => some (True, [])
  | .v (.string s) => if sz = 1 then some (True, byt (bytes s)) else none
  | .os k n => match H.obj k with | some (.row sz' es) => if sz' = sz then some (Side (es.length = n), es) else none | some (.ty _ (.row sz' es)) => if sz' = sz then some (Side (es.length = n), es) else none | _ => none
  | _ => none

theorem srcI_sound {w : World} {g : Gs} {sz : Nat} {x : Value} {y : IV} {s : Prop} {es : List (List IV)} (h0 : 0 < sz) (sm : Sim w g H) (hx : R w g x y) (h : srcI H sz y = some (s, es)) (hs : s) : ∃ news, SrcR P w g sz x es news := by
  unfold srcI at h
  split at h
  · split at h
    · rename_i hz
      subst hz
      simp only [Option.some.injEq, Prod.mk.injEq] at h
      obtain ⟨_, rfl⟩ := h
      exact srcR_sl h0 hx
    · cases h
  · simp only [Option.some.injEq, Prod.mk.injEq] at h
    obtain ⟨_, rfl⟩ := h
    rw [hx.v_eq]
    exact ⟨_, srcR_nil⟩
  · split at h
    · rename_i hz
      subst hz
      simp only [Option.some.injEq, Prod.mk.injEq] at h
      obtain ⟨_, rfl⟩ := h
      rw [hx.v_eq]
      exact srcR_str _
    · cases h
  · split at h
    · rename_i hk
      split at h
      · rename_i hz
        subst hz
        simp only [Option.some.injEq, Prod.mk.injEq] at h
        obtain ⟨rfl, rfl⟩ := h
        exact srcR_os sm hk hs hx
      · cases h
    · rename_i hk
      split at h
      · rename_i hz
        subst hz
        simp only [Option.some.injEq, Prod.mk.injEq] at h
        obtain ⟨rfl, rfl⟩ := h
        exact srcR_os (sm.untype hk) (by simp [IHeap.set]) hs hx
      · cases h
    · cases h
  · cases h

/-- A row of bytes is kept with its type. -/
def tyR (P : Program) (e : TypeId) (o : HO) : HO :=
  match P.underlying e with
  | some (.int .u8) => .ty e o
  | _ => o

def apU (P : Program) (H : IHeap) (t t' : TypeId) (x y : IV) : Option (Prop × IV × IHeap) :=
  match elI P t, notInt P t' with
  | some (_, sz, by_), true =>
    match srcI H sz y with
    | some (s, es) =>
      match x with
      | .v (.slice none 0 0) => some (Side (es.length * by_ ≤ 140737488355328) ∧ s, .os H.next es.length, H.new (.row sz es))
      | .os k n =>
        match H.obj k with
        | some (.row sz' es0) => if sz' = sz then some (Side (es0.length = n) ∧ Side ((es0.length + es.length) * by_ ≤ 140737488355328) ∧ s, .os k (es0.length + es.length), H.set k (.row sz (es0 ++ es))) else none
        | _ => none
      | _ => none
    | none => none
  | _, _ => none

def apI (P : Program) (H : IHeap) (t t' : TypeId) (x y : IV) : Option (Prop × IV × IHeap) :=
  match elI P t, notInt P t' with
  | some (e, sz, by_), true =>
    match srcI H sz y with
    | some (s, es) =>
      match x with
      | .v (.slice none 0 0) => some (Side (es.length * by_ ≤ 140737488355328) ∧ s, .os H.next es.length, H.new (tyR P e (.row sz es)))
      | .os k n =>
        match H.obj k with
        | some (.row sz' es0) => if sz' = sz then some (Side (es0.length = n) ∧ Side ((es0.length + es.length) * by_ ≤ 140737488355328) ∧ s, .os k (es0.length + es.length), H.set k (.row sz (es0 ++ es))) else none
        | some (.ty e0 (.row sz' es0)) => if sz' = sz ∧ e0 = e then some (Side (es0.length = n) ∧ Side ((es0.length + es.length) * by_ ≤ 140737488355328) ∧ s, .os k (es0.length + es.length), H.set k (.ty e0 (.row sz (es0 ++ es)))) else none
        | _ => none
      | _ => none
    | none => none
  | _, _ => none

theorem os_of_put {w' : World} {g : Gs} {k n : Nat} {v : Value} {nx : Nat} (hk : k < nx) (hv : ∃ a cap, v = .slice a n cap) : R w' (g.put k v (.row n) nx) v (.os k n) := by
  refine .os k n v hk (fun m hm => ?_) hv
  simp only [Gs.put, if_true, Option.some.injEq, Sh.row.injEq] at hm
  subst hm
  exact ⟨Nat.le_refl _, fun _ => by simp [Gs.put]⟩

/-- Append to a typed row of one's own, or to nothing. -/
theorem IOper_appendT0 {o : Oper} {K : IV → IHeap → Prop} {Qp : List PanicEntry → IHeap → Prop} {t t' e : TypeId} {sz by_ : Nat} {x y : Operand} {es : List (List IV)} {s : Prop} (ho : o.op = .call { callee := .builtin .append, args := #[x, y], argTypes := #[t, t'] }) (hok : okO N o = true)
    (he : elI P t = some (e, sz, by_)) (hni : notInt P t' = true) (hx : ev tm x = .v (.slice none 0 0)) (hy : srcI H sz (ev tm y) = some (s, es)) (hs : s) (hfit : es.length * by_ ≤ 140737488355328)
    (hK : K (.os H.next es.length) (H.new (.ty e (.row sz es)))) : IOper P N o tm H K Qp := by
  obtain ⟨dst, op, type, pos, after, guard⟩ := o
  simp only at ho
  subst ho
  refine IOper_of (by simp) fun w g a sm ra hN => ?_
  subst hN
  simp [okO, Op.operands, Call.operands] at hok
  have rx := ra.ev (x := x) hok.1.1
  have ry := ra.ev (x := y) hok.1.2
  obtain ⟨i, z, hu, hi, hz, hzs, hsz, hby, h0, hb0⟩ := elI_spec he
  obtain ⟨news, hn⟩ := srcI_sound (P := P) h0 sm ry hy hs
  rw [hx] at rx
  have hxe := rx.v_eq
  have hoR : ObjR w g (.slice none ([] : List (List IV)).length 0) (.row sz []) := ⟨none, 0, rfl, by simp, by simp, by simp, h0, .inl ⟨rfl, rfl⟩⟩
  obtain ⟨v', w', q1, q2, q3, q4, q5, q6, q7, q8, q9, q10⟩ := append_row he hni hoR hn (by simpa using hfit) type
  have hpin := q10 (fun b hb => by simp [blk] at hb)
  have hup := sm.upd (w' := w') (H' := H.new (.ty e (.row sz es))) H.next v' (.ty e (.row sz es)) rfl (Nat.le_succ _) (Nat.lt_succ_self _) q2 q3 q4 q5
    (fun b hb => by rcases q6 b hb with h | h; exact absurd h (by simp [blk]); exact .inr h)
    (fun b hb => ⟨(q7 b hb).1, by rcases (q7 b hb).2 with h | h; exact .inl h; exact absurd h (by simp [blk])⟩) (.inl rfl)
    (fun g' m _ => ⟨by simpa using q9 g' m, by simpa using hpin⟩)
  obtain ⟨aa, cap, hv, _⟩ := q9 _ hup.2
  simp only [List.nil_append] at hv
  refine ⟨v', w', _, _, _, .inl ?_, hup.2, hup.1, os_of_put (Nat.lt_succ_self _) ⟨aa, cap, hv⟩, hK⟩
  have q1' : (Builtin.append_ #[t, t'] type #[a.eval x, a.eval y]).run P w = .ok v' w' := by rw [hxe]; exact q1
  simp [execOp, resolve, invoke, builtin, q1']

theorem IOper_appendT {o : Oper} {K : IV → IHeap → Prop} {Qp : List PanicEntry → IHeap → Prop} {t t' e : TypeId} {sz by_ k n : Nat} {x y : Operand} {es0 es : List (List IV)} {s : Prop} (ho : o.op = .call { callee := .builtin .append, args := #[x, y], argTypes := #[t, t'] }) (hok : okO N o = true)
    (he : elI P t = some (e, sz, by_)) (hni : notInt P t' = true) (hx : ev tm x = .os k n) (hk : H.obj k = some (.ty e (.row sz es0))) (hl : es0.length = n) (hy : srcI H sz (ev tm y) = some (s, es)) (hs : s) (hfit : (es0.length + es.length) * by_ ≤ 140737488355328)
    (hK : K (.os k (es0.length + es.length)) (H.set k (.ty e (.row sz (es0 ++ es))))) : IOper P N o tm H K Qp := by
  obtain ⟨dst, op, type, pos, after, guard⟩ := o
  simp only at ho
  subst ho
  refine IOper_of (by simp) fun w g a sm ra hN => ?_
  subst hN
  simp [okO, Op.operands, Call.operands] at hok
  have rx := ra.ev (x := x) hok.1.1
  have ry := ra.ev (x := y) hok.1.2
  obtain ⟨i, z, hu, hi, hz, hzs, hsz, hby, h0, hb0⟩ := elI_spec he
  obtain ⟨news, hn⟩ := srcI_sound (P := P) h0 sm ry hy hs
  rw [hx] at rx
  have hsh : g.sh k = some (.row es0.length) := by rw [sm.sh, IHeap.sh, hk]; rfl
  have hmu : a.eval x = g.mu k := by
    generalize a.eval x = z at rx
    cases rx with
    | os _ _ _ _ h _ => exact (h _ hsh).2 hl.symm
  obtain ⟨hoR, hpin0⟩ := sm.obj k _ hk
  obtain ⟨aa, cap, hmv, _⟩ := id hoR
  rw [hmv] at hoR hpin0
  obtain ⟨v', w', q1, q2, q3, q4, q5, q6, q7, q8, q9, q10⟩ := append_row he hni hoR hn hfit type
  have hpin := q10 hpin0
  rw [← hmv] at q6 q7 q8
  have hlive : (g.sh k).isSome = true := by rw [hsh]; rfl
  have hup := sm.upd (w' := w') (H' := H.set k (.ty e (.row sz (es0 ++ es)))) k v' (.ty e (.row sz (es0 ++ es))) rfl (Nat.le_refl _) (sm.lt k (by rw [hk]; rfl)) q2 q3 q4 q5
    (fun b hb => by rcases q6 b hb with h | h; exact .inl ⟨hlive, h⟩; exact .inr h)
    (fun b hb => ⟨(q7 b hb).1, by rcases (q7 b hb).2 with h | h; exact .inl h; exact .inr ⟨hlive, h⟩⟩)
    (.inr (.inr ⟨es0.length, _, hsh, rfl, by simp, fun e => q8 (by simpa using e)⟩))
    (fun g' m _ => ⟨q9 g' m, hpin⟩)
  obtain ⟨a2, cap2, hv, _⟩ := q9 _ hup.2
  have q1' : (Builtin.append_ #[t, t'] type #[a.eval x, a.eval y]).run P w = .ok v' w' := by rw [hmu, hmv]; exact q1
  refine ⟨v', w', _, _, _, .inl (by simp [execOp, resolve, invoke, builtin, q1']), hup.2, hup.1, ?_, hK⟩
  have := os_of_put (w' := w') (g := g) (k := k) (nx := (H.set k (.ty e (.row sz (es0 ++ es)))).next) (sm.lt k (by rw [hk]; rfl)) ⟨a2, cap2, hv⟩
  rw [List.length_append] at this
  simpa [HO.sh] using this
theorem IOper_appendU {o : Oper} {K : IV → IHeap → Prop} {Qp : List PanicEntry → IHeap → Prop} {t t' : TypeId} {x y : Operand} {s : Prop} {r : IV} {H' : IHeap} (ho : o.op = .call { callee := .builtin .append, args := #[x, y], argTypes := #[t, t'] }) (hok : okO N o = true)
    (h : apU P H t t' (ev tm x) (ev tm y) = some (s, r, H')) (hs : s) (hK : K r H') : IOper P N o tm H K Qp := by
  obtain ⟨dst, op, type, pos, after, guard⟩ := o
  simp only at ho
  subst ho
  refine IOper_of (by simp) fun w g a sm ra hN => ?_
  subst hN
  simp [okO, Op.operands, Call.operands] at hok
  have rx := ra.ev (x := x) hok.1.1
  have ry := ra.ev (x := y) hok.1.2
  have fin : ∀ {v' : Value} {w' : World}, (Builtin.append_ #[t, t'] type #[a.eval x, a.eval y]).run P w = .ok v' w' →
      (execOp a.eval { dst := dst, op := .call { callee := .builtin .append, args := #[x, y], argTypes := #[t, t'] }, type := type, pos := pos, after := after, guard := guard : Oper}).run P w = .ok (.value v') w' := by
    intro v' w' h
    simp [execOp, resolve, invoke, builtin, h]
  unfold apU at h
  split at h
  · rename_i e sz by_ he hni
    obtain ⟨i, z, hu, hi, hz, hzs, hsz, hby, h0, hb0⟩ := elI_spec he
    split at h
    · rename_i s' es hsrc
      split at h
      · rename_i hx
        simp only [Option.some.injEq, Prod.mk.injEq] at h
        obtain ⟨rfl, rfl, rfl⟩ := h
        obtain ⟨s1, s2⟩ := hs
        obtain ⟨news, hn⟩ := srcI_sound (P := P) h0 sm ry hsrc s2
        rw [hx] at rx
        have hxe := rx.v_eq
        have s1' : es.length * by_ ≤ 140737488355328 := s1
        have hfit : (([] : List (List IV)).length + es.length) * by_ ≤ 140737488355328 := by simpa using s1'
        have ho : ObjR w g (.slice none ([] : List (List IV)).length 0) (.row sz []) := ⟨none, 0, rfl, by simp, by simp, by simp, h0, .inl ⟨rfl, rfl⟩⟩
        obtain ⟨v', w', q1, q2, q3, q4, q5, q6, q7, q8, q9, _⟩ := append_row he hni ho hn hfit type
        have hu := sm.upd (w' := w') (H' := H.new (.row sz es)) H.next v' (.row sz es) rfl (Nat.le_succ _) (Nat.lt_succ_self _) q2 q3 q4 q5
          (fun b hb => by rcases q6 b hb with h | h; exact absurd h (by simp [blk]); exact .inr h)
          (fun b hb => ⟨(q7 b hb).1, by rcases (q7 b hb).2 with h | h; exact .inl h; exact absurd h (by simp [blk])⟩) (.inl rfl)
          (fun g' m _ => by simpa using q9 g' m)
        obtain ⟨aa, cap, hv, _⟩ := q9 _ hu.2
        simp only [List.nil_append] at hv
        refine ⟨v', w', _, _, _, .inl (fin (by rw [hxe]; exact q1)), hu.2, hu.1, ?_, hK⟩
        exact os_of_put (Nat.lt_succ_self _) ⟨aa, cap, hv⟩
      · rename_i k n hx
        split at h
        · rename_i sz' es0 hk
          split at h
          · rename_i hze
            subst hze
            simp only [Option.some.injEq, Prod.mk.injEq] at h
            obtain ⟨rfl, rfl, rfl⟩ := h
            obtain ⟨s1, s2, s3⟩ := hs
            have s1' : es0.length = n := s1
            obtain ⟨news, hn⟩ := srcI_sound (P := P) h0 sm ry hsrc s3
            rw [hx] at rx
            have hsh : g.sh k = some (.row es0.length) := by rw [sm.sh, IHeap.sh, hk]; rfl
            have hmu : a.eval x = g.mu k := by
              generalize a.eval x = z at rx
              cases rx with
              | os _ _ _ _ h _ => exact (h _ hsh).2 s1'.symm
            have ho := sm.obj k _ hk
            obtain ⟨aa, cap, hmv, _⟩ := id ho
            rw [hmv] at ho
            obtain ⟨v', w', q1, q2, q3, q4, q5, q6, q7, q8, q9, _⟩ := append_row he hni ho hn s2 type
            rw [← hmv] at q6 q7 q8
            have hlive : (g.sh k).isSome = true := by rw [hsh]; rfl
            have hu := sm.upd (w' := w') (H' := H.set k (.row sz' (es0 ++ es))) k v' (.row sz' (es0 ++ es)) rfl (Nat.le_refl _) (sm.lt k (by rw [hk]; rfl)) q2 q3 q4 q5
              (fun b hb => by rcases q6 b hb with h | h; exact .inl ⟨hlive, h⟩; exact .inr h)
              (fun b hb => ⟨(q7 b hb).1, by rcases (q7 b hb).2 with h | h; exact .inl h; exact .inr ⟨hlive, h⟩⟩)
              (.inr (.inr ⟨es0.length, _, hsh, rfl, by simp, fun e => q8 (by simpa using e)⟩))
              (fun g' m _ => q9 g' m)
            obtain ⟨a2, cap2, hv, _⟩ := q9 _ hu.2
            refine ⟨v', w', _, _, _, .inl (fin (by rw [hmu, hmv]; exact q1)), hu.2, hu.1, ?_, hK⟩
            have := os_of_put (w' := w') (g := g) (k := k) (nx := (H.set k (.row sz' (es0 ++ es))).next) (sm.lt k (by rw [hk]; rfl)) ⟨a2, cap2, hv⟩
            rw [List.length_append] at this
            simpa [HO.sh] using this
          · cases h
        · cases h
      · cases h
    · cases h
  · cases h

theorem tyR_or (P : Program) (e : TypeId) (o : HO) : tyR P e o = o ∨ tyR P e o = .ty e o := by
  unfold tyR
  split
  · exact .inr rfl
  · exact .inl rfl

theorem IOper_append {o : Oper} {K : IV → IHeap → Prop} {Qp : List PanicEntry → IHeap → Prop} {t t' : TypeId} {x y : Operand} {s : Prop} {r : IV} {H' : IHeap} (ho : o.op = .call { callee := .builtin .append, args := #[x, y], argTypes := #[t, t'] }) (hok : okO N o = true)
    (h : apI P H t t' (ev tm x) (ev tm y) = some (s, r, H')) (hs : s) (hK : K r H') : IOper P N o tm H K Qp := by
  unfold apI at h
  split at h
  · rename_i e sz by_ he hni
    split at h
    · rename_i s' es hsrc
      split at h
      · rename_i hx
        simp only [Option.some.injEq, Prod.mk.injEq] at h
        obtain ⟨rfl, rfl, rfl⟩ := h
        rcases tyR_or P e (.row sz es) with ht | ht
        · rw [ht] at hK
          exact IOper_appendU ho hok (by simp only [apU, he, hni, hsrc, hx]) hs hK
        · rw [ht] at hK
          exact IOper_appendT0 ho hok he hni hx hsrc hs.2 hs.1 hK
      · rename_i k n hx
        split at h
        · rename_i sz' es0 hk
          refine IOper_appendU ho hok ?_ hs hK
          simp only [apU, he, hni, hsrc, hx, hk]
          exact h
        · rename_i e0 sz' es0 hk
          split at h
          · rename_i hze
            obtain ⟨rfl, rfl⟩ := hze
            simp only [Option.some.injEq, Prod.mk.injEq] at h
            obtain ⟨rfl, rfl, rfl⟩ := h
            exact IOper_appendT ho hok he hni hx hk hs.1 hsrc hs.2.2 hs.2.1 hK
          · cases h
        · cases h
      · cases h
    · cases h
  · cases h

/-! ### An address in a row of one's own -/
theorem IOper_ixos {o : Oper} {K : IV → IHeap → Prop} {Qp : List PanicEntry → IHeap → Prop} {t e : TypeId} {x i : Operand} {k n sz : Nat} {kk : IntKind} {m : Int} {es : List (List IV)} (ho : o.op = .indexAddr t x i) (hok : okO N o = true)
    (hu : P.underlying t = some (.slice e)) (hx : ev tm x = .os k n) (hi : ev tm i = .v (.int kk m)) (hk : H.obj k = some (.row sz es)) (hl : es.length = n) (hc : 0 < P.cellsOf e) (h0 : 0 ≤ m) (h1 : m < n)
    (hK : K (.pr k n (m.toNat * P.cellsOf e)) H) : IOper P N o tm H K Qp := by
  obtain ⟨dst, op, type, pos, after, guard⟩ := o
  simp only at ho
  subst ho
  refine IOper_of (by simp) fun w g a sm ra hN => ?_
  subst hN
  simp [okO, Op.operands] at hok
  have rx := ra.ev (x := x) hok.1.1
  have ri := ra.ev (x := i) hok.1.2
  rw [hx] at rx
  rw [hi] at ri
  obtain ⟨aa, cap, hxe, hr⟩ := rx.os_elem sm ⟨sz, es, hk, hl⟩ m.toNat (by omega) (P.cellsOf e)
  refine ⟨_, w, g, H, _, .inl ?_, .refl w g, sm, hr, hK⟩
  simp [execOp, hxe, ri.v_eq, run_indexAt_slice hu hc aa n cap kk m h0 h1 w]

/-! ### A slice written out: frozen at once -/
def chunks (sz : Nat) : Nat → List IV → List (List IV)
  | 0, _ => []
  | n + 1, l => l.take sz :: chunks sz n (l.drop sz)

theorem chunks_length (sz : Nat) : ∀ (n : Nat) (l : List IV), (chunks sz n l).length = n
  | 0, _ => rfl
  | n + 1, l => by simp [chunks, chunks_length sz n]

theorem chunks_all (sz : Nat) : ∀ (n : Nat) (l : List IV), n * sz ≤ l.length → ∀ e, e ∈ chunks sz n l → e.length = sz
  | 0, _, _, e, he => by simp [chunks] at he
  | n + 1, l, h, e, he => by
    rw [Nat.add_mul] at h
    simp only [chunks, List.mem_cons] at he
    rcases he with rfl | he
    · simp; omega
    · exact chunks_all sz n _ (by simp; omega) e he

theorem chunks_get (sz : Nat) : ∀ (n : Nat) (l : List IV) (i : Nat) (e : List IV), (chunks sz n l)[i]? = some e → ∀ (j : Nat) (c : IV), e[j]? = some c → l[i * sz + j]? = some c ∧ j < sz
  | 0, _, i, e, h, _, _, _ => by simp [chunks] at h
  | n + 1, l, 0, e, h, j, c, hc => by
    simp only [chunks, List.getElem?_cons_zero, Option.some.injEq] at h
    subst h
    rw [List.getElem?_take] at hc
    split at hc
    · rename_i hj
      exact ⟨by simpa using hc, hj⟩
    · cases hc
  | n + 1, l, i + 1, e, h, j, c, hc => by
    simp only [chunks, List.getElem?_cons_succ] at h
    have := chunks_get sz n _ i e h j c hc
    rw [List.getElem?_drop] at this
    refine ⟨?_, this.2⟩
    rw [← this.1]
    congr 1
    rw [Nat.add_mul]
    omega

/-- Cells of a new block that nobody names, as a frozen slice. -/
theorem frozen_new {w w' : World} {g g' : Gs} (m : Mono w g w' g') {b sz n cap : Nat} {xs : Array Value} {el : TypeId} {f : Nat × Nat} {cs : List IV} (hb : w'.heap[b]? = some (.cells xs el f)) (ho : ¬ g'.ow b)
    (hc : CellsR w g xs cs) (hn : n * sz ≤ cs.length) (hcap : n ≤ cap) (hmax : n ≤ maxN) : R w' g' (.slice (some ⟨b, 0, none⟩) n cap) (.sl sz (chunks sz n cs)) := by
  have hlen := chunks_length sz n cs
  have hcell : ∀ q, w'.cell? ⟨b, q, none⟩ = xs[q]? := by intro q; simp [World.cell?, hb]
  have key : ∀ (i : Nat) (e : List IV) (j : Nat) (c : IV), (chunks sz n cs)[i]? = some e → e[j]? = some c → ∃ x, xs[i * sz + j]? = some x ∧ x.oneCell' = true ∧ R w g x c := fun i e j c h1 h2 => hc.2 _ _ (chunks_get sz n cs i e h1 j c h2).1
  have := R.sl (w := w') (g := g') b 0 cap sz (chunks sz n cs) (fun i j => xs.getD (i * sz + j) undef) ho (heap_lt hb) (by rw [hlen]; exact hmax) (by rw [hlen]; exact hcap) (chunks_all sz n cs hn)
    (fun i e j c h1 h2 => by obtain ⟨x, q1, _⟩ := key i e j c h1 h2; rw [Nat.zero_add, hcell, q1]; simp [q1])
    (fun i e j c h1 h2 => by obtain ⟨x, q1, q2, _⟩ := key i e j c h1 h2; simpa [q1] using q2)
    (fun i e j c h1 h2 => by obtain ⟨x, q1, _, q3⟩ := key i e j c h1 h2; simpa [q1] using q3.mono m)
  rwa [hlen] at this

def rep (n : Nat) (zs : List IV) : List IV := (List.replicate n zs).flatten

def bsI (P : Program) (t : TypeId) (len : Nat) (parts : List (Nat × IV)) : Option (Nat × List IV) :=
  match P.underlying t with
  | some (.slice e) =>
    match zeroOf P e with
    | some z =>
      if z.cells.size = P.cellsOf e ∧ 0 < P.cellsOf e ∧ z.cells.toList.all (·.oneCell') = true ∧ len * P.cellsOf e ≤ 16777216 then
        match fillI (fun i => some (i * P.cellsOf e, P.cellsOf e)) (rep len (z.cells.toList.map .v)) parts with
        | some rs => some (P.cellsOf e, rs)
        | none => none
      else none
    | none => none
  | _ => none

theorem rep_get (n : Nat) (zs : List IV) (h0 : 0 < zs.length) (q : Nat) (hq : q < n * zs.length) : (rep n zs)[q]? = zs[q % zs.length]? := by
  have hall : ∀ e, e ∈ List.replicate n zs → e.length = zs.length := by intro e he; rw [(List.mem_replicate.1 he).2]
  rw [rep, flatten_get h0 hall, List.getElem?_replicate]
  rw [if_pos (by rw [Nat.div_lt_iff_lt_mul h0]; exact hq)]
  rfl

theorem rep_length (n : Nat) (zs : List IV) : (rep n zs).length = n * zs.length := by simp [rep]

theorem fillI_len {place : Nat → Option (Nat × Nat)} : ∀ {is : List (Nat × IV)} {cs rs : List IV}, fillI place cs is = some rs → rs.length = cs.length
  | [], cs, rs, h => by simp only [fillI, Option.some.injEq] at h; rw [h]
  | (i, v) :: is, cs, rs, h => by
    simp only [fillI] at h
    split at h
    · split at h
      · rename_i hb
        rw [fillI_len h, putL_length _ _ _ hb.2]
      · cases h
    · cases h

theorem run_buildSlice {t : TypeId} {len sz : Nat} {vs : Array (Nat × Value)} {is : List (Nat × IV)} {rs : List IV} {w : World} {g : Gs} (hp : PartsR w g vs.toList is) (h : bsI P t len is = some (sz, rs)) :
    ∃ out el, (Instr.buildSlice t len vs).run P w = .ok (.slice (some ⟨w.heap.size, 0, none⟩) len len) (w.alloc (.cells out el)) ∧ out.size = rs.length ∧ rs.length = len * sz ∧ 0 < sz ∧ len * sz ≤ 16777216 ∧
      (∀ (j : Nat) (y : Value), out[j]? = some y → y.oneCell' = true) ∧ ∀ (j : Nat) (y : Value) (c : IV), out[j]? = some y → rs[j]? = some c → R w g y c := by
  unfold bsI at h
  split at h
  · rename_i e hu
    split at h
    · rename_i z hz
      split at h
      · rename_i hcond
        obtain ⟨c1, c2, c3, c4⟩ := hcond
        split at h
        · rename_i rs' hf
          simp only [Option.some.injEq, Prod.mk.injEq] at h
          obtain ⟨rfl, rfl⟩ := h
          have hzl : (z.cells.toList.map IV.v).length = P.cellsOf e := by simp [c1]
          have hcells : ((Array.range (len * P.cellsOf e)).map (fun q => z.cells[q % z.cells.size]!)).size = (rep len (z.cells.toList.map .v)).length := by rw [rep_length, hzl]; simp
          have hval : ∀ (j : Nat) (y : Value), ((Array.range (len * P.cellsOf e)).map (fun q => z.cells[q % z.cells.size]!))[j]? = some y → j < len * P.cellsOf e ∧ z.cells[j % P.cellsOf e]? = some y := by
            intro j y hy
            have hj : j < len * P.cellsOf e := by
              have := (Array.getElem?_eq_some_iff.1 hy).1
              simpa using this
            have hm : j % z.cells.size < z.cells.size := Nat.mod_lt _ (by omega)
            simp [hj, getElem!_pos, hm] at hy
            refine ⟨hj, ?_⟩
            rw [← c1, Array.getElem?_eq_getElem hm, hy]
          have hone : ∀ (j : Nat) (y : Value), z.cells[j]? = some y → y.oneCell' = true := by
            intro j y h1
            rw [List.all_eq_true] at c3
            exact c3 y (by rw [Array.mem_toList_iff]; exact Array.mem_of_getElem? h1)
          obtain ⟨out, e1, e2, e3', e3⟩ := fill_sound hp hcells
            (fun j y hy => hone _ _ (hval j y hy).2)
            (fun j y c hy hc => by
              obtain ⟨hj, hzj⟩ := hval j y hy
              rw [rep_get _ _ (by omega) _ (by rw [hzl]; exact hj), hzl] at hc
              simp only [List.getElem?_map, Array.getElem?_toList, hzj, Option.map_some, Option.some.injEq] at hc
              subst hc
              exact .v _) hf
          have hrl : rs'.length = len * P.cellsOf e := by rw [fillI_len hf, rep_length, hzl]
          have h24 : ¬ (16777216 < len * P.cellsOf e) := by omega
          refine ⟨out, e, ?_, e2, hrl, c2, c4, e3', e3⟩
          by_cases hl0 : len * P.cellsOf e = 0
          · have hlen0 : len = 0 := by
              rcases Nat.mul_eq_zero.1 hl0 with h | h
              · exact h
              · omega
            subst hlen0
            have hr0 : ∀ F : Nat → Value, (Array.range 0).map F = #[] := fun F => by simp
            rw [Nat.zero_mul, hr0] at e1
            simp [Instr.buildSlice, run_underlying hu, run_sizeOf_pos c2, hr0, e1, newRow]
          · simp [Instr.buildSlice, run_underlying hu, run_sizeOf_pos c2, run_zeroValue hz, h24, hl0, e1, newRow]
        · cases h
      · cases h
    · cases h
  · cases h

theorem IOper_buildSlice {o : Oper} {K : IV → IHeap → Prop} {Qp : List PanicEntry → IHeap → Prop} {t : TypeId} {len sz : Nat} {parts : Array (Nat × Operand)} {rs : List IV} (ho : o.op = .buildSlice t len parts) (hok : okO N o = true)
    (h : bsI P t len (parts.toList.map fun q => (q.1, ev tm q.2)) = some (sz, rs)) (hK : K (.sl sz (chunks sz len rs)) H) : IOper P N o tm H K Qp := by
  obtain ⟨dst, op, type, pos, after, guard⟩ := o
  simp only at ho
  subst ho
  refine IOper_of (by simp) fun w g a sm ra hN => ?_
  subst hN
  simp only [okO, Bool.and_eq_true, List.all_eq_true] at hok
  have hp : PartsR w g (parts.map fun q => (q.1, a.eval q.2)).toList (parts.toList.map fun q => (q.1, ev tm q.2)) := by
    rw [Array.toList_map]
    refine partsR_map ra _ fun q hq => hok.1 _ ?_
    simp only [Op.operands, List.toList_toArray, List.mem_map]
    exact ⟨q, hq, rfl⟩
  obtain ⟨out, el, q1, q2, q3, q4, q5, q6, q7⟩ := run_buildSlice (P := P) hp h
  have hg := sm.grow (w' := w.alloc (.cells out el)) (by simp) rfl rfl rfl (fun b hb => by rw [alloc_get, if_neg (by omega)])
  refine ⟨_, _, g, H, _, .inl ?_, hg.2, hg.1, frozen_new hg.2 (f := (0, 0)) (by rw [alloc_get, if_pos rfl]) (sm.fresh (Nat.le_refl _)) ⟨by omega, fun j c hj => ?_⟩ (by omega) (Nat.le_refl _) ?_, hK⟩
  · simp [execOp, q1]
  · have hj' : j < out.size := by rw [q2]; exact (List.getElem?_eq_some_iff.1 hj).1
    exact ⟨out[j], Array.getElem?_eq_getElem hj', q6 _ _ (Array.getElem?_eq_getElem hj'), q7 _ _ _ (Array.getElem?_eq_getElem hj') hj⟩
  · unfold maxN
    have : len ≤ len * sz := Nat.le_mul_of_pos_right _ q4
    omega

/-- An empty slice written out, as a row of one's own. -/
theorem IOper_buildEmpty {o : Oper} {K : IV → IHeap → Prop} {Qp : List PanicEntry → IHeap → Prop} {t : TypeId} {sz : Nat} {rs : List IV} (ho : o.op = .buildSlice t 0 #[])
    (h : bsI P t 0 [] = some (sz, rs)) (hK : K (.os H.next 0) (H.new (.row sz []))) : IOper P N o tm H K Qp := by
  obtain ⟨dst, op, type, pos, after, guard⟩ := o
  simp only at ho
  subst ho
  refine IOper_of (by simp) fun w g a sm ra hN => ?_
  obtain ⟨out, el, q1, q2, q3, q4, q5, q6, q7⟩ := run_buildSlice (P := P) (t := t) (len := 0) (vs := #[]) (is := []) (w := w) (g := g) trivial h
  have hn := sm.new (w' := w.alloc (.cells out el)) (.slice (some ⟨w.heap.size, 0, none⟩) 0 0) (.row sz []) (by simp) rfl rfl rfl (fun b hb => by rw [alloc_get, if_neg (by omega)])
    (fun b hb => by simp only [blk, Option.some.injEq] at hb; subst hb; simp)
    (fun g' m _ => ⟨_, 0, rfl, by simp, by simp [maxN], by simp, q4, .inr ⟨w.heap.size, out, el, (0, 0), rfl, by rw [alloc_get, if_pos rfl], freeZ_zero _, by simp, by simp, by simp⟩⟩)
  refine ⟨_, _, _, _, _, .inl ?_, hn.2, hn.1, os_of_put (Nat.lt_succ_self _) ⟨_, _, rfl⟩, hK⟩
  simp [execOp, q1]

/-! ### Calls -/
/-- A value that is called: the function, what it has captured. -/
def fnP (x : IV) : Option (FuncId × List IV) :=
  match x with
  | .v (.func (.func f) first cap) => if first.size = 0 ∧ cap.size = 0 then some (f, []) else none
  | .fn (.func f) [] cap => some (f, cap)
  | _ => none

theorem run_callFunc {f : FuncId} (h : hasBody P f = true) (args : Array Value) (w : World) : (callFunc f args).run P w = .ok (.enter f args) w := by
  unfold hasBody at h
  cases hf : P.funcs[f]? with
  | none => simp [hf] at h
  | some fn =>
    simp only [hf, Bool.and_eq_true, Bool.not_eq_true'] at h
    obtain ⟨h1, h2⟩ := h
    have h3 : ¬ fn.body = none := by intro e; simp [e] at h1
    have h4 : ¬ fn.name = "runtime.NumGoroutine" := by intro e; simp [e] at h2
    simp [callFunc, hf, h3, h4]

theorem RL_map {w : World} {g : Gs} {a : Act} (r : RA w g a tm) (l : Array Operand) (hl : ∀ q, q ∈ l.toList → opd a.tmps.size q = true) : RL w g (l.map a.eval) (l.toList.map (ev tm)) := by
  refine ⟨by simp, fun j x c h1 h2 => ?_⟩
  simp only [Array.getElem?_map, Option.map_eq_some_iff] at h1
  obtain ⟨q, hq, rfl⟩ := h1
  simp only [List.getElem?_map, Array.getElem?_toList, hq, Option.map_some, Option.some.injEq] at h2
  subst h2
  exact r.ev (hl q (by rw [Array.mem_toList_iff]; exact Array.mem_of_getElem? hq))

theorem RL_append {w : World} {g : Gs} {xs ys : Array Value} {is js : List IV} (h : RL w g xs is) (k : RL w g ys js) : RL w g (xs ++ ys) (is ++ js) := by
  refine ⟨by simp [h.1, k.1], fun j x c h1 h2 => ?_⟩
  rcases Nat.lt_or_ge j xs.size with hj | hj
  · rw [Array.getElem?_append_left hj] at h1
    rw [List.getElem?_append_left (by rw [← h.1]; exact hj)] at h2
    exact h.2 j x c h1 h2
  · rw [Array.getElem?_append_right hj] at h1
    rw [List.getElem?_append_right (by rw [← h.1]; exact hj), ← h.1] at h2
    exact k.2 _ x c h1 h2

/-- How a call's end goes on. -/
def callQ (K : IV → IHeap → Prop) (Qp : List PanicEntry → IHeap → Prop) : IEnd → IHeap → Prop
  | .ret r, H => K r H
  | .pan ch, H => Qp ch H

theorem IOper_call {o : Oper} {K : IV → IHeap → Prop} {Qp : List PanicEntry → IHeap → Prop} {x : Operand} {args : Array Operand} {ats : Array TypeId} {f : FuncId} {cap : List IV} (ho : o.op = .call { callee := .value x, args := args, argTypes := ats }) (hok : okO N o = true)
    (hf : fnP (ev tm x) = some (f, cap))
    (h : ICalls P f (args.toList.map (ev tm) ++ cap) H (callQ K Qp)) : IOper P N o tm H K Qp := by
  obtain ⟨dst, op, type, pos, after, guard⟩ := o
  simp only at ho
  subst ho
  refine ⟨by simp, fun rr w g a sm ra hN => ?_⟩
  subst hN
  simp only [okO, Bool.and_eq_true, List.all_eq_true, Op.operands, Call.operands, Array.toList_append, List.mem_append] at hok
  have rx := ra.ev (x := x) (hok.1 x (.inl (by simp)))
  have rargs := RL_map ra args (fun q hq => hok.1 q (.inr hq))
  have ⟨xs, hxe, hcap⟩ : ∃ xs : Array Value, a.eval x = .func (.func f) #[] xs ∧ RL w g xs cap := by
    unfold fnP at hf
    split at hf
    · rename_i f' first cap' hx
      split at hf
      · rename_i hs
        simp only [Option.some.injEq, Prod.mk.injEq] at hf
        obtain ⟨rfl, rfl⟩ := hf
        rw [hx] at rx
        have e1 : first = #[] := Array.eq_empty_of_size_eq_zero hs.1
        have e2 : cap' = #[] := Array.eq_empty_of_size_eq_zero hs.2
        exact ⟨#[], by rw [rx.v_eq, e1, e2], rfl, by simp⟩
      · cases hf
    · rename_i f' cap' hx
      simp only [Option.some.injEq, Prod.mk.injEq] at hf
      obtain ⟨rfl, rfl⟩ := hf
      rw [hx] at rx
      generalize a.eval x = z at rx
      cases rx with
      | fn _ xs ys _ _ hl hl' hr hr' =>
        have e1 : xs = #[] := Array.eq_empty_of_size_eq_zero (by simpa using hl)
        exact ⟨ys, by rw [e1], hl', hr'⟩
    · cases hf
  have hrun : (execOp a.eval { dst := dst, op := .call { callee := .value x, args := args, argTypes := ats }, type := type, pos := pos, after := after, guard := guard : Oper}).run P w = .ok (.enter f (args.map a.eval ++ xs)) w := by
    simp [execOp, resolve, hxe, Deferred.ofValue, invoke, run_callFunc h.body]
  rw [hrun]
  refine ⟨fun hd => by simp [FR] at hd, callsFR ((h.run w g _ sm (RL_append rargs hcap)).mono ?_)⟩
  rintro e w' ⟨ie, g', H', m, s', hre, hq⟩
  cases hre with
  | ret v i hr => exact ⟨v, i, g', H', rfl, m, s', hr, hq⟩
  | pan ch => exact ⟨ch, g', H', rfl, rfl, m, s', hq⟩
end Go.Idl

namespace Go.Idl
open Go Go.RowKit

variable {P : Program} {N : Nat} {tm : Tm} {H : IHeap}

/-- All names in a ghost value are below n. -/
inductive NB (n : Nat) : IV → Prop
  | v (x : Value) : NB n (.v x)
  | any : NB n .any
  | sl (sz : Nat) (es : List (List IV)) (h : ∀ e, e ∈ es → ∀ c, c ∈ e → NB n c) : NB n (.sl sz es)
  | cp (cs : List IV) (h : ∀ c, c ∈ cs → NB n c) : NB n (.cp cs)
  | ag (cs : List IV) (h : ∀ c, c ∈ cs → NB n c) : NB n (.ag cs)
  | tu (cs : List IV) (h : ∀ c, c ∈ cs → NB n c) : NB n (.tu cs)
  | fn (f : Fn) (a b : List IV) (h : ∀ c, c ∈ a → NB n c) (h' : ∀ c, c ∈ b → NB n c) : NB n (.fn f a b)
  | ifc (t : TypeId) (x : IV) (h : NB n x) : NB n (.ifc t x)
  | p (k off : Nat) (h : k < n) : NB n (.p k off)
  | mp (k : Nat) (h : k < n) : NB n (.mp k)
  | os (k m : Nat) (h : k < n) : NB n (.os k m)
  | pr (k m off : Nat) (h : k < n) : NB n (.pr k m off)
  | bs (k off m : Nat) (h : k < n) : NB n (.bs k off m)

/-- Some names are let go, the others stay what they are. -/
def Gs.to (g : Gs) (J : IHeap) : Gs := { g with sh := J.sh, nx := J.next }

/-- J has some of what H has. -/
def SubH (J H : IHeap) : Prop := ∀ k o, J.obj k = some o → H.obj k = some o

theorem SubH.sh {J H : IHeap} {w : World} {g : Gs} (h : SubH J H) (s : Sim w g H) : ∀ k q, J.sh k = some q → g.sh k = some q := by
  intro k q hq
  simp only [IHeap.sh, Option.map_eq_some_iff] at hq
  obtain ⟨o, ho, rfl⟩ := hq
  rw [s.sh, IHeap.sh, h k o ho]
  rfl

theorem to_named {g : Gs} {J : IHeap} (hs : ∀ k q, J.sh k = some q → g.sh k = some q) {b : Nat} (h : (g.to J).named b) : g.named b := by
  obtain ⟨k, h1, h2⟩ := h
  simp only [Gs.to] at h1 h2
  obtain ⟨q, hq⟩ := Option.isSome_iff_exists.1 h1
  exact ⟨k, by rw [hs k q hq]; rfl, h2⟩

theorem to_ow {g : Gs} {J : IHeap} (hs : ∀ k q, J.sh k = some q → g.sh k = some q) {b : Nat} (h : (g.to J).ow b) : g.ow b := by
  rcases h with h | h
  · exact .inl h
  · exact .inr (to_named hs h)

theorem R.to {w : World} {g : Gs} {J : IHeap} (hs : ∀ k q, J.sh k = some q → g.sh k = some q) {x : Value} {i : IV} (h : R w g x i) (hn : NB J.next i) : R w (g.to J) x i := by
  induction h with
  | v x => exact .v x
  | any x => exact .any x
  | sl0 a cap sz => exact .sl0 a cap sz
  | sl b off cap sz es cv hb hlt hlen hcap hsz hc ho _ ih =>
    cases hn with
    | sl _ _ hn => exact .sl b off cap sz es cv (fun e => hb (to_ow hs e)) hlt hlen hcap hsz hc ho fun i e j c h1 h2 => ih i e j c h1 h2 (hn e (List.mem_of_getElem? h1) c (List.mem_of_getElem? h2))
  | cp b off cs cv hb hlt hc ho _ ih =>
    cases hn with
    | cp _ hn => exact .cp b off cs cv (fun e => hb (to_ow hs e)) hlt hc ho fun j c h1 => ih j c h1 (hn c (List.mem_of_getElem? h1))
  | ag xs cs hl ho _ ih =>
    cases hn with
    | ag _ hn => exact .ag xs cs hl ho fun j x c h1 h2 => ih j x c h1 h2 (hn c (List.mem_of_getElem? h2))
  | tu xs cs hl _ ih =>
    cases hn with
    | tu _ hn => exact .tu xs cs hl fun j x c h1 h2 => ih j x c h1 h2 (hn c (List.mem_of_getElem? h2))
  | fn f xs ys fi ca hl hl' _ _ ih ih' =>
    cases hn with
    | fn _ _ _ hn hn' => exact .fn f xs ys fi ca hl hl' (fun j x c h1 h2 => ih j x c h1 h2 (hn c (List.mem_of_getElem? h2))) (fun j x c h1 h2 => ih' j x c h1 h2 (hn' c (List.mem_of_getElem? h2)))
  | ifc t x c _ ih =>
    cases hn with
    | ifc _ _ hn => exact .ifc t x c (ih hn)
  | p k off x hk hx h =>
    cases hn with
    | p _ _ hn => exact .p k off x hn hx fun s' hs' e => h s' (hs k s' hs') e
  | mp k x hk hx h =>
    cases hn with
    | mp _ hn => exact .mp k x hn hx fun s' hs' e => h s' (hs k s' hs') e
  | os k m x hk h hx =>
    cases hn with
    | os _ _ hn => exact .os k m x hn (fun m' hm => h m' (hs k _ hm)) hx
  | pr k m off x hk hx h =>
    cases hn with
    | pr _ _ _ hn => exact .pr k m off x hn hx (fun m' hm => h m' (hs k _ hm))
  | bs k off m x hk hx h =>
    cases hn with
    | bs _ _ _ hn => exact .bs k off m x hn hx fun s' hs' e => h s' (hs k s' hs') e

/-- What reads as i reads as i', too. -/
def Wk (i i' : IV) : Prop := ∀ (w : World) (g : Gs) (x : Value), R w g x i → R w g x i'

/-- What was named by names from n on comes out frozen. -/
inductive Fz (H J : IHeap) : IV → IV → Prop
  | wk (i i' : IV) (hw : Wk i i') (h : NB J.next i') : Fz H J i i'
  | os (k m sz : Nat) (es es' : List (List IV)) (hk : J.obj k = none) (ho : H.obj k = some (.row sz es)) (hm : es.length = m) (hl : es'.length = es.length) (hl' : ∀ (i : Nat) (e e' : List IV), es[i]? = some e → es'[i]? = some e' → e'.length = e.length)
      (h : ∀ (i : Nat) (e e' : List IV), es[i]? = some e → es'[i]? = some e' → ∀ (j : Nat) (c c' : IV), e[j]? = some c → e'[j]? = some c' → Fz H J c c') : Fz H J (.os k m) (.sl sz es')
  | p (k off : Nat) (cs cs' : List IV) (hk : J.obj k = none) (ho : H.obj k = some (.cells cs)) (hl : cs'.length = cs.length) (h : ∀ (j : Nat) (c c' : IV), cs[j]? = some c → cs'[j]? = some c' → Fz H J c c') : Fz H J (.p k off) (.cp (cs'.drop off))
  | bs (k off m sz : Nat) (cs cs' : List IV) (hk : J.obj k = none) (ho : H.obj k = some (.cells cs)) (hl : cs'.length = cs.length) (hb : off + m * sz ≤ cs.length) (hm : m ≤ maxN) (h : ∀ (j : Nat) (c c' : IV), cs[j]? = some c → cs'[j]? = some c' → Fz H J c c') :
      Fz H J (.bs k off m) (.sl sz (chunks sz m (cs'.drop off)))
  | tu (cs cs' : List IV) (hl : cs'.length = cs.length) (h : ∀ (j : Nat) (c c' : IV), cs[j]? = some c → cs'[j]? = some c' → Fz H J c c') : Fz H J (.tu cs) (.tu cs')
  | ag (cs cs' : List IV) (hl : cs'.length = cs.length) (h : ∀ (j : Nat) (c c' : IV), cs[j]? = some c → cs'[j]? = some c' → Fz H J c c') : Fz H J (.ag cs) (.ag cs')
  | cp (cs cs' : List IV) (hl : cs'.length = cs.length) (h : ∀ (j : Nat) (c c' : IV), cs[j]? = some c → cs'[j]? = some c' → Fz H J c c') : Fz H J (.cp cs) (.cp cs')
  | fn (f : Fn) (a a' b b' : List IV) (hl : a'.length = a.length) (hl' : b'.length = b.length) (h : ∀ (j : Nat) (c c' : IV), a[j]? = some c → a'[j]? = some c' → Fz H J c c') (h' : ∀ (j : Nat) (c c' : IV), b[j]? = some c → b'[j]? = some c' → Fz H J c c') : Fz H J (.fn f a b) (.fn f a' b')

theorem get_same {α β : Type} {l : List α} {l' : List β} (h : l'.length = l.length) {j : Nat} {c' : β} (hj : l'[j]? = some c') : ∃ c, l[j]? = some c := by
  have := (List.getElem?_eq_some_iff.1 hj).1
  exact ⟨l[j], List.getElem?_eq_getElem (by omega)⟩

theorem Sim.free_of_to {w : World} {g : Gs} {J : IHeap} (s : Sim w g H) (hj : SubH J H) {k b : Nat} (hk : J.obj k = none) (hl : (g.sh k).isSome = true) (hb : blk (g.mu k) = some b) : ¬ (g.to J).ow b := by
  rintro (h | ⟨k', h1, h2⟩)
  · exact (s.bk k b hl hb).1 h
  · simp only [Gs.to] at h1 h2
    obtain ⟨q, hq⟩ := Option.isSome_iff_exists.1 h1
    have := s.inj k k' b hl (by rw [hj.sh s k' q hq]; rfl) hb h2
    subst this
    simp [IHeap.sh, hk] at hq

theorem Fz.sound {w : World} {g : Gs} {J : IHeap} (s : Sim w g H) (hj : SubH J H) {i i' : IV} (f : Fz H J i i') : ∀ {x : Value}, R w g x i → R w (g.to J) x i' := by
  induction f with
  | wk i i' hw h => intro x hx; exact (hw w g x hx).to (hj.sh s) h
  | os k m sz es es' hk ho hm hl hl' _ ih =>
    intro x hx
    obtain ⟨a, cap, h1, h2, h3, h4, h5, h6⟩ := s.obj k _ ho
    have hsh : g.sh k = some (.row es.length) := by rw [s.sh, IHeap.sh, ho]; rfl
    have hmu : x = g.mu k := by
      cases hx with
      | os _ _ _ _ h _ => exact (h _ hsh).2 hm.symm
    rw [hmu, h1]
    have hsz' : ∀ e', e' ∈ es' → e'.length = sz := by
      intro e' he'
      obtain ⟨q, hq⟩ := List.getElem?_of_mem he'
      obtain ⟨e, he⟩ := get_same hl hq
      rw [hl' q e e' he hq]
      exact h4 e (List.mem_of_getElem? he)
    rcases h6 with ⟨rfl, rfl⟩ | ⟨b, xs, el, f, rfl, h7, h8, h9, h10⟩
    · have e0 : es = [] := List.eq_nil_of_length_eq_zero (by omega)
      subst e0
      have e1 : es' = [] := List.eq_nil_of_length_eq_zero (by simpa using hl)
      subst e1
      exact .sl0 _ _ _
    · have hb : ¬ (g.to J).ow b := s.free_of_to hj hk (by rw [hsh]; rfl) (by rw [h1]; rfl)
      have key : ∀ (i : Nat) (e' : List IV) (j : Nat) (c' : IV), es'[i]? = some e' → e'[j]? = some c' → ∃ y e c, es[i]? = some e ∧ e[j]? = some c ∧ xs[i * sz + j]? = some y ∧ y.oneCell' = true ∧ R w g y c := by
        intro i e' j c' q1 q2
        obtain ⟨e, he⟩ := get_same hl q1
        obtain ⟨c, hc⟩ := get_same (hl' i e e' he q1) q2
        have hel := h4 e (List.mem_of_getElem? he)
        have hj : j < sz := by rw [← hel]; exact (List.getElem?_eq_some_iff.1 hc).1
        have hflat : es.flatten[i * sz + j]? = some c := by
          have hd : (i * sz + j) / sz = i := by rw [Nat.mul_comm, Nat.mul_add_div h5, Nat.div_eq_of_lt hj]; rfl
          have hmod : (i * sz + j) % sz = j := by rw [Nat.mul_comm, Nat.mul_add_mod, Nat.mod_eq_of_lt hj]
          rw [flatten_get h5 h4, hd, hmod, he]
          exact hc
        obtain ⟨y, q3, q4, q5⟩ := h10.2 _ _ hflat
        exact ⟨y, e, c, he, hc, q3, q4, q5⟩
      have hcell : ∀ q, w.cell? ⟨b, q, none⟩ = xs[q]? := by intro q; simp [World.cell?, h7]
      rw [← hl]
      refine .sl b 0 cap sz es' (fun i j => xs.getD (i * sz + j) undef) hb (heap_lt h7) (by rw [hl]; exact h3) (by rw [hl]; exact h2) hsz' ?_ ?_ ?_
      · intro i e' j c' q1 q2
        obtain ⟨y, _, _, _, _, q3, _⟩ := key i e' j c' q1 q2
        rw [Nat.zero_add, hcell, q3]; simp [q3]
      · intro i e' j c' q1 q2
        obtain ⟨y, _, _, _, _, q3, q4, _⟩ := key i e' j c' q1 q2
        simpa [q3] using q4
      · intro i e' j c' q1 q2
        obtain ⟨y, e, c, q5, q6, q3, _, q7⟩ := key i e' j c' q1 q2
        have := ih i e e' q5 q1 j c c' q6 q2 q7
        simpa [q3] using this
  | p k off cs cs' hk ho hl _ ih =>
    intro x hx
    obtain ⟨b, xs, el, f, h1, rfl, h2, h3, h4⟩ := s.cells_at ho hx
    have hb : ¬ (g.to J).ow b := s.free_of_to hj hk (by rw [s.sh, IHeap.sh, ho]; rfl) (by rw [h1]; rfl)
    have hcell : ∀ q, w.cell? ⟨b, q, none⟩ = xs[q]? := by intro q; simp [World.cell?, h2]
    have key : ∀ (j : Nat) (c' : IV), (cs'.drop off)[j]? = some c' → ∃ y c, cs[off + j]? = some c ∧ cs'[off + j]? = some c' ∧ xs[off + j]? = some y ∧ y.oneCell' = true ∧ R w g y c := by
      intro j c' q
      rw [List.getElem?_drop] at q
      obtain ⟨c, hc⟩ := get_same hl q
      obtain ⟨y, q1, q2, q3⟩ := h4.2 _ _ hc
      exact ⟨y, c, hc, q, q1, q2, q3⟩
    refine .cp b off _ (fun j => xs.getD (off + j) undef) hb (heap_lt h2) ?_ ?_ ?_
    · intro j c' q
      obtain ⟨y, c, _, _, q3, _⟩ := key j c' q
      rw [hcell, q3]; simp [q3]
    · intro j c' q
      obtain ⟨y, c, _, _, q3, q4, _⟩ := key j c' q
      simpa [q3] using q4
    · intro j c' q
      obtain ⟨y, c, q1, q2, q3, _, q5⟩ := key j c' q
      have := ih _ c c' q1 q2 q5
      simpa [q3] using this
  | bs k off m sz cs cs' hk ho hl hbd hm _ ih =>
    intro x hx
    have hsh : g.sh k = some .fx := by rw [s.sh, IHeap.sh, ho]; rfl
    have ⟨b, cap, hmu, hxe⟩ : ∃ b cap, g.mu k = .pointer (some ⟨b, 0, none⟩) ∧ x = .slice (some ⟨b, off, none⟩) m cap := by
      cases hx with
      | bs _ _ _ _ _ _ h => exact h _ hsh rfl
    obtain ⟨b', xs, el, f, h1, h2, h3, h4⟩ := s.obj k _ ho
    rw [hmu] at h1
    simp only [Value.pointer.injEq, Option.some.injEq, Addr.mk.injEq, and_true] at h1
    subst h1
    have hb : ¬ (g.to J).ow b := s.free_of_to hj hk (by rw [hsh]; rfl) (by rw [hmu]; rfl)
    have hcell : ∀ q, w.cell? ⟨b, q, none⟩ = xs[q]? := by intro q; simp [World.cell?, h2]
    have hlen := chunks_length sz m (cs'.drop off)
    have key : ∀ (i : Nat) (e' : List IV) (j : Nat) (c' : IV), (chunks sz m (cs'.drop off))[i]? = some e' → e'[j]? = some c' → ∃ y c, cs[off + i * sz + j]? = some c ∧ cs'[off + i * sz + j]? = some c' ∧ xs[off + i * sz + j]? = some y ∧ y.oneCell' = true ∧ R w g y c := by
      intro i e' j c' q1 q2
      have q := (chunks_get sz m _ i e' q1 j c' q2).1
      rw [List.getElem?_drop, ← Nat.add_assoc] at q
      obtain ⟨c, hc⟩ := get_same hl q
      obtain ⟨y, q3, q4, q5⟩ := h4.2 _ _ hc
      exact ⟨y, c, hc, q, q3, q4, q5⟩
    have hcap : m ≤ cap := by
      cases hx with
      | bs _ _ _ _ _ hx' _ =>
        obtain ⟨a, cap', h5, h6⟩ := hx'
        rw [hxe] at h5
        simp only [Value.slice.injEq] at h5
        obtain ⟨_, _, rfl⟩ := h5
        exact h6
    subst hxe
    · have := R.sl (w := w) (g := g.to J) b off cap sz (chunks sz m (cs'.drop off)) (fun i j => xs.getD (off + i * sz + j) undef) hb (heap_lt h2) (by rw [hlen]; exact hm) (by rw [hlen]; exact hcap) (chunks_all sz m _ (by rw [List.length_drop]; omega))
        (fun i e' j c' q1 q2 => by obtain ⟨y, c, _, _, q3, _⟩ := key i e' j c' q1 q2; rw [hcell, q3]; simp [q3])
        (fun i e' j c' q1 q2 => by obtain ⟨y, c, _, _, q3, q4, _⟩ := key i e' j c' q1 q2; simpa [q3] using q4)
        (fun i e' j c' q1 q2 => by
          obtain ⟨y, c, q5, q6, q3, _, q7⟩ := key i e' j c' q1 q2
          have := ih _ c c' q5 q6 q7
          simpa [q3] using this)
      rwa [hlen] at this
  | tu cs cs' hl _ ih =>
    intro x hx
    cases hx with
    | tu xs _ hl' hr =>
      refine .tu xs cs' (by omega) fun j y c' q1 q2 => ?_
      obtain ⟨c, hc⟩ := get_same hl q2
      exact ih j c c' hc q2 (hr j y c q1 hc)
  | ag cs cs' hl _ ih =>
    intro x hx
    cases hx with
    | ag xs _ hl' ho hr =>
      refine .ag xs cs' (by omega) ho fun j y c' q1 q2 => ?_
      obtain ⟨c, hc⟩ := get_same hl q2
      exact ih j c c' hc q2 (hr j y c q1 hc)
  | cp cs cs' hl _ ih =>
    intro x hx
    cases hx with
    | cp b off _ cv hb hlt hc ho hr =>
      refine .cp b off cs' cv (fun e => hb (to_ow (hj.sh s) e)) hlt ?_ ?_ ?_
      · intro j c' q
        obtain ⟨c, hj⟩ := get_same hl q
        exact hc j c hj
      · intro j c' q
        obtain ⟨c, hj⟩ := get_same hl q
        exact ho j c hj
      · intro j c' q
        obtain ⟨c, hj⟩ := get_same hl q
        exact ih j c c' hj q (hr j c hj)
  | fn f a a' b b' hl hl' _ _ ih ih' =>
    intro x hx
    cases hx with
    | fn _ xs ys _ _ h1 h2 hr hr' =>
      refine .fn f xs ys a' b' (by omega) (by omega) ?_ ?_
      · intro j y c' q1 q2
        obtain ⟨c, hc⟩ := get_same hl q2
        exact ih j c c' hc q2 (hr j y c q1 hc)
      · intro j y c' q1 q2
        obtain ⟨c, hc⟩ := get_same hl' q2
        exact ih' j c c' hc q2 (hr' j y c q1 hc)

theorem R.nb {w : World} {g : Gs} {x : Value} {i : IV} (h : R w g x i) : NB g.nx i := by
  induction h with
  | v x => exact .v x
  | any x => exact .any
  | sl0 a cap sz => exact .sl _ _ (by simp)
  | sl b off cap sz es cv hb hlt hlen hcap hsz hc ho _ ih =>
    refine .sl _ _ fun e he c hc => ?_
    obtain ⟨i, hi⟩ := List.getElem?_of_mem he
    obtain ⟨j, hj⟩ := List.getElem?_of_mem hc
    exact ih i e j c hi hj
  | cp b off cs cv hb hlt hc ho _ ih =>
    refine .cp _ fun c hc => ?_
    obtain ⟨j, hj⟩ := List.getElem?_of_mem hc
    exact ih j c hj
  | ag xs cs hl ho _ ih =>
    refine .ag _ fun c hc => ?_
    obtain ⟨j, hj⟩ := List.getElem?_of_mem hc
    have hlt : j < xs.size := by rw [hl]; exact (List.getElem?_eq_some_iff.1 hj).1
    exact ih j _ c (Array.getElem?_eq_getElem hlt) hj
  | tu xs cs hl _ ih =>
    refine .tu _ fun c hc => ?_
    obtain ⟨j, hj⟩ := List.getElem?_of_mem hc
    have hlt : j < xs.size := by rw [hl]; exact (List.getElem?_eq_some_iff.1 hj).1
    exact ih j _ c (Array.getElem?_eq_getElem hlt) hj
  | fn f xs ys fi ca hl hl' _ _ ih ih' =>
    refine .fn _ _ _ (fun c hc => ?_) (fun c hc => ?_)
    · obtain ⟨j, hj⟩ := List.getElem?_of_mem hc
      have hlt : j < xs.size := by rw [hl]; exact (List.getElem?_eq_some_iff.1 hj).1
      exact ih j _ c (Array.getElem?_eq_getElem hlt) hj
    · obtain ⟨j, hj⟩ := List.getElem?_of_mem hc
      have hlt : j < ys.size := by rw [hl']; exact (List.getElem?_eq_some_iff.1 hj).1
      exact ih' j _ c (Array.getElem?_eq_getElem hlt) hj
  | ifc t x c _ ih => exact .ifc _ _ ih
  | p k off x hk hx h => exact .p _ _ hk
  | mp k x hk hx h => exact .mp _ hk
  | os k m x hk h hx => exact .os _ _ hk
  | pr k m off x hk hx h => exact .pr _ _ _ hk
  | bs k off m x hk hx h => exact .bs _ _ _ hk

theorem NB.mono {n n' : Nat} (hn : n ≤ n') {i : IV} (h : NB n i) : NB n' i := by
  induction h with
  | v x => exact .v x
  | any => exact .any
  | sl sz es _ ih => exact .sl _ _ ih
  | cp cs _ ih => exact .cp _ ih
  | ag cs _ ih => exact .ag _ ih
  | tu cs _ ih => exact .tu _ ih
  | fn f a b _ _ ih ih' => exact .fn _ _ _ ih ih'
  | ifc t x _ ih => exact .ifc _ _ ih
  | p k off h => exact .p _ _ (by omega)
  | mp k h => exact .mp _ (by omega)
  | os k m h => exact .os _ _ (by omega)
  | pr k m off h => exact .pr _ _ _ (by omega)
  | bs k off m h => exact .bs _ _ _ (by omega)

/-- All names in what is named are below n. -/
def NBo (n : Nat) : HO → Prop
  | .cells cs => ∀ c, c ∈ cs → NB n c
  | .row _ es => ∀ e, e ∈ es → ∀ c, c ∈ e → NB n c
  | .obj _ => True
  | .ty _ o => NBo n o

theorem NBo.mono {n m : Nat} (h : n ≤ m) {o : HO} (k : NBo n o) : NBo m o := by
  induction o with
  | cells _ => exact fun c hc => (k c hc).mono h
  | row _ _ => exact fun e he c hc => (k e he c hc).mono h
  | obj _ => trivial
  | ty _ _ ih => exact ih k

theorem CellsR.nb {w : World} {g : Gs} {xs : Array Value} {cs : List IV} (h : CellsR w g xs cs) : ∀ c, c ∈ cs → NB g.nx c := by
  intro c hc
  obtain ⟨j, hj⟩ := List.getElem?_of_mem hc
  obtain ⟨x, _, _, hr⟩ := h.2 j c hj
  exact hr.nb

theorem ObjR.nb {w : World} {g : Gs} {x : Value} {o : HO} (h : ObjR w g x o) : NBo g.nx o := by
  induction o with
  | cells cs =>
    obtain ⟨b, xs, el, f, _, _, _, hc⟩ := h
    exact hc.nb
  | row sz es =>
    obtain ⟨a, cap, _, h1, _, _, _, h2⟩ := h
    rcases h2 with ⟨_, rfl⟩ | ⟨b, xs, el, f, _, _, _, _, hc⟩
    · have : es = [] := List.eq_nil_of_length_eq_zero (by omega)
      subst this
      intro e he; simp at he
    · intro e he c hc'
      exact hc.nb c (List.mem_flatten.2 ⟨e, he, hc'⟩)
  | obj o => trivial
  | ty t o ih => exact ih h.1

theorem CellsR.to {w : World} {g : Gs} {J : IHeap} (hs : ∀ k q, J.sh k = some q → g.sh k = some q) {xs : Array Value} {cs : List IV} (h : CellsR w g xs cs) (hn : ∀ c, c ∈ cs → NB J.next c) : CellsR w (g.to J) xs cs :=
  ⟨h.1, fun j c hj => let ⟨x, h1, h2, h3⟩ := h.2 j c hj; ⟨x, h1, h2, h3.to hs (hn c (List.mem_of_getElem? hj))⟩⟩

theorem ObjR.to {w : World} {g : Gs} {J : IHeap} (hs : ∀ k q, J.sh k = some q → g.sh k = some q) {x : Value} {o : HO} (h : ObjR w g x o) (hn : NBo J.next o) : ObjR w (g.to J) x o := by
  induction o with
  | cells cs =>
    obtain ⟨b, xs, el, f, h1, h2, h3, hc⟩ := h
    exact ⟨b, xs, el, f, h1, h2, h3, hc.to hs hn⟩
  | row sz es =>
    obtain ⟨a, cap, h1, h2, h3, h4, h5, h6⟩ := h
    refine ⟨a, cap, h1, h2, h3, h4, h5, ?_⟩
    rcases h6 with h6 | ⟨b, xs, el, f, h7, h8, h9, h10, hc⟩
    · exact .inl h6
    · exact .inr ⟨b, xs, el, f, h7, h8, h9, h10, hc.to hs fun c hc' => by obtain ⟨e, he, hc''⟩ := List.mem_flatten.1 hc'; exact hn e he c hc''⟩
  | obj o => exact h
  | ty t o ih => exact ⟨ih h.1 hn, h.2⟩

/-- The names that are left at an end: what they name stood there at the start, or names nothing that goes. -/
structure EndH (H H' J : IHeap) : Prop where
  lo : H.next ≤ J.next
  hi : J.next ≤ H'.next
  sub : SubH J H'
  lt : ∀ k o, J.obj k = some o → k < J.next
  nb : J.next = H'.next ∨ ∀ k o, J.obj k = some o → H.obj k = some o ∨ NBo J.next o
  sn : J.sn = H.sn

theorem EndH.sim {w0 w : World} {g0 g : Gs} {H H' J : IHeap} (h : EndH H H' J) (s0 : Sim w0 g0 H) (m : Mono w0 g0 w g) (s : Sim w g H') : Sim w (g.to J) J ∧ Mono w0 g0 w (g.to J) := by
  have hs := h.sub.sh s
  suffices hm : Mono w0 g0 w (g.to J) from by
    refine ⟨⟨rfl, fun _ => rfl, ?_, ?_, ?_, ?_, s.old, fun p hp i hi => (s0.snap p (by rw [← h.sn]; exact hp) i hi).mono hm⟩, hm⟩
    · intro k hk
      obtain ⟨o, ho⟩ := Option.isSome_iff_exists.1 hk
      exact h.lt k o ho
    · intro k b h1 h2
      obtain ⟨q, hq⟩ := Option.isSome_iff_exists.1 h1
      exact s.bk k b (by rw [hs k q hq]; rfl) h2
    · intro k k' b h1 h2 h3 h4
      obtain ⟨q, hq⟩ := Option.isSome_iff_exists.1 h1
      obtain ⟨q', hq'⟩ := Option.isSome_iff_exists.1 h2
      exact s.inj k k' b (by rw [hs k q hq]; rfl) (by rw [hs k' q' hq']; rfl) h3 h4
    · intro k o ho
      refine (s.obj k o (h.sub k o ho)).to hs ?_
      have hnb := (s.obj k o (h.sub k o ho)).nb
      rcases h.nb with e | e
      · rw [e, ← s.nx]; exact hnb
      · rcases e k o ho with e | e
        · have h0 := (s0.obj k o e).nb
          rw [s0.nx] at h0
          exact h0.mono h.lo
        · exact e
  refine ⟨m.size, m.os, m.tape, m.output, m.keep, fun b hb ho => m.own b hb (to_ow hs ho), m.oth, by show g0.nx ≤ J.next; rw [s0.nx]; exact h.lo, ?_, ?_⟩
  · intro k hk hf
    exact m.fx k hk (hs k _ hf)
  · intro k m' hk hf
    exact m.row k m' hk (hs k _ hf)
end Go.Idl

namespace Go.Idl
open Go Go.RowKit

variable {P : Program} {N : Nat} {tm : Tm} {H : IHeap}

/-- Two worlds that differ in no cells and in nothing that is owned. -/
structure Agr (w w' : World) (g : Gs) : Prop where
  size : w'.heap.size = w.heap.size
  os : w'.os = w.os
  tape : w'.tape = w.tape
  output : w'.output = w.output
  cells : ∀ (b : Nat) xs el f, w.heap[b]? = some (Obj.cells xs el f) → w'.heap[b]? = w.heap[b]?
  own : ∀ b, g.named b → w'.heap[b]? = w.heap[b]?

theorem Agr.refl (w : World) (g : Gs) : Agr w w g := ⟨rfl, rfl, rfl, rfl, fun _ _ _ _ _ => rfl, fun _ _ => rfl⟩

theorem Agr.cell {w w' : World} {g : Gs} (h : Agr w w' g) {a : Addr} {x : Value} (hx : w.cell? a = some x) : w'.cell? a = some x := by
  unfold World.cell? at hx ⊢
  cases hb : w.heap[a.block]? with
  | none => simp [hb] at hx
  | some o =>
    cases o with
    | cells xs el f => rw [h.cells _ _ _ _ hb, hb]; rw [hb] at hx; exact hx
    | _ => simp [hb] at hx

theorem R.agr {w w' : World} {g : Gs} (h : Agr w w' g) {x : Value} {i : IV} (hx : R w g x i) : R w' g x i := by
  induction hx with
  | v x => exact .v x
  | any x => exact .any x
  | sl0 a cap sz => exact .sl0 a cap sz
  | sl b off cap sz es cv hb hlt hlen hcap hsz hc ho _ ih => exact .sl b off cap sz es cv hb (by rw [h.size]; exact hlt) hlen hcap hsz (fun i e j c h1 h2 => h.cell (hc i e j c h1 h2)) ho ih
  | cp b off cs cv hb hlt hc ho _ ih => exact .cp b off cs cv hb (by rw [h.size]; exact hlt) (fun j c h1 => h.cell (hc j c h1)) ho ih
  | ag xs cs hl ho _ ih => exact .ag xs cs hl ho ih
  | tu xs cs hl _ ih => exact .tu xs cs hl ih
  | fn f xs ys fi ca hl hl' _ _ ih ih' => exact .fn f xs ys fi ca hl hl' ih ih'
  | ifc t x c _ ih => exact .ifc t x c ih
  | p k off x hk hx h => exact .p k off x hk hx h
  | mp k x hk hx h => exact .mp k x hk hx h
  | os k m x hk h hx => exact .os k m x hk h hx
  | pr k m off x hk hx h => exact .pr k m off x hk hx h
  | bs k off m x hk hx h => exact .bs k off m x hk hx h

theorem CellsR.agr {w w' : World} {g : Gs} (h : Agr w w' g) {xs : Array Value} {cs : List IV} (hc : CellsR w g xs cs) : CellsR w' g xs cs :=
  ⟨hc.1, fun j c hj => let ⟨x, h1, h2, h3⟩ := hc.2 j c hj; ⟨x, h1, h2, h3.agr h⟩⟩

theorem Sim.agr {w w' : World} {g : Gs} (h : Agr w w' g) (s : Sim w g H) : Sim w' g H := by
  refine ⟨s.nx, s.sh, s.lt, fun k b h1 h2 => ⟨(s.bk k b h1 h2).1, by rw [h.size]; exact (s.bk k b h1 h2).2⟩, s.inj, fun k o ho => ?_, fun b hb => by rw [h.size]; exact s.old b hb, fun p hp i hi => (s.snap p hp i hi).agr h⟩
  have hob := s.obj k o ho
  have hn : ∀ b, blk (g.mu k) = some b → w'.heap[b]? = w.heap[b]? := fun b hb => h.own b ⟨k, by rw [s.sh, IHeap.sh, ho]; rfl, hb⟩
  clear ho
  induction o with
  | cells cs =>
    obtain ⟨b, xs, el, f, h1, h2, h3, hc⟩ := hob
    exact ⟨b, xs, el, f, h1, (hn b (by rw [h1]; rfl)).trans h2, h3, hc.agr h⟩
  | row sz es =>
    obtain ⟨a, cap, h1, h2, h3, h4, h5, h6⟩ := hob
    refine ⟨a, cap, h1, h2, h3, h4, h5, ?_⟩
    rcases h6 with h6 | ⟨b, xs, el, f, h7, h8, h9, h10, hc⟩
    · exact .inl h6
    · exact .inr ⟨b, xs, el, f, h7, (hn b (by rw [h1, h7]; rfl)).trans h8, h9, h10, hc.agr h⟩
  | obj o =>
    obtain ⟨b, h1, h2, h3⟩ := hob
    exact ⟨b, h1, (hn b (by rw [h1]; rfl)).trans h2, h3⟩
  | ty t o ih => exact ⟨ih hob.1, hob.2.keep hn⟩

/-- The marks are taken: the frame leaves. -/
theorem leaves_marks {fn : Func} {tmps : Array Value} {R' : Ending → World → Prop} {u : FrameMode} {B : Nat} {w0 : World} (hB : w0.heap.size ≤ B) (hu : u ≠ .run) : ∀ (ds : List Deferred) {w : World} {g g0 : Gs},
    Marks none B w g ds → Mono w0 g0 w g → (∀ w', Agr w w' g → Mono w0 g0 w' g → LeavesIn (FR none) 0 P fn tmps R' [] u w') → LeavesInM (FR none) 0 P fn tmps R' ds u w
  | [], w, g, g0, _, m0, k => k w (.refl w g) m0
  | d :: ds, w, g, g0, ⟨⟨r, h1, h2, h3, h4, h5, h6⟩, hm⟩, m0, k => by
    refine ⟨hu, .inl ⟨r, _, by rw [h1], run_takeDeferred h4, ?_⟩⟩
    have hag : Agr w (w.putObj r (.deferred none)) g := by
      refine ⟨by simp, rfl, rfl, rfl, fun b xs el f hb => ?_, fun b hb => ?_⟩
      · exact World.putObj_heap_other (fun e => by subst e; rw [h4] at hb; cases hb)
      · exact World.putObj_heap_other (fun e => by subst e; exact h5 (.inr hb))
    have hm0 : Mono w0 g0 (w.putObj r (.deferred none)) g := by
      refine ⟨by simpa using m0.size, m0.os, m0.tape, m0.output, fun b hb hn => ?_, m0.own, m0.oth, m0.nx, m0.fx, m0.row⟩
      rw [← m0.keep b hb hn]
      exact World.putObj_heap_other (by omega)
    have hmk : ∀ (l : List Deferred), (∀ d', d' ∈ l → d'.target ≠ .collected r) → Marks none B w g l → Marks none B (w.putObj r (.deferred none)) g l := by
      intro l
      induction l with
      | nil => exact fun _ _ r e => by cases e
      | cons e l ih =>
        rintro hne ⟨⟨q, q1, q2, q3, q4, q5, q6⟩, q7⟩
        refine ⟨⟨q, q1, q2, by simpa using q3, ?_, q5, q6⟩, ih (fun d' hd => hne d' (List.mem_cons_of_mem _ hd)) q7⟩
        rw [← q4]
        refine World.putObj_heap_other fun e' => ?_
        subst e'
        exact hne e (by simp) (by rw [q1])
    refine leaves_marks hB hu ds (hmk ds h6 hm) hm0 fun w' a' m' => k w' ?_ m'
    refine ⟨by rw [a'.size, hag.size], a'.os.trans hag.os, a'.tape.trans hag.tape, a'.output.trans hag.output, fun b xs el f hb => ?_, fun b hb => (a'.own b hb).trans (hag.own b hb)⟩
    have e1 := hag.cells b xs el f hb
    exact (a'.cells b xs el f (e1.trans hb)).trans e1

/-! ### Results -/
def rvI (P : Program) (H : IHeap) (tm : Tm) : ResultVar → Option (Prop × IV)
  | .tmp t => some (True, tm t)
  | .cell a t => ldN P H t (tm a)

def resI (P : Program) (H : IHeap) (tm : Tm) : List ResultVar → Option (Prop × List IV)
  | [] => some (True, [])
  | r :: rs =>
    match rvI P H tm r with
    | some (s, x) => match resI P H tm rs with | some (s', xs) => some (s ∧ s', x :: xs) | none => none
    | none => none

def oneI : List IV → IV
  | [x] => x
  | l => .tu l

/-- A result's slot is there. -/
def rvN (N : Nat) : ResultVar → Bool
  | .tmp t => decide (t < N)
  | .cell a _ => decide (a < N)

theorem rvI_sound {w : World} {g : Gs} {tmps : Array Value} (sm : Sim w g H) (ra : ∀ i, i < tmps.size → R w g (tmps.getD i undef) (tm i)) {r : ResultVar} (hr : rvN tmps.size r = true) {s : Prop} {i : IV} (h : rvI P H tm r = some (s, i)) (hs : s) :
    ∃ v, (match r with | .tmp t => pure (tmps.getD t undef) | .cell a t => do loadVar t (← asAddr (tmps.getD a undef)) : Sem Value).run P w = .ok v w ∧ R w g v i := by
  cases r with
  | tmp t =>
    simp only [rvI, Option.some.injEq, Prod.mk.injEq] at h
    obtain ⟨_, rfl⟩ := h
    exact ⟨_, by simp, ra t (by simpa [rvN] using hr)⟩
  | cell a t =>
    obtain ⟨v, h1, h2⟩ := ldN_sound (P := P) sm (ra a (by simpa [rvN] using hr)) h hs
    refine ⟨v, ?_, h2⟩
    rw [← h1]
    simp only [Instr.loadAt]
    generalize tmps.getD a undef = x at h1
    cases x with
    | pointer q =>
      cases q with
      | none => simp [Instr.loadAt, Instr.sureAddr, stuck] at h1
      | some q => simp [Instr.sureAddr, asAddr]
    | _ => simp [Instr.loadAt, Instr.sureAddr, stuck] at h1

theorem resI_sound {w : World} {g : Gs} {tmps : Array Value} (sm : Sim w g H) (ra : ∀ i, i < tmps.size → R w g (tmps.getD i undef) (tm i)) : ∀ (l : List ResultVar), (∀ r, r ∈ l → rvN tmps.size r = true) → ∀ {s : Prop} {is : List IV}, resI P H tm l = some (s, is) → s →
    ∃ vs : List Value, (l.mapM fun r : ResultVar => (match r with | .tmp t => pure (tmps.getD t undef) | .cell a t => do loadVar t (← asAddr (tmps.getD a undef)) : Sem Value)).run P w = .ok vs w ∧ vs.length = is.length ∧ ∀ (j : Nat) (x : Value) (c : IV), vs[j]? = some x → is[j]? = some c → R w g x c
  | [], _, s, is, h, _ => by
    simp only [resI, Option.some.injEq, Prod.mk.injEq] at h
    obtain ⟨_, rfl⟩ := h
    exact ⟨[], by simp, rfl, by simp⟩
  | r :: rs, hl, s, is, h, hs => by
    unfold resI at h
    split at h
    · rename_i s1 x h1
      split at h
      · rename_i s2 xs h2
        simp only [Option.some.injEq, Prod.mk.injEq] at h
        obtain ⟨rfl, rfl⟩ := h
        obtain ⟨v, q1, q2⟩ := rvI_sound (P := P) sm ra (hl r (by simp)) h1 hs.1
        obtain ⟨vs, q3, q4, q5⟩ := resI_sound sm ra rs (fun r hr => hl r (by simp [hr])) h2 hs.2
        refine ⟨v :: vs, ?_, by simp [q4], ?_⟩
        · simp only [List.mapM_cons, Sem.run_bind, q1, Result.andThen, q3, Sem.run_pure]
        · intro j x c e1 e2
          cases j with
          | zero => simp at e1 e2; subst e1; subst e2; exact q2
          | succ j => simp at e1 e2; exact q5 j x c e1 e2
      · cases h
    · cases h

/-- What is known of a value and of the named memory may be told another way. -/
def GhR (r : IV) (H : IHeap) (r' : IV) (J : IHeap) : Prop := ∀ (w : World) (g : Gs), Sim w g H → ∃ g', Mono w g w g' ∧ Sim w g' J ∧ ∀ x, R w g x r → R w g' x r'

theorem GhR.refl (r : IV) (H : IHeap) : GhR r H r H := fun w g s => ⟨g, .refl w g, s, fun _ h => h⟩
theorem GhR.trans {r r1 r2 : IV} {H H1 H2 : IHeap} (h : GhR r H r1 H1) (k : GhR r1 H1 r2 H2) : GhR r H r2 H2 := fun w g s => by
  obtain ⟨g1, m1, s1, h1⟩ := h w g s
  obtain ⟨g2, m2, s2, h2⟩ := k w g1 s1
  exact ⟨g2, m1.tr m2 s s1, s2, fun x hx => h2 x (h1 x hx)⟩
theorem GhR.wk {r r' : IV} {H : IHeap} (h : Wk r r') : GhR r H r' H := fun w g s => ⟨g, .refl w g, s, fun x hx => h w g x hx⟩

/-- What a body ends with. -/
def retG (r : IV) (H0 : IHeap) (Q : IEnd → IHeap → Prop) (H : IHeap) : Prop := (∃ r' J, EndH H0 H J ∧ Fz H J r r' ∧ Q (.ret r') J) ∨ ∃ r' J, GhR r H r' J ∧ Q (.ret r') J

def retV (P : Program) (rs : List ResultVar) (H0 : IHeap) (Q : IEnd → IHeap → Prop) (tm : Tm) (H : IHeap) : Prop :=
  ∃ s is, resI P H tm rs = some (s, is) ∧ s ∧ retG (oneI is) H0 Q H

def retQ (P : Program) (rs : List ResultVar) (H0 : IHeap) (Q : IEnd → IHeap → Prop) : Exit → Tm → IHeap → Prop
  | .normal, tm, H => retV P rs H0 Q tm H
  | .ret, tm, H => retV P rs H0 Q tm H
  | .panic ch, _, H => (∃ J, EndH H0 H J ∧ Q (.pan ch) J) ∨ Q (.pan ch) H
  | .exit _, _, _ => False
  | .goto _, _, _ => False
  | .outgrown, _, _ => False

def tm0 (args : List IV) : Tm := fun i => args.getD i (.v undef)

/-- No name from next on names anything. -/
def IHeap.Wf (H : IHeap) : Prop := ∀ k, H.next ≤ k → H.obj k = none

theorem Sim.wf {w : World} {g : Gs} (s : Sim w g H) : H.Wf := by
  intro k hk
  cases h : H.obj k with
  | none => rfl
  | some o => have := s.lt k (by rw [h]; rfl); omega

theorem run_results {fn : Func} {w : World} {g : Gs} {tmps : Array Value} (sm : Sim w g H) (ra : ∀ i, i < tmps.size → R w g (tmps.getD i undef) (tm i)) (hl : ∀ r, r ∈ fn.results.toList → rvN tmps.size r = true) {s : Prop} {is : List IV}
    (h : resI P H tm fn.results.toList = some (s, is)) (hs : s) : ∃ v, (results fn tmps).run P w = .ok v w ∧ R w g v (oneI is) := by
  obtain ⟨vs, h1, h2, h3⟩ := resI_sound (P := P) sm ra _ hl h hs
  have hm : ∀ F : ResultVar → Sem Value, fn.results.mapM F = (do return (← fn.results.toList.mapM F).toArray) := fun F => by
    generalize fn.results = rs
    cases rs with | _ l => rw [List.mapM_toArray]; simp
  refine ⟨if h : vs.toArray.size = 1 then vs.toArray[0] else .tuple vs.toArray, ?_, ?_⟩
  · unfold results
    simp only [Sem.run_bind]
    rw [hm]
    simp only [Sem.run_bind, Sem.run_pure]
    have h1' := h1
    erw [h1']
    simp [Result.andThen]
  · match vs, is, h2 with
    | [v], [i], _ => simpa [oneI] using h3 0 v i rfl rfl
    | [], [], _ => simpa [oneI] using R.tu #[] [] rfl (by simp)
    | v1 :: v2 :: vs, i1 :: i2 :: is, h2 =>
      simp only [oneI]
      have : ¬ (v1 :: v2 :: vs).toArray.size = 1 := by simp
      rw [dif_neg this]
      exact .tu _ _ (by simpa using h2) (fun j x c e1 e2 => h3 j x c (by simpa using e1) e2)

/-- **A call's triple, out of its body's.** -/
theorem ICalls_of_IWp {f : FuncId} {fn : Func} {c : Code} {args : List IV} {Q : IEnd → IHeap → Prop} (hbd : hasBody P f = true) (hf : P.funcs[f]? = some fn) (hb : fn.body = some c) (hn : args.length ≤ fn.ntmps) (hr : (fn.results.toList.all (rvN fn.ntmps)) = true)
    (h : H.Wf → IWp P fn.ntmps c (retQ P fn.results.toList H Q) (tm0 args) H) : ICalls P f args H Q := by
  refine ⟨hbd, fun w g vs s rl => ?_⟩
  have hN : (vs ++ Array.replicate (fn.ntmps - vs.size) undef).size = fn.ntmps := by
    have := rl.1
    simp; omega
  refine callsIn_wide.1 (callsIn_of_wp_marks (F := FR none) (n := 0) hf hb trivial (wpIn_mono ((h s.wf).run none w.heap.size w g { tmps := vs ++ Array.replicate (fn.ntmps - vs.size) undef, defers := [] } s ?_ hN (Nat.le_refl _) (fun r e => by cases e)) ?_))
  · intro i hi
    simp only at hi
    rcases Nat.lt_or_ge i vs.size with hlt | hge
    · have hil : i < args.length := by rw [← rl.1]; exact hlt
      have := rl.2 i vs[i] args[i] (Array.getElem?_eq_getElem hlt) (List.getElem?_eq_getElem hil)
      have e1 : (vs ++ Array.replicate (fn.ntmps - vs.size) undef).getD i undef = vs[i] := by
        rw [Array.getD_eq_getD_getElem?, Array.getElem?_append_left hlt]; simp [hlt]
      have e2 : tm0 args i = args[i] := by simp [tm0, hil]
      rw [e1, e2]; exact this
    · have hil : ¬ i < args.length := by rw [← rl.1]; omega
      have e1 : (vs ++ Array.replicate (fn.ntmps - vs.size) undef).getD i undef = undef := by
        rw [Array.getD_eq_getD_getElem?, Array.getElem?_append_right hge, Array.getElem?_replicate]
        split <;> rfl
      have e2 : tm0 args i = .v undef := by simp [tm0, List.getElem?_eq_none (by omega : args.length ≤ i)]
      rw [e1, e2]
      exact .v _
  · rintro e a' w' ⟨tm', g', H', m, s', ra, hN', hm, hne, hq⟩
    have hrn : ∀ r, r ∈ fn.results.toList → rvN a'.tmps.size r = true := by
      rw [hN']
      exact List.all_eq_true.1 hr
    have key : retV P fn.results.toList H Q tm' H' → LeavesInM (FR none) 0 P fn a'.tmps (fun e w' => ∃ ie g' H', Mono w g w' g' ∧ Sim w' g' H' ∧ RE w' g' e ie ∧ Q ie H') a'.defers .returning w' := by
      rintro ⟨st, is, h1, h2, h3⟩
      refine leaves_marks (Nat.le_refl _) (by simp) a'.defers hm m fun w'' ag m'' => ?_
      have s'' := s'.agr ag
      obtain ⟨v, q1, q2⟩ := run_results (P := P) s'' (fun i hi => (ra i hi).agr ag) hrn h1 h2
      rcases h3 with ⟨r', J, h3, h4, h5⟩ | ⟨r', J, h3, h5⟩
      · obtain ⟨sJ, mJ⟩ := h3.sim s m'' s''
        exact ⟨v, q1, _, _, J, mJ, sJ, .ret _ _ (h4.sound s'' h3.sub q2), h5⟩
      · obtain ⟨g3, m3, s3, h4⟩ := h3 w'' g' s''
        exact ⟨v, q1, _, _, J, m''.tr m3 s s'', s3, .ret _ _ (h4 _ q2), h5⟩
    cases e with
    | normal => exact key hq
    | ret => exact key hq
    | panic ch =>
      refine leaves_marks (Nat.le_refl _) (by simp) a'.defers hm m fun w'' ag m'' => ?_
      rcases hq with ⟨J, h3, h5⟩ | h5
      · obtain ⟨sJ, mJ⟩ := h3.sim s m'' (s'.agr ag)
        exact ⟨_, _, J, mJ, sJ, .pan _, h5⟩
      · exact ⟨_, _, H', m'', s'.agr ag, .pan _, h5⟩
    | exit id => exact hq.elim
    | goto id => exact hq.elim
    | outgrown => exact hq.elim

/-! ### What is left at an end -/
/-- What was there is there still, but for what is new. -/
structure Ext (H H' : IHeap) : Prop where
  wf : H.Wf
  le : H.next ≤ H'.next
  sub : ∀ k o, H.obj k = some o → H'.obj k = some o

theorem Ext.refl (h : H.Wf) : Ext H H := ⟨h, Nat.le_refl _, fun _ _ h => h⟩
theorem Ext.new {H' : IHeap} (h : Ext H H') (o : HO) : Ext H (H'.new o) := by
  refine ⟨h.wf, Nat.le_succ_of_le h.le, fun k o' hk => ?_⟩
  simp only [IHeap.new]
  by_cases e : k = H'.next
  · have h1 := h.wf k (by rw [e]; exact h.le)
    rw [h1] at hk; cases hk
  · rw [if_neg e]; exact h.sub k o' hk
theorem Ext.set {H' : IHeap} (h : Ext H H') {k : Nat} (hk : H.next ≤ k) (o : HO) : Ext H (H'.set k o) := by
  refine ⟨h.wf, h.le, fun i o' hi => ?_⟩
  simp only [IHeap.set]
  by_cases e : i = k
  · have h1 := h.wf i (by rw [e]; exact hk)
    rw [h1] at hi; cases hi
  · rw [if_neg e]; exact h.sub i o' hi
theorem Ext.del {H' : IHeap} (h : Ext H H') {k : Nat} (hk : H.next ≤ k) : Ext H (H'.del k) := by
  refine ⟨h.wf, h.le, fun i o' hi => ?_⟩
  simp only [IHeap.del]
  by_cases e : i = k
  · have h1 := h.wf i (by rw [e]; exact hk)
    rw [h1] at hi; cases hi
  · rw [if_neg e]; exact h.sub i o' hi
theorem Ext.trans {H' H'' : IHeap} (h : Ext H H') (h' : Ext H' H'') : Ext H H'' := ⟨h.wf, Nat.le_trans h.le h'.le, fun k o e => h'.sub k o (h.sub k o e)⟩

/-- All that is new is let go. -/
theorem Ext.endH {H' : IHeap} (h : Ext H H') : EndH H H' H := by
  refine ⟨Nat.le_refl _, h.le, h.sub, fun k o hk => ?_, .inr fun k o hk => .inl hk, rfl⟩
  rcases Nat.lt_or_ge k H.next with e | e
  · exact e
  · rw [h.wf k e] at hk; cases hk

/-! ### Steps of what is known alone -/
/-- What is known of a frame and of the named memory may be told another way. -/
def Gh (tm : Tm) (H : IHeap) (tm' : Tm) (H' : IHeap) : Prop := ∀ (w : World) (g : Gs), Sim w g H → ∃ g', Mono w g w g' ∧ Sim w g' H' ∧ ∀ a, RA w g a tm → RA w g' a tm'

theorem Gh.refl (tm : Tm) (H : IHeap) : Gh tm H tm H := fun w g s => ⟨g, .refl w g, s, fun _ r => r⟩
theorem Gh.trans {tm tm1 tm2 : Tm} {H H1 H2 : IHeap} (h : Gh tm H tm1 H1) (k : Gh tm1 H1 tm2 H2) : Gh tm H tm2 H2 := fun w g s => by
  obtain ⟨g1, m1, s1, r1⟩ := h w g s
  obtain ⟨g2, m2, s2, r2⟩ := k w g1 s1
  exact ⟨g2, m1.tr m2 s s1, s2, fun a r => r2 a (r1 a r)⟩
theorem Gh.wk {tm tm' : Tm} {H : IHeap} (h : ∀ i, Wk (tm i) (tm' i)) : Gh tm H tm' H := fun w g s => ⟨g, .refl w g, s, fun _ r i hi => h i _ _ _ (r i hi)⟩
theorem Gh.slot {tm : Tm} {H : IHeap} {d : Nat} {x : IV} (h : Wk (tm d) x) : Gh tm H (upd tm d x) H := .wk fun i => by
  unfold upd
  split
  · rename_i e; subst e; exact h
  · exact fun _ _ _ h => h

theorem IWp.gh {c : Code} {Q : Exit → Tm → IHeap → Prop} {tm tm' : Tm} {H H' : IHeap} (hg : Gh tm H tm' H') (h : IWp P N c Q tm' H') : IWp P N c Q tm H := by
  refine ⟨fun rr B w g a s r hN hB hm => ?_⟩
  obtain ⟨g1, m1, s1, r1⟩ := hg w g s
  exact wpIn_mono (h.run rr B w g1 a s1 (r1 a r) hN hB (hm.mono m1)) fun e a' w' hp => Post.tr m1 s s1 hp

theorem endH_del (H : IHeap) (hw : H.Wf) (k : Nat) : EndH H H (H.del k) := by
  refine ⟨Nat.le_refl _, Nat.le_refl _, fun i o h => ?_, fun i o h => ?_, .inl rfl, rfl⟩
  · simp only [IHeap.del] at h
    split at h
    · cases h
    · exact h
  · simp only [IHeap.del] at h
    split at h
    · cases h
    · rcases Nat.lt_or_ge i H.next with e | e
      · exact e
      · rw [hw i e] at h; cases h

/-- A row that is named grows no more: it is kept by its content. -/
theorem Gh.freeze {tm : Tm} {H : IHeap} {d k sz : Nat} {es : List (List IV)} (hk : H.obj k = some (.row sz es)) (hd : tm d = .os k es.length) : Gh tm H (upd tm d (.sl sz es)) (H.del k) := by
  intro w g s
  have he := endH_del H s.wf k
  obtain ⟨s1, m1⟩ := he.sim s (.refl w g) s
  refine ⟨_, m1, s1, fun a r i hi => ?_⟩
  show R w _ _ (if i = d then _ else _)
  by_cases e : i = d
  · rw [if_pos e]
    subst e
    have h1 := r i hi
    rw [hd] at h1
    refine (Fz.os k es.length sz es es (by simp [IHeap.del]) hk rfl rfl (fun j e e' h1 h2 => by rw [h1] at h2; cases h2; rfl) fun j e e' h1 h2 q c c' h3 h4 => ?_).sound s he.sub h1
    rw [h1] at h2
    cases h2
    rw [h3] at h4
    cases h4
    refine .wk _ _ (fun _ _ _ h => h) ?_
    have hnb := (s.obj k _ hk).nb
    rw [s.nx] at hnb
    exact hnb e (List.mem_of_getElem? h1) c (List.mem_of_getElem? h3)
  · rw [if_neg e]
    have h1 := r i hi
    refine h1.to (he.sub.sh s) ?_
    have := h1.nb
    rwa [s.nx] at this

def UpI (I : Tm → IHeap → Prop) (tm : Tm) (H : IHeap) : Prop := ∃ tm1 H1, Gh tm H tm1 H1 ∧ I tm1 H1
def Up (I : Tm → IHeap → Prop) (μ : Tm → IHeap → Nat) (m : Nat) (tm : Tm) (H : IHeap) : Prop := ∃ tm1 H1, Gh tm H tm1 H1 ∧ I tm1 H1 ∧ μ tm1 H1 < m
theorem UpI.same {I : Tm → IHeap → Prop} {tm : Tm} {H : IHeap} (h : I tm H) : UpI I tm H := ⟨tm, H, .refl _ _, h⟩
theorem Up.same {I : Tm → IHeap → Prop} {μ : Tm → IHeap → Nat} {m : Nat} {tm : Tm} {H : IHeap} (h : I tm H) (hm : μ tm H < m) : Up I μ m tm H := ⟨tm, H, .refl _ _, h, hm⟩
theorem Up.gh {I : Tm → IHeap → Prop} {μ : Tm → IHeap → Nat} {m : Nat} {tm tm' : Tm} {H H' : IHeap} (hg : Gh tm H tm' H') (h : Up I μ m tm' H') : Up I μ m tm H := by
  obtain ⟨tm1, H1, h1, h2⟩ := h
  exact ⟨tm1, H1, hg.trans h1, h2⟩
theorem UpI.gh {I : Tm → IHeap → Prop} {tm tm' : Tm} {H H' : IHeap} (hg : Gh tm H tm' H') (h : UpI I tm' H') : UpI I tm H := by
  obtain ⟨tm1, H1, h1, h2⟩ := h
  exact ⟨tm1, H1, hg.trans h1, h2⟩

/-- A loop: an invariant, a measure that falls; what is known may be told another way at each turn. -/
theorem IWp_loop' {c : Code} {Q : Exit → Tm → IHeap → Prop} (I : Tm → IHeap → Prop) (μ : Tm → IHeap → Nat) (h0 : UpI I tm H)
    (round : ∀ tm H, I tm H → IWp P N c (thenQ (Up I μ (μ tm H)) Q) tm H) : IWp P N (.loop c) Q tm H := by
  obtain ⟨tm1, H1, hg, hI⟩ := h0
  refine IWp.gh hg ?_
  refine ⟨fun rr B w0 g0 a0 s0 r0 hN0 hB0 hm0 => ?_⟩
  intro b k cs hro hb hr
  have key : ∀ j tm H, μ tm H = j → I tm H → ∀ (w : World) (g : Gs) (a : Act), Mono w0 g0 w g → Sim w g H → RA w g a tm → a.tmps.size = N → Marks rr B w g a.defers →
      ∃ e a' w', Post rr B N Q w0 g0 e a' w' ∧ ArrivesIn (Machine.fenced P (FR rr)) P (lone (b.atR a (.code c :: .inLoop c :: k)) cs w) b k cs e a' w' := by
    intro j
    induction j using Nat.strongRecOn with
    | _ j ih =>
      intro tm H hn hI w g a m s r hN hm
      obtain ⟨e, a₁, w₁, ⟨tm1, g1, H1, m1, s1, r1, n1, k1, ne, q⟩, harr⟩ := (round tm H hI).run rr B w g a s r hN (Nat.le_trans hB0 m.size) hm b (.inLoop c :: k) cs hro hb hr
      have mm := m.tr m1 s0 s
      cases e with
      | normal =>
        obtain ⟨tm2, H2, hg, hI1, hlt⟩ := q
        obtain ⟨g2, m2, s2, r2⟩ := hg w₁ g1 s1
        obtain ⟨e₂, a₂, w₂, hq₂, harr₂⟩ := ih (μ tm2 H2) (hn ▸ hlt) tm2 H2 rfl hI1 w₁ g2 a₁ (mm.tr m2 s0 s1) s2 (r2 _ r1) n1 (k1.mono m2)
        exact ⟨e₂, a₂, w₂, hq₂, .of_steps (StepsIn.trans harr (.one (fenced_calm hb hr rfl) stepR_inLoop)) harr₂⟩
      | exit id => exact ⟨_, a₁, w₁, ⟨tm1, g1, H1, mm, s1, r1, n1, k1, ne, q⟩, .pass (x := .inLoop c) rfl (fun _ _ => .inl (by simp)) harr⟩
      | goto l => exact ⟨_, a₁, w₁, ⟨tm1, g1, H1, mm, s1, r1, n1, k1, ne, q⟩, .pass (x := .inLoop c) rfl (fun _ _ => .inl (by simp)) harr⟩
      | ret => exact ⟨_, a₁, w₁, ⟨tm1, g1, H1, mm, s1, r1, n1, k1, ne, q⟩, .pass (x := .inLoop c) rfl (fun _ _ => .inl (by simp)) harr⟩
      | panic ch => exact ⟨_, a₁, w₁, ⟨tm1, g1, H1, mm, s1, r1, n1, k1, ne, q⟩, .pass (x := .inLoop c) rfl (fun _ _ => .inl (by simp)) harr⟩
      | outgrown => exact absurd rfl ne
  obtain ⟨e, a', w', hq, harr⟩ := key _ tm1 H1 rfl hI w0 g0 a0 (.refl _ _) s0 r0 hN0 hm0
  exact ⟨e, a', w', hq, .of_steps (.one (fenced_calm hb hr rfl) stepR_loop) harr⟩
end Go.Idl

namespace Go.Idl
open Go Go.RowKit

variable {P : Program} {N : Nat} {tm : Tm} {H : IHeap}

/-! ### One operation -/
def liftP (x : Option (Prop × IV)) (H : IHeap) : Option (Prop × IV × IHeap) :=
  match x with
  | some (s, r) => some (s, r, H)
  | none => none

def bindE (x : Option (Prop × IV × IHeap)) (K : IV → IHeap → Prop) (alt : Prop) : Prop :=
  match x with
  | some (s, r, H) => s ∧ K r H
  | none => alt

def callE (x : Option (FuncId × List IV)) (A : FuncId → List IV → Prop) (alt : Prop) : Prop :=
  match x with
  | some (f, cap) => A f cap
  | none => alt

/-- A load: out of frozen cells, or through a name. -/
def ldX (P : Program) (H : IHeap) (t : TypeId) (x : IV) : Option (Prop × IV) :=
  match x with
  | .p k off => ldN P H t (.p k off)
  | .pr k n off => ldN P H t (.pr k n off)
  | y => ldP P t y

def stX (P : Program) (H : IHeap) (t : TypeId) (x y : IV) : Option (Prop × IV × IHeap) :=
  match x with
  | .p k off =>
    match H.obj k, cellsI y with
    | some (.cells cs), some vc => some (Side (vc.length = P.cellsOf t) ∧ Side (0 < P.cellsOf t) ∧ Side (off + vc.length ≤ cs.length), .v undef, H.set k (.cells (putL cs vc off)))
    | some (.ty T (.cells cs)), some vc => some (Side (vc.length = P.cellsOf t) ∧ Side (0 < P.cellsOf t) ∧ Side (off + vc.length ≤ cs.length), .v undef, H.set k (.ty T (.cells (putL cs vc off))))
    | _, _ => none
  | _ => none

def ixX (P : Program) (H : IHeap) (t : TypeId) (x i : IV) : Option (Prop × IV) :=
  match x with
  | .os k n =>
    match P.underlying t, H.obj k, i with
    | some (.slice e), some (.row _ es), .v (.int _ m) => some (Side (es.length = n) ∧ Side (0 < P.cellsOf e) ∧ Side (0 ≤ m) ∧ Side (m < n), .pr k n (m.toNat * P.cellsOf e))
    | _, _, _ => none
  | y => ixP P (P.underlying t) y i

def alX (P : Program) (H : IHeap) (t : TypeId) : Option (Prop × IV × IHeap) :=
  match zeroOf P t with
  | some z => if z.cells.toList.all (·.oneCell') = true then some (True, .p H.next 0, H.new (tyB P t (.cells (z.cells.toList.map .v)))) else none
  | none => none

def bxX (H : IHeap) (x : IV) : Option (Prop × IV × IHeap) :=
  match cellsI x with
  | some cs => some (True, .p H.next 0, H.new (.cells cs))
  | none => none

/-- A slice written out, frozen. -/
def bzI (n : Nat) (x : Option (Nat × List IV)) : Option (Prop × IV) :=
  match x with
  | some (sz, rs) => some (True, .sl sz (chunks sz n rs))
  | none => none

/-- What an operation does to the named memory, and what it comes to. -/
def efX (P : Program) (H : IHeap) (tm : Tm) (op : Op) : Option (Prop × IV × IHeap) :=
  match op with
  | .alloc t => alX P H t
  | .box _ x => bxX H (ev tm x)
  | .load t x => liftP (ldX P H t (ev tm x)) H
  | .store t x y => stX P H t (ev tm x) (ev tm y)
  | .indexAddr t x i => liftP (ixX P H t (ev tm x) (ev tm i)) H
  | .buildSlice t (n + 1) ps => liftP (bzI (n + 1) (bsI P t (n + 1) (ps.toList.map fun q => (q.1, ev tm q.2)))) H
  | op => liftP (evP P tm op) H

theorem IOper_load2 {o : Oper} {K : IV → IHeap → Prop} {Qp : List PanicEntry → IHeap → Prop} {t : TypeId} {x : Operand} {s : Prop} {r : IV} (ho : o.op = .load t x) (hok : okO N o = true)
    (h : ldX P H t (ev tm x) = some (s, r)) (hs : s) (hk : K r H) : IOper P N o tm H K Qp := by
  have alt : ldP P t (ev tm x) = some (s, r) → IOper P N o tm H K Qp := fun h => IOper_evP hok (by rw [ho]; exact h) hs hk
  cases hx : ev tm x <;> rw [hx] at h alt
  case p k off => exact IOper_load ho hok (by rw [hx]; exact h) hs hk
  case pr k n off => exact IOper_load ho hok (by rw [hx]; exact h) hs hk
  all_goals exact alt h

theorem efX_sound {o : Oper} {K : IV → IHeap → Prop} {Qp : List PanicEntry → IHeap → Prop} {s : Prop} {r : IV} {H' : IHeap} (hok : okO N o = true) (h : efX P H tm o.op = some (s, r, H')) (hs : s) (hk : K r H') : IOper P N o tm H K Qp := by
  have pure' : liftP (evP P tm o.op) H = some (s, r, H') → IOper P N o tm H K Qp := by
    intro h
    unfold liftP at h
    split at h
    · rename_i s' r' he
      simp only [Option.some.injEq, Prod.mk.injEq] at h
      obtain ⟨rfl, rfl, rfl⟩ := h
      exact IOper_evP hok he hs hk
    · cases h
  cases ho : o.op <;> rw [ho] at h pure'
  case alloc t =>
    simp only [efX, alX] at h
    split at h
    · rename_i z hz
      split at h
      · rename_i hone
        simp only [Option.some.injEq, Prod.mk.injEq] at h
        obtain ⟨_, rfl, rfl⟩ := h
        exact IOper_alloc ho hz hone hk
      · cases h
    · cases h
  case box t x =>
    simp only [efX, bxX] at h
    split at h
    · rename_i cs hc
      simp only [Option.some.injEq, Prod.mk.injEq] at h
      obtain ⟨_, rfl, rfl⟩ := h
      exact IOper_box ho hok hc hk
    · cases h
  case load t x =>
    simp only [efX, liftP] at h
    split at h
    · rename_i s' r' hl
      simp only [Option.some.injEq, Prod.mk.injEq] at h
      obtain ⟨rfl, rfl, rfl⟩ := h
      exact IOper_load2 ho hok hl hs hk
    · cases h
  case store t x y =>
    simp only [efX, stX] at h
    split at h
    · rename_i k off hx
      split at h
      · rename_i cs vc hk' hv
        simp only [Option.some.injEq, Prod.mk.injEq] at h
        obtain ⟨rfl, rfl, rfl⟩ := h
        exact IOper_store ho hok hx hk' hv hs.1 hs.2.1 hs.2.2 hk
      · rename_i T cs vc hk' hv
        simp only [Option.some.injEq, Prod.mk.injEq] at h
        obtain ⟨rfl, rfl, rfl⟩ := h
        exact IOper_storeT ho hok hx hk' hv hs.1 hs.2.1 hs.2.2 hk
      · cases h
    · cases h
  case indexAddr t x i =>
    simp only [efX, liftP] at h
    split at h
    · rename_i s' r' hl
      simp only [Option.some.injEq, Prod.mk.injEq] at h
      obtain ⟨rfl, rfl, rfl⟩ := h
      unfold ixX at hl
      split at hl
      · rename_i k n hx
        split at hl
        · rename_i e sz es kk m hu hk' hi
          simp only [Option.some.injEq, Prod.mk.injEq] at hl
          obtain ⟨rfl, rfl⟩ := hl
          exact IOper_ixos ho hok hu hx hi hk' hs.1 hs.2.1 hs.2.2.1 hs.2.2.2 hk
        · cases hl
      · exact IOper_evP hok (by rw [ho]; exact hl) hs hk
    · cases h
  case buildSlice t n ps =>
    cases n with
    | zero => exact pure' h
    | succ n =>
      simp only [efX, liftP] at h
      split at h
      · rename_i s' r' hl
        simp only [Option.some.injEq, Prod.mk.injEq] at h
        obtain ⟨rfl, rfl, rfl⟩ := h
        unfold bzI at hl
        split at hl
        · rename_i sz rs hb
          simp only [Option.some.injEq, Prod.mk.injEq] at hl
          obtain ⟨_, rfl⟩ := hl
          exact IOper_buildSlice ho hok hb hk
        · cases hl
      · cases h
  all_goals exact pure' h

def splitB (x : IV) (K : Bool → Prop) : Prop :=
  match x with
  | .v (.bool c) => (c = true → K true) ∧ (c = false → K false)
  | _ => False

/-- A guard's value: a truth value, or none (then what it guards is not carried out). -/
def splitG (x : IV) (K : Bool → Prop) (sk : Tm → Prop) (tm : Tm) : Prop :=
  match x with
  | .v (.bool c) => (c = true → K true) ∧ (c = false → K false)
  | .v _ => sk tm
  | _ => False

def pickB (c b : Bool) (x y : Prop) : Prop := if c = b then x else y

def vcOp (P : Program) (N : Nat) (o : Oper) (tm : Tm) (H : IHeap) (K : IV → IHeap → Prop) (Qp : List PanicEntry → IHeap → Prop) : Prop :=
  match o.op with
  | .call { callee := .value x, args, .. } => callE (fnP (ev tm x)) (fun f cap => ICalls P f (args.toList.map (ev tm) ++ cap) H (callQ K Qp)) (IOper P N o tm H K Qp)
  | .call { callee := .builtin .append, args, argTypes, .. } =>
    match args.toList, argTypes.toList with
    | [x, y], [t, t'] => bindE (apI P H t t' (ev tm x) (ev tm y)) K (IOper P N o tm H K Qp)
    | _, _ => IOper P N o tm H K Qp
  | .pick c a b => splitB (ev tm c) fun q => pickB q true (K (ev tm a) H) (K (ev tm b) H)
  | op => bindE (efX P H tm op) K (IOper P N o tm H K Qp)

theorem vcOp_sound {o : Oper} {K : IV → IHeap → Prop} {Qp : List PanicEntry → IHeap → Prop} (hok : okO N o = true) (h : vcOp P N o tm H K Qp) : IOper P N o tm H K Qp := by
  unfold vcOp at h
  split at h
  · rename_i x args ats ho
    unfold callE at h
    split at h
    · rename_i f cap hf
      exact IOper_call ho hok hf h
    · exact h
  · rename_i args ats ho
    split at h
    · rename_i x y t t' h1 h2
      unfold bindE at h
      split at h
      · rename_i s r H' he
        have e1 : args = #[x, y] := Array.toList_inj.1 h1
        have e2 : ats = #[t, t'] := Array.toList_inj.1 h2
        subst e1
        subst e2
        exact IOper_append ho hok he h.1 h.2
      · exact h
    · exact h
  · rename_i c a b ho
    unfold splitB at h
    split at h
    · rename_i q hq
      cases q with
      | true =>
        have h2 := h.1 rfl
        refine IOper_evP hok (i := ev tm a) (s := True) ?_ trivial (by simpa [pickB] using h2)
        rw [ho]
        simp [evP, hq]
      | false =>
        have h2 := h.2 rfl
        refine IOper_evP hok (i := ev tm b) (s := True) ?_ trivial (by simpa [pickB] using h2)
        rw [ho]
        simp [evP, hq]
    · exact h.elim
  · unfold bindE at h
    split at h
    · rename_i s r H' he
      exact efX_sound hok he h.1 h.2
    · exact h

/-! ### Operations in a row -/
def vcG (full : Array Oper) (o : Oper) (tm : Tm) (run skip : Tm → Prop) : Prop :=
  match o.guard with
  | none => run tm
  | some (j, b) =>
    match (full[j]?).bind (·.dst) with
    | some d => splitG (tm d) (fun c => pickB c b (run (upd tm d (.v (.bool c)))) (skip (upd tm d (.v (.bool c))))) skip tm
    | none => False

def vcOps (P : Program) (N : Nat) (full : Array Oper) : List Oper → (Exit → Tm → IHeap → Prop) → Tm → IHeap → Prop
  | [], Q, tm, H => Q .normal tm H
  | o :: l, Q, tm, H => vcG full o tm
      (fun tm => vcOp P N o tm H (fun x H' => vcOps P N full l Q (updO tm o.dst x) H') (fun ch H' => Q (.panic ch) tm H'))
      (fun tm => vcOps P N full l Q (updO tm o.dst (.v undef)) H)

theorem upd_self {d : Nat} {x : IV} (h : tm d = x) : upd tm d x = tm := by
  funext i
  unfold upd
  split
  · rename_i e; rw [e, h]
  · rfl

theorem vcOps_sound {full : Array Oper} (hok : full.toList.all (okO N) = true) {Q : Exit → Tm → IHeap → Prop} : ∀ (l : List Oper) (i : Nat) (tm : Tm) (H : IHeap), (∀ (j : Nat) (o : Oper), l[j]? = some o → full[i + j]? = some o) →
    vcOps P N full l Q tm H → IOps P N full (List.range' i l.length) Q tm H
  | [], i, tm, H, _, h => IOps_nil h
  | o :: l, i, tm, H, hl, h => by
    have ho : full[i]? = some o := hl 0 o rfl
    have hl' : ∀ (j : Nat) (o : Oper), l[j]? = some o → full[i + 1 + j]? = some o := fun j o' h => by
      have := hl (j + 1) o' (by simpa using h)
      rwa [show i + (j + 1) = i + 1 + j by omega] at this
    have hall := List.all_eq_true.1 hok
    have hoo : okO N o = true := hall o (by rw [Array.mem_toList_iff]; exact Array.mem_of_getElem? ho)
    have run : (∀ (w : World) (g : Gs) (a : Act), RA w g a tm → a.tmps.size = N → Region.wanted o (yielded full a.tmps) = true) →
        vcOp P N o tm H (fun x H' => vcOps P N full l Q (updO tm o.dst x) H') (fun ch H' => Q (.panic ch) tm H') → IOps P N full (i :: List.range' (i + 1) l.length) Q tm H := fun hg h =>
      IOps_run ho hg ((vcOp_sound hoo h).mono (fun x H' h => vcOps_sound hok l (i + 1) _ _ hl' h) fun _ _ h => h)
    have skip : (∀ (w : World) (g : Gs) (a : Act), RA w g a tm → a.tmps.size = N → Region.wanted o (yielded full a.tmps) = false) →
        vcOps P N full l Q (updO tm o.dst (.v undef)) H → IOps P N full (i :: List.range' (i + 1) l.length) Q tm H := fun hg h =>
      IOps_skip ho hg (vcOps_sound hok l (i + 1) _ _ hl' h)
    show IOps P N full (i :: List.range' (i + 1) l.length) Q tm H
    unfold vcOps vcG at h
    split at h
    · rename_i hgd
      exact run (fun w g a r hN => by simp [Region.wanted, hgd]) h
    · rename_i j b hgd
      split at h
      · rename_i d hd
        have hdN : d < N := by
          rw [Option.bind_eq_some_iff] at hd
          obtain ⟨o', h1, h2⟩ := hd
          have := hall o' (by rw [Array.mem_toList_iff]; exact Array.mem_of_getElem? h1)
          simp only [okO, h2, Bool.and_eq_true, decide_eq_true_eq] at this
          exact this.2
        unfold splitG at h
        split at h
        · rename_i c hc
          have hy : ∀ (w : World) (g : Gs) (a : Act), RA w g a tm → a.tmps.size = N → yielded full a.tmps j = some c := by
            intro w g a r hN
            have h1 := r d (by rw [hN]; exact hdN)
            rw [hc] at h1
            have h2 := h1.v_eq
            have h3 : a.tmps[d]? = some (.bool c) := by
              have hlt : d < a.tmps.size := by rw [hN]; exact hdN
              rw [Array.getElem?_eq_getElem hlt]
              simpa [hlt] using h2
            simp [yielded, hd, h3]
          have hw : ∀ (w : World) (g : Gs) (a : Act), RA w g a tm → a.tmps.size = N → Region.wanted o (yielded full a.tmps) = (c == b) := by
            intro w g a r hN
            simp [Region.wanted, hgd, hy w g a r hN]
          have key : pickB c b (vcOp P N o tm H (fun x H' => vcOps P N full l Q (updO tm o.dst x) H') (fun ch H' => Q (.panic ch) tm H')) (vcOps P N full l Q (updO tm o.dst (.v undef)) H) := by
            cases c with
            | true =>
              have := h.1 rfl
              dsimp only at this
              rwa [upd_self hc] at this
            | false =>
              have := h.2 rfl
              dsimp only at this
              rwa [upd_self hc] at this
          unfold pickB at key
          split at key
          · rename_i e
            exact run (fun w g a r hN => by rw [hw w g a r hN]; simp [e]) key
          · rename_i e
            exact skip (fun w g a r hN => by rw [hw w g a r hN]; simp [e]) key
        · rename_i y hne hc
          refine skip (fun w g a r hN => ?_) h
          have h1 := r d (by rw [hN]; exact hdN)
          rw [hc] at h1
          have h2 := h1.v_eq
          have hlt : d < a.tmps.size := by rw [hN]; exact hdN
          have h3 : a.tmps[d]? = some y := by
            rw [Array.getElem?_eq_getElem hlt]
            simpa [hlt] using h2
          have h4 : yielded full a.tmps j = none := by
            simp only [yielded, hd, Option.bind_some, h3]
            split
            · rename_i c e
              cases e
              exact (hne c rfl).elim
            · rfl
          simp [Region.wanted, hgd, h4]
        · exact h.elim
      · exact h.elim

/-! ### Code -/
def condE (x : IV) (a b : Prop) : Prop :=
  match x with
  | .v (.bool c) => (c = true → a) ∧ (c = false → b)
  | _ => False

def vcLoop (P : Program) (N : Nat) (c : Code) (Q : Exit → Tm → IHeap → Prop) (tm : Tm) (H : IHeap) : Prop :=
  ∃ (I : Tm → IHeap → Prop) (μ : Tm → IHeap → Nat), UpI I tm H ∧ ∀ tm H, I tm H → IWp P N c (thenQ (Up I μ (μ tm H)) Q) tm H

def vc (P : Program) (N : Nat) : Code → (Exit → Tm → IHeap → Prop) → Tm → IHeap → Prop
  | .skip, Q, tm, H => Q .normal tm H
  | .label _, Q, tm, H => Q .normal tm H
  | .exit id, Q, tm, H => Q (.exit id) tm H
  | .goto l, Q, tm, H => Q (.goto l) tm H
  | .ret, Q, tm, H => Q .ret tm H
  | .seq a b, Q, tm, H => vc P N a (thenQ (vc P N b Q) Q) tm H
  | .region id ops draw, Q, tm, H => match draw with | true => IWp P N (.region id ops true) Q tm H | false => vcOps P N ops ops.toList Q tm H
  | .cond c x y, Q, tm, H => condE (ev tm c) (vc P N x Q tm H) (vc P N y Q tm H)
  | .block id c, Q, tm, H => vc P N c (blockQ id Q) tm H
  | .loop c, Q, tm, H => vcLoop P N c Q tm H
  | c, Q, tm, H => IWp P N c Q tm H

/-- All slots that the code names are there. -/
def fitC (N : Nat) : Code → Bool
  | .seq a b => fitC N a && fitC N b
  | .region _ ops draw => match draw with | true => true | false => ops.toList.all (okO N)
  | .cond c x y => opd N c && fitC N x && fitC N y
  | .block _ c => fitC N c
  | .loop c => fitC N c
  | _ => true

theorem vc_sound : ∀ (c : Code), fitC N c = true → ∀ (Q : Exit → Tm → IHeap → Prop) (tm : Tm) (H : IHeap), vc P N c Q tm H → IWp P N c Q tm H
  | .skip, _, Q, tm, H, h => IWp_skip h
  | .label _, _, Q, tm, H, h => IWp_label h
  | .exit _, _, Q, tm, H, h => IWp_exit h
  | .goto _, _, Q, tm, H, h => IWp_goto h
  | .ret, _, Q, tm, H, h => IWp_ret h
  | .seq a b, hf, Q, tm, H, h => by
    simp only [fitC, Bool.and_eq_true] at hf
    refine IWp_seq ((vc_sound a hf.1 _ tm H h).mono fun e tm' H' q => ?_)
    cases e with
    | normal => exact vc_sound b hf.2 Q tm' H' q
    | _ => exact q
  | .region id ops true, _, Q, tm, H, h => h
  | .region id ops false, hf, Q, tm, H, h => by
    refine IWp_region ?_
    have := vcOps_sound (full := ops) hf ops.toList 0 tm H (fun j o ho => by simpa using ho) h
    rwa [List.range_eq_range', ← Array.length_toList]
  | .cond c x y, hf, Q, tm, H, h => by
    simp only [fitC, Bool.and_eq_true] at hf
    unfold vc condE at h
    split at h
    · rename_i b hb
      exact IWp_cond hb hf.1.1 (fun e => vc_sound x hf.1.2 Q tm H (h.1 e)) (fun e => vc_sound y hf.2 Q tm H (h.2 e))
    · exact h.elim
  | .block id c, hf, Q, tm, H, h => IWp_block (vc_sound c hf _ tm H h)
  | .loop c, hf, Q, tm, H, ⟨I, μ, h0, h1⟩ => IWp_loop' I μ h0 h1
  | .rangeFunc .., _, Q, tm, H, h => h
  | .scope _, _, Q, tm, H, h => h
  | .refuse _, _, Q, tm, H, h => h

/-- **A call's triple, out of the verification condition.** -/
theorem ICalls_of_vc {f : FuncId} {fn : Func} {c : Code} {args : List IV} {Q : IEnd → IHeap → Prop} (hf : P.funcs[f]? = some fn) (hbd : hasBody P f = true) (hb : fn.body = some c) (hN : fn.ntmps = N)
    (hn : (args.length ≤ N ∧ fn.results.toList.all (rvN N) = true ∧ fitC N c = true))
    (h : H.Wf → vc P N c (retQ P fn.results.toList H Q) (tm0 args) H) : ICalls P f args H Q := by
  subst hN
  exact ICalls_of_IWp hbd hf hb hn.1 hn.2.1 fun hw => vc_sound c hn.2.2 _ _ _ (h hw)
end Go.Idl

namespace Go.Idl
open Go Go.RowKit

variable {P : Program} {N : Nat} {tm : Tm} {H : IHeap}

/-! ### How it goes on: no term of these is told before it is asked -/
def condK (x : IV) (a b : Tm → IHeap → Prop) (tm : Tm) (H : IHeap) : Prop := condE x (a tm H) (b tm H)
def kNext (P : Program) (N : Nat) (full : Array Oper) (l : List Oper) (Q : Exit → Tm → IHeap → Prop) (d : Option Tmp) (tm : Tm) : IV → IHeap → Prop := fun x H' => vcOps P N full l Q (updO tm d x) H'
def kPan (Q : Exit → Tm → IHeap → Prop) (tm : Tm) : List PanicEntry → IHeap → Prop := fun ch H' => Q (.panic ch) tm H'
def kRun (P : Program) (N : Nat) (full : Array Oper) (o : Oper) (l : List Oper) (Q : Exit → Tm → IHeap → Prop) (H : IHeap) : Tm → Prop := fun tm => vcOp P N o tm H (kNext P N full l Q o.dst tm) (kPan Q tm)
def kSkip (P : Program) (N : Nat) (full : Array Oper) (d : Option Tmp) (l : List Oper) (Q : Exit → Tm → IHeap → Prop) (H : IHeap) : Tm → Prop := fun tm => vcOps P N full l Q (updO tm d (.v undef)) H
def kGuard (b : Bool) (d : Tmp) (tm : Tm) (run skip : Tm → Prop) : Bool → Prop := fun c => pickB c b (run (upd tm d (.v (.bool c)))) (skip (upd tm d (.v (.bool c))))
def kPick (K : IV → IHeap → Prop) (x y : IV) (H : IHeap) : Bool → Prop := fun q => pickB q true (K x H) (K y H)
def kCall (P : Program) (args : List IV) (H : IHeap) (K : IV → IHeap → Prop) (Qp : List PanicEntry → IHeap → Prop) : FuncId → List IV → Prop := fun f cap => ICalls P f (args ++ cap) H (callQ K Qp)

/-! ### Code -/
section
variable {Q : Exit → Tm → IHeap → Prop}
@[go_sem] theorem vc_skip : vc P N .skip Q tm H = Q .normal tm H := rfl
@[go_sem] theorem vc_label {l : Nat} : vc P N (.label l) Q tm H = Q .normal tm H := rfl
@[go_sem] theorem vc_exit {l : Nat} : vc P N (.exit l) Q tm H = Q (.exit l) tm H := rfl
@[go_sem] theorem vc_goto {l : Nat} : vc P N (.goto l) Q tm H = Q (.goto l) tm H := rfl
@[go_sem] theorem vc_ret : vc P N .ret Q tm H = Q .ret tm H := rfl
@[go_sem] theorem vc_seq {a b : Code} : vc P N (.seq a b) Q tm H = vc P N a (thenQ (vc P N b Q) Q) tm H := rfl
@[go_sem] theorem vc_region {id : Nat} {l : List Oper} : vc P N (.region id ⟨l⟩ false) Q tm H = vcOps P N ⟨l⟩ l Q tm H := rfl
@[go_sem] theorem vc_draw {id : Nat} {l : Array Oper} : vc P N (.region id l true) Q tm H = IWp P N (.region id l true) Q tm H := rfl
@[go_sem] theorem vc_cond {c : Operand} {x y : Code} : vc P N (.cond c x y) Q tm H = condK (ev tm c) (vc P N x Q) (vc P N y Q) tm H := rfl
@[go_sem] theorem vc_block {id : Nat} {c : Code} : vc P N (.block id c) Q tm H = vc P N c (blockQ id Q) tm H := rfl
@[go_sem] theorem vc_loop {c : Code} : vc P N (.loop c) Q tm H = vcLoop P N c Q tm H := rfl
@[go_sem] theorem vc_rangeFunc {f : Operand} {ps : Array Tmp} {a b : Code} : vc P N (.rangeFunc f ps a b) Q tm H = IWp P N (.rangeFunc f ps a b) Q tm H := rfl
@[go_sem] theorem vc_scope {c : Code} : vc P N (.scope c) Q tm H = IWp P N (.scope c) Q tm H := rfl
variable {K : Tm → IHeap → Prop}
@[go_sem] theorem thenQ_normal : thenQ K Q .normal tm H = K tm H := rfl
@[go_sem] theorem thenQ_exit {l : Nat} : thenQ K Q (.exit l) tm H = Q (.exit l) tm H := rfl
@[go_sem] theorem thenQ_goto {l : Nat} : thenQ K Q (.goto l) tm H = Q (.goto l) tm H := rfl
@[go_sem] theorem thenQ_ret : thenQ K Q .ret tm H = Q .ret tm H := rfl
@[go_sem] theorem thenQ_panic {c : List PanicEntry} : thenQ K Q (.panic c) tm H = Q (.panic c) tm H := rfl
@[go_sem] theorem blockQ_normal {id : Nat} : blockQ id Q .normal tm H = Q .normal tm H := rfl
@[go_sem] theorem blockQ_exit {id : Nat} : blockQ id Q (.exit id) tm H = Q .normal tm H := by simp [blockQ]
@[go_sem] theorem blockQ_exit_ne {id l : Nat} (h : (l == id) = false) : blockQ id Q (.exit l) tm H = Q (.exit l) tm H := by
  have h : l ≠ id := by simpa using h
  show (if l = id then _ else _) = _
  rw [if_neg h]
@[go_sem] theorem blockQ_goto {id l : Nat} : blockQ id Q (.goto l) tm H = Q (.goto l) tm H := rfl
@[go_sem] theorem blockQ_ret {id : Nat} : blockQ id Q .ret tm H = Q .ret tm H := rfl
@[go_sem] theorem blockQ_panic {id : Nat} {c : List PanicEntry} : blockQ id Q (.panic c) tm H = Q (.panic c) tm H := rfl

/-! ### Operations -/
@[go_sem] theorem vcOps_nil {full : Array Oper} : vcOps P N full [] Q tm H = Q .normal tm H := rfl
@[go_sem] theorem vcOps_cons {full : Array Oper} {d : Option Tmp} {op : Op} {t : TypeId} {p : String} {af : Array Edge} {l : List Oper} :
    vcOps P N full (⟨d, op, t, p, af, none⟩ :: l) Q tm H = vcOp P N ⟨d, op, t, p, af, none⟩ tm H (kNext P N full l Q d tm) (kPan Q tm) := rfl
@[go_sem] theorem kNext_app {full : Array Oper} {l : List Oper} {d : Option Tmp} {x : IV} : kNext P N full l Q d tm x H = vcOps P N full l Q (updO tm d x) H := rfl
@[go_sem] theorem kPan_app {c : List PanicEntry} : kPan Q tm c H = Q (.panic c) tm H := rfl
def dstOf (l : List Oper) (j : Nat) : Option Tmp := (l[j]?).bind (·.dst)
def vcH (d : Option Tmp) (b : Bool) (tm : Tm) (run skip : Tm → Prop) : Prop :=
  match d with
  | some d => splitG (tm d) (kGuard b d tm run skip) skip tm
  | none => False
@[go_sem] theorem vcOps_guard {full : List Oper} {d : Option Tmp} {op : Op} {t : TypeId} {p : String} {af : Array Edge} {j : Nat} {b : Bool} {l : List Oper} :
    vcOps P N ⟨full⟩ (⟨d, op, t, p, af, some (j, b)⟩ :: l) Q tm H = vcH (dstOf full j) b tm (kRun P N ⟨full⟩ ⟨d, op, t, p, af, some (j, b)⟩ l Q H) (kSkip P N ⟨full⟩ d l Q H) := by
  show vcG ⟨full⟩ ⟨d, op, t, p, af, some (j, b)⟩ tm (kRun P N ⟨full⟩ ⟨d, op, t, p, af, some (j, b)⟩ l Q H) (kSkip P N ⟨full⟩ d l Q H) = vcH ((full[j]?).bind (·.dst)) b tm _ _
  unfold vcG vcH
  simp only [List.getElem?_toArray]
  cases (full[j]?).bind (·.dst) <;> rfl
@[go_sem] theorem kRun_app {full : Array Oper} {o : Oper} {l : List Oper} : kRun P N full o l Q H tm = vcOp P N o tm H (kNext P N full l Q o.dst tm) (kPan Q tm) := rfl
@[go_sem] theorem kSkip_app {full : Array Oper} {d : Option Tmp} {l : List Oper} : kSkip P N full d l Q H tm = vcOps P N full l Q (updO tm d (.v undef)) H := rfl
end
@[go_sem] theorem dstOf_zero {o : Oper} {l : List Oper} : dstOf (o :: l) 0 = o.dst := rfl
@[go_sem] theorem dstOf_succ {o : Oper} {l : List Oper} {j : Nat} : dstOf (o :: l) (j + 1) = dstOf l j := rfl
@[go_sem] theorem vcH_some {d : Tmp} {b : Bool} {run skip : Tm → Prop} : vcH (some d) b tm run skip = splitG (tm d) (kGuard b d tm run skip) skip tm := rfl
@[go_sem] theorem kGuard_tt {d : Tmp} {run skip : Tm → Prop} : kGuard true d tm run skip true = run (upd tm d (.v (.bool true))) := by simp [kGuard, pickB]
@[go_sem] theorem kGuard_tf {d : Tmp} {run skip : Tm → Prop} : kGuard true d tm run skip false = skip (upd tm d (.v (.bool false))) := by simp [kGuard, pickB]
@[go_sem] theorem kGuard_ft {d : Tmp} {run skip : Tm → Prop} : kGuard false d tm run skip true = skip (upd tm d (.v (.bool true))) := by simp [kGuard, pickB]
@[go_sem] theorem kGuard_ff {d : Tmp} {run skip : Tm → Prop} : kGuard false d tm run skip false = run (upd tm d (.v (.bool false))) := by simp [kGuard, pickB]
@[go_sem] theorem kPick_true {K : IV → IHeap → Prop} {x y : IV} : kPick K x y H true = K x H := by simp [kPick, pickB]
@[go_sem] theorem kPick_false {K : IV → IHeap → Prop} {x y : IV} : kPick K x y H false = K y H := by simp [kPick, pickB]
@[go_sem] theorem kCall_app {args cap : List IV} {K : IV → IHeap → Prop} {Qp : List PanicEntry → IHeap → Prop} {f : FuncId} : kCall P args H K Qp f cap = ICalls P f (args ++ cap) H (callQ K Qp) := rfl
@[go_sem] theorem splitG_true {K : Bool → Prop} {sk : Tm → Prop} : splitG (.v (.bool true)) K sk tm = K true := by simp [splitG]
@[go_sem] theorem splitG_false {K : Bool → Prop} {sk : Tm → Prop} : splitG (.v (.bool false)) K sk tm = K false := by simp [splitG]
@[go_sem] theorem splitG_undef {K : Bool → Prop} {sk : Tm → Prop} : splitG (.v undef) K sk tm = sk tm := rfl
theorem splitG' {c : Bool} {K : Bool → Prop} {sk : Tm → Prop} (h1 : c = true → K true) (h2 : c = false → K false) : splitG (.v (.bool c)) K sk tm := ⟨h1, h2⟩
@[go_sem] theorem splitB_true {K : Bool → Prop} : splitB (.v (.bool true)) K = K true := by simp [splitB]
@[go_sem] theorem splitB_false {K : Bool → Prop} : splitB (.v (.bool false)) K = K false := by simp [splitB]
theorem splitB_bool {c : Bool} {K : Bool → Prop} : splitB (.v (.bool c)) K = ((c = true → K true) ∧ (c = false → K false)) := rfl
@[go_sem] theorem condK_true {a b : Tm → IHeap → Prop} : condK (.v (.bool true)) a b tm H = a tm H := by simp [condK, condE]
@[go_sem] theorem condK_false {a b : Tm → IHeap → Prop} : condK (.v (.bool false)) a b tm H = b tm H := by simp [condK, condE]
theorem condK_bool {c : Bool} {a b : Tm → IHeap → Prop} : condK (.v (.bool c)) a b tm H = ((c = true → a tm H) ∧ (c = false → b tm H)) := rfl
@[go_sem] theorem bindE_some {s : Prop} {r : IV} {K : IV → IHeap → Prop} {alt : Prop} : bindE (some (s, r, H)) K alt = (s ∧ K r H) := rfl
@[go_sem] theorem bindE_none {K : IV → IHeap → Prop} {alt : Prop} : bindE none K alt = alt := rfl
@[go_sem] theorem callE_some {f : FuncId} {cap : List IV} {A : FuncId → List IV → Prop} {alt : Prop} : callE (some (f, cap)) A alt = A f cap := rfl
@[go_sem] theorem callE_none {A : FuncId → List IV → Prop} {alt : Prop} : callE none A alt = alt := rfl
@[go_sem] theorem liftP_some {s : Prop} {r : IV} : liftP (some (s, r)) H = some (s, r, H) := rfl
@[go_sem] theorem liftP_none : liftP none H = none := rfl
@[go_sem] theorem callQ_ret {K : IV → IHeap → Prop} {Qp : List PanicEntry → IHeap → Prop} {r : IV} : callQ K Qp (.ret r) H = K r H := rfl
@[go_sem] theorem callQ_pan {K : IV → IHeap → Prop} {Qp : List PanicEntry → IHeap → Prop} {c : List PanicEntry} : callQ K Qp (.pan c) H = Qp c H := rfl
@[go_sem] theorem updO_some {d : Nat} {x : IV} : updO tm (some d) x = upd tm d x := rfl
@[go_sem] theorem updO_none {x : IV} : updO tm none x = tm := rfl
@[go_sem] theorem upd_app {d i : Nat} {x : IV} : upd tm d x i = if i = d then x else tm i := rfl
@[go_sem] theorem ev_tmp {t : Tmp} : ev tm (.tmp t) = tm t := rfl
@[go_sem] theorem ev_const {x : Value} : ev tm (.const x) = .v x := rfl
@[go_sem] theorem ev_func {f : FuncId} : ev tm (.func f) = .v (.func (.func f) #[] #[]) := rfl
@[go_sem] theorem ev_global {g : Nat} : ev tm (.global g) = .v (.pointer (some ⟨g, 0, none⟩)) := rfl

section
variable {d : Option Tmp} {t : TypeId} {p : String} {af : Array Edge} {gd : Option (Nat × Bool)} {K : IV → IHeap → Prop} {Qp : List PanicEntry → IHeap → Prop}
@[go_sem] theorem vcOp_call {x : Operand} {l : List Operand} {ats : Array TypeId} : vcOp P N ⟨d, .call ⟨.value x, ⟨l⟩, ats⟩, t, p, af, gd⟩ tm H K Qp =
    callE (fnP (ev tm x)) (kCall P (l.map (ev tm)) H K Qp) (IOper P N ⟨d, .call ⟨.value x, ⟨l⟩, ats⟩, t, p, af, gd⟩ tm H K Qp) := rfl
@[go_sem] theorem vcOp_append {x y : Operand} {a b : TypeId} : vcOp P N ⟨d, .call ⟨.builtin .append, #[x, y], #[a, b]⟩, t, p, af, gd⟩ tm H K Qp =
    bindE (apI P H a b (ev tm x) (ev tm y)) K (IOper P N ⟨d, .call ⟨.builtin .append, #[x, y], #[a, b]⟩, t, p, af, gd⟩ tm H K Qp) := rfl
@[go_sem] theorem vcOp_len {x : Operand} {a : TypeId} : vcOp P N ⟨d, .call ⟨.builtin .len, #[x], #[a]⟩, t, p, af, gd⟩ tm H K Qp =
    bindE (liftP (lenP (P.underlying a) (ev tm x)) H) K (IOper P N ⟨d, .call ⟨.builtin .len, #[x], #[a]⟩, t, p, af, gd⟩ tm H K Qp) := rfl
@[go_sem] theorem vcOp_move {x : Operand} : vcOp P N ⟨d, .move x, t, p, af, gd⟩ tm H K Qp = K (ev tm x) H := true_and _
@[go_sem] theorem vcOp_assign {x : Operand} : vcOp P N ⟨d, .assign x, t, p, af, gd⟩ tm H K Qp = K (ev tm x) H := true_and _
@[go_sem] theorem vcOp_alloc {a : TypeId} : vcOp P N ⟨d, .alloc a, t, p, af, gd⟩ tm H K Qp = bindE (alX P H a) K (IOper P N ⟨d, .alloc a, t, p, af, gd⟩ tm H K Qp) := rfl
@[go_sem] theorem vcOp_box {a : TypeId} {x : Operand} : vcOp P N ⟨d, .box a x, t, p, af, gd⟩ tm H K Qp = bindE (bxX H (ev tm x)) K (IOper P N ⟨d, .box a x, t, p, af, gd⟩ tm H K Qp) := rfl
@[go_sem] theorem vcOp_load {a : TypeId} {x : Operand} : vcOp P N ⟨d, .load a x, t, p, af, gd⟩ tm H K Qp = bindE (liftP (ldX P H a (ev tm x)) H) K (IOper P N ⟨d, .load a x, t, p, af, gd⟩ tm H K Qp) := rfl
@[go_sem] theorem vcOp_store {a : TypeId} {x y : Operand} : vcOp P N ⟨d, .store a x y, t, p, af, gd⟩ tm H K Qp = bindE (stX P H a (ev tm x) (ev tm y)) K (IOper P N ⟨d, .store a x y, t, p, af, gd⟩ tm H K Qp) := rfl
@[go_sem] theorem vcOp_indexAddr {a : TypeId} {x y : Operand} : vcOp P N ⟨d, .indexAddr a x y, t, p, af, gd⟩ tm H K Qp = bindE (liftP (ixX P H a (ev tm x) (ev tm y)) H) K (IOper P N ⟨d, .indexAddr a x y, t, p, af, gd⟩ tm H K Qp) := rfl
@[go_sem] theorem vcOp_pick {c a b : Operand} : vcOp P N ⟨d, .pick c a b, t, p, af, gd⟩ tm H K Qp = splitB (ev tm c) (kPick K (ev tm a) (ev tm b) H) := rfl
@[go_sem] theorem vcOp_build {a : TypeId} {l : List (Nat × Operand)} : vcOp P N ⟨d, .build a ⟨l⟩, t, p, af, gd⟩ tm H K Qp = bindE (liftP (bdP P a (l.map fun q => (q.1, ev tm q.2))) H) K (IOper P N ⟨d, .build a ⟨l⟩, t, p, af, gd⟩ tm H K Qp) := rfl
@[go_sem] theorem bzI_some {n sz : Nat} {rs : List IV} : bzI n (some (sz, rs)) = some (True, .sl sz (chunks sz n rs)) := rfl
@[go_sem] theorem vcOp_buildSlice {a : TypeId} {n : Nat} {l : List (Nat × Operand)} : vcOp P N ⟨d, .buildSlice a (n + 1) ⟨l⟩, t, p, af, gd⟩ tm H K Qp = bindE (liftP (bzI (n + 1) (bsI P a (n + 1) (l.map fun q => (q.1, ev tm q.2)))) H) K (IOper P N ⟨d, .buildSlice a (n + 1) ⟨l⟩, t, p, af, gd⟩ tm H K Qp) := rfl
@[go_sem] theorem vcOp_buildEmpty {a : TypeId} {l : List (Nat × Operand)} : vcOp P N ⟨d, .buildSlice a 0 ⟨l⟩, t, p, af, gd⟩ tm H K Qp = IOper P N ⟨d, .buildSlice a 0 ⟨l⟩, t, p, af, gd⟩ tm H K Qp := rfl
@[go_sem] theorem vcOp_nilCheck {x : Operand} : vcOp P N ⟨d, .nilCheck x, t, p, af, gd⟩ tm H K Qp = bindE (liftP (ncP (ev tm x)) H) K (IOper P N ⟨d, .nilCheck x, t, p, af, gd⟩ tm H K Qp) := rfl
@[go_sem] theorem vcOp_binOp {op : BinOp} {a b : TypeId} {x y : Operand} : vcOp P N ⟨d, .binOp op a x y b, t, p, af, gd⟩ tm H K Qp = bindE (liftP (bin2 P op a (ev tm x) (ev tm y)) H) K (IOper P N ⟨d, .binOp op a x y b, t, p, af, gd⟩ tm H K Qp) := rfl
@[go_sem] theorem vcOp_unOp {op : UnOp} {a : TypeId} {x : Operand} : vcOp P N ⟨d, .unOp op a x, t, p, af, gd⟩ tm H K Qp = bindE (liftP (unP op (ev tm x)) H) K (IOper P N ⟨d, .unOp op a x, t, p, af, gd⟩ tm H K Qp) := rfl
@[go_sem] theorem vcOp_convert {a b : TypeId} {x : Operand} : vcOp P N ⟨d, .convert a b x, t, p, af, gd⟩ tm H K Qp = bindE (liftP (cvP P a b (ev tm x)) H) K (IOper P N ⟨d, .convert a b x, t, p, af, gd⟩ tm H K Qp) := rfl
@[go_sem] theorem vcOp_makeInterface {a : TypeId} {x : Operand} : vcOp P N ⟨d, .makeInterface a x, t, p, af, gd⟩ tm H K Qp = bindE (liftP (mkP P a (ev tm x)) H) K (IOper P N ⟨d, .makeInterface a x, t, p, af, gd⟩ tm H K Qp) := rfl
@[go_sem] theorem vcOp_makeFunc {f : Fn} {x y : List Operand} : vcOp P N ⟨d, .makeFunc f ⟨x⟩ ⟨y⟩, t, p, af, gd⟩ tm H K Qp = K (.fn f (x.map (ev tm)) (y.map (ev tm))) H := true_and _
@[go_sem] theorem vcOp_slice {a : TypeId} {x : Operand} {lo hi mx : Option Operand} : vcOp P N ⟨d, .slice a x lo hi mx, t, p, af, gd⟩ tm H K Qp =
    bindE (liftP (slP P (P.underlying a) (ev tm x) (lo.map (ev tm)) (hi.map (ev tm)) (mx.map (ev tm))) H) K (IOper P N ⟨d, .slice a x lo hi mx, t, p, af, gd⟩ tm H K Qp) := rfl
@[go_sem] theorem vcOp_fieldAddr {a : TypeId} {x : Operand} {f : Nat} : vcOp P N ⟨d, .fieldAddr a x f, t, p, af, gd⟩ tm H K Qp = bindE (liftP (fdP P (P.underlying a) (ev tm x) f) H) K (IOper P N ⟨d, .fieldAddr a x f, t, p, af, gd⟩ tm H K Qp) := rfl
@[go_sem] theorem vcOp_field {a : TypeId} {x : Operand} {f : Nat} : vcOp P N ⟨d, .field a x f, t, p, af, gd⟩ tm H K Qp = bindE (liftP (fvP P (P.underlying a) (ev tm x) f) H) K (IOper P N ⟨d, .field a x f, t, p, af, gd⟩ tm H K Qp) := rfl
@[go_sem] theorem vcOp_index {a : TypeId} {x y : Operand} : vcOp P N ⟨d, .index a x y, t, p, af, gd⟩ tm H K Qp = bindE (liftP (ivP P (P.underlying a) (ev tm x) (ev tm y)) H) K (IOper P N ⟨d, .index a x y, t, p, af, gd⟩ tm H K Qp) := rfl
@[go_sem] theorem vcOp_extract {x : Operand} {n : Nat} : vcOp P N ⟨d, .extract x n, t, p, af, gd⟩ tm H K Qp = bindE (liftP (exP (ev tm x) n) H) K (IOper P N ⟨d, .extract x n, t, p, af, gd⟩ tm H K Qp) := rfl
end
@[go_sem] theorem tm0_nil {i : Nat} : tm0 [] i = .v undef := by simp [tm0]
@[go_sem] theorem tm0_zero {x : IV} {l : List IV} : tm0 (x :: l) 0 = x := rfl
@[go_sem] theorem tm0_succ {x : IV} {l : List IV} {i : Nat} : tm0 (x :: l) (i + 1) = tm0 l i := by simp [tm0]
section
@[go_sem] theorem cellsI_ag {cs : List IV} : cellsI (.ag cs) = some cs := rfl
@[go_sem] theorem cellsI_sl {sz : Nat} {es : List (List IV)} : cellsI (.sl sz es) = some [.sl sz es] := rfl
@[go_sem] theorem cellsI_cp {cs : List IV} : cellsI (.cp cs) = some [.cp cs] := rfl
@[go_sem] theorem cellsI_fn {f : Fn} {a b : List IV} : cellsI (.fn f a b) = some [.fn f a b] := rfl
@[go_sem] theorem cellsI_ifc {t : TypeId} {x : IV} : cellsI (.ifc t x) = some [.ifc t x] := rfl
@[go_sem] theorem cellsI_p {k o : Nat} : cellsI (.p k o) = some [.p k o] := rfl
@[go_sem] theorem cellsI_mp {k : Nat} : cellsI (.mp k) = some [.mp k] := rfl
@[go_sem] theorem cellsI_os {k n : Nat} : cellsI (.os k n) = some [.os k n] := rfl
@[go_sem] theorem cellsI_pr {k n o : Nat} : cellsI (.pr k n o) = some [.pr k n o] := rfl
@[go_sem] theorem cellsI_bs {k n o : Nat} : cellsI (.bs k o n) = some [.bs k o n] := rfl
@[go_sem] theorem cellsI_int {k : IntKind} {n : Int} : cellsI (.v (.int k n)) = some [.v (.int k n)] := rfl
@[go_sem] theorem cellsI_bool {b : Bool} : cellsI (.v (.bool b)) = some [.v (.bool b)] := rfl
@[go_sem] theorem cellsI_str {s : ByteArray} : cellsI (.v (.string s)) = some [.v (.string s)] := rfl
@[go_sem] theorem cellsI_slice {a : Option Addr} {n c : Nat} : cellsI (.v (.slice a n c)) = some [.v (.slice a n c)] := rfl
@[go_sem] theorem cellsI_ptr {a : Option Addr} : cellsI (.v (.pointer a)) = some [.v (.pointer a)] := rfl
@[go_sem] theorem cellsI_map {a : Option Nat} : cellsI (.v (.map a)) = some [.v (.map a)] := rfl
@[go_sem] theorem cellsI_func {f : Fn} {a b : Array Value} : cellsI (.v (.func f a b)) = some [.v (.func f a b)] := rfl
@[go_sem] theorem cellsI_nilFunc  : cellsI (.v .nilFunc) = some [.v .nilFunc] := rfl
@[go_sem] theorem cellsI_iface {t : TypeId} {x : Value} : cellsI (.v (.iface t x)) = some [.v (.iface t x)] := rfl
@[go_sem] theorem cellsI_nilIface  : cellsI (.v .nilIface) = some [.v .nilIface] := rfl
@[go_sem] theorem cellsI_agg {xs : Array Value} : cellsI (.v (.agg xs)) = if xs.toList.all (·.oneCell') = true then some (xs.toList.map .v) else none := rfl
end
attribute [go_sem] tyB tyR
attribute [go_sem] Value.oneCell' bsI fillI rep Value.cells chunks
attribute [go_sem] ldX ldN ldH ldP stX ixX ixP alX bxX fdP fvP ivP lenP bin2 binV binI binS unP cvP ncP exP mkP slP bndP partP aggD apI srcI elI notInt putL fnP oneB
attribute [go_sem] Side_true
@[go_sem] theorem Side_triv : Side True = True := by simp [Side]

/-! ### Branches -/
theorem condB {c : Bool} {a b : Tm → IHeap → Prop} (h1 : c = true → a tm H) (h2 : c = false → b tm H) : condK (.v (.bool c)) a b tm H := ⟨h1, h2⟩
theorem splitB' {c : Bool} {K : Bool → Prop} (h1 : c = true → K true) (h2 : c = false → K false) : splitB (.v (.bool c)) K := ⟨h1, h2⟩

theorem vcLoop_mk {c : Code} {Q : Exit → Tm → IHeap → Prop} (I : Tm → IHeap → Prop) (μ : Tm → IHeap → Nat) (h0 : UpI I tm H)
    (h : ∀ I' μ', I' = I → μ' = μ → ∀ tm H, I tm H → IWp P N c (thenQ (Up I' μ' (μ tm H)) Q) tm H) : vcLoop P N c Q tm H := ⟨I, μ, h0, h I μ rfl rfl⟩
theorem Up.of {I I' : Tm → IHeap → Prop} {μ μ' : Tm → IHeap → Nat} {m : Nat} (hI : I' = I) (hμ : μ' = μ) (h : I tm H) (hm : μ tm H < m) : Up I' μ' m tm H := by
  subst hI
  subst hμ
  exact .same h hm

/-! ### Ends -/
def retE (x : Option (Prop × List IV)) (H0 : IHeap) (Q : IEnd → IHeap → Prop) (H : IHeap) : Prop :=
  match x with
  | some (s, is) => s ∧ retG (oneI is) H0 Q H
  | none => False
section
variable {H0 : IHeap} {rs : List ResultVar} {Q : IEnd → IHeap → Prop}
theorem retV_eq : retV P rs H0 Q tm H = retE (resI P H tm rs) H0 Q H := by
  unfold retE retV
  cases resI P H tm rs with
  | none => simp
  | some x =>
    obtain ⟨s, is⟩ := x
    exact propext ⟨fun ⟨s', is', h1, h2, h3⟩ => by cases h1; exact ⟨h2, h3⟩, fun ⟨h2, h3⟩ => ⟨s, is, rfl, h2, h3⟩⟩
@[go_sem] theorem retQ_ret : retQ P rs H0 Q .ret tm H = retE (resI P H tm rs) H0 Q H := retV_eq
@[go_sem] theorem retQ_normal : retQ P rs H0 Q .normal tm H = retE (resI P H tm rs) H0 Q H := retV_eq
@[go_sem] theorem retE_some {s : Prop} {is : List IV} : retE (some (s, is)) H0 Q H = (s ∧ retG (oneI is) H0 Q H) := rfl
/-- A result that names nothing; all that is new is let go. -/
theorem retG_pure {r : IV} (he : Ext H0 H) (hn : NB H0.next r) (h : Q (.ret r) H0) : retG r H0 Q H :=
  .inl ⟨r, H0, he.endH, .wk r r (fun _ _ _ h => h) hn, h⟩
theorem retG_all {r : IV} (h : Q (.ret r) H) : retG r H0 Q H := .inr ⟨r, H, .refl r H, h⟩
theorem retG_gh {r r' : IV} {J : IHeap} (hg : GhR r H r' J) (h : Q (.ret r') J) : retG r H0 Q H := .inr ⟨r', J, hg, h⟩
theorem retG_fz {r r' : IV} {J : IHeap} (he : EndH H0 H J) (hf : Fz H J r r') (h : Q (.ret r') J) : retG r H0 Q H := .inl ⟨r', J, he, hf, h⟩
end
attribute [go_sem] resI rvI oneI

@[go_sem] theorem getq_zero {α : Type} {a : α} {l : List α} : (a :: l)[0]? = some a := rfl
@[go_sem] theorem getq_succ {α : Type} {a : α} {l : List α} {i : Nat} : (a :: l)[i + 1]? = l[i]? := rfl
@[go_sem] theorem Side_lt {α : Type} {a : α} {l : List α} : Side (0 < l.length + 1) = True := by simp [Side]

/-- The number that a ghost value is. -/
def intOf : IV → Int
  | .v (.int _ n) => n
  | _ => 0
@[go_sem] theorem intOf_int {k : IntKind} {n : Int} : intOf (.v (.int k n)) = n := rfl
end Go.Idl
