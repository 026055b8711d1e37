/- Copies go on apart; Same tells what is the same Part 2. Conditions: none. -/
import Derived.Test.YtbgebljjmpklkaaGreatDoorPartA
import Derived.MapKept
set_option linter.unusedSimpArgs false
set_option linter.unusedVariables false

namespace Go.Idl

open Go Go.RowKit

variable {P : Program} {N : Nat} {tm : Tm} {H : IHeap}

def keyOk : TypeDesc → Value → Bool
  | .string, .string _ => true
  | .int j, .int k _ => decide (j = k)
  | _, _ => false

def keyEq : Value → Value → Bool
  | .string a, .string b => a == b
  | .int _ a, .int _ b => a == b
  | _, _ => false

def lkI (k : Value) (es : List (Value × IV)) : Option IV := (es.find? fun e => keyEq k e.1).map (·.2)

def setI (k : Value) (v : IV) : List (Value × IV) → List (Value × IV)
  | [] => [(k, v)]
  | e :: es => if keyEq k e.1 = true then (k, v) :: es else e :: setI k v es

def delI (k : Value) : List (Value × IV) → List (Value × IV)
  | [] => []
  | e :: es => if keyEq k e.1 = true then es else e :: delI k es

theorem keyEq_eq {d : TypeDesc} {a b : Value} (ha : keyOk d a = true) (hb : keyOk d b = true) (h : keyEq a b = true) : a = b := by
  unfold keyOk at ha hb
  split at ha
  · cases b <;> simp at hb
    simp only [keyEq, Go.MapKept.bytes_beq] at h
    rw [h]
  · rename_i j k n
    cases b <;> simp at hb
    simp only [keyEq, beq_iff_eq] at h
    simp only [decide_eq_true_eq] at ha
    rw [h, ← ha, ← hb]
  · cases ha

theorem sameNow_eq {d : TypeDesc} {a b : Value} (ha : keyOk d a = true) (hb : keyOk d b = true) : Instr.sameNow d a b = some (keyEq a b) := by
  unfold keyOk at ha hb
  split at ha
  · cases b <;> simp at hb
    rfl
  · rename_i j k n
    cases b <;> simp at hb
    simp only [decide_eq_true_eq] at ha
    subst ha
    subst hb
    simp [Instr.sameNow, keyEq]
  · cases ha

theorem run_checkKey {kt : TypeId} {d : TypeDesc} {k : Value} (hd : P.underlying kt = some d) (hk : keyOk d k = true) (e : Bool) (w : World) : (Instr.checkKey e 10000 kt k).run P w = .ok () w := by
  unfold Instr.checkKey
  simp only [Sem.run_bind, run_underlying hd, Result.andThen_ok]
  unfold keyOk at hk
  split at hk
  · rfl
  · rfl
  · cases hk

theorem keyEq_self {d : TypeDesc} {k : Value} (hk : keyOk d k = true) : keyEq k k = true := by
  unfold keyOk at hk
  split at hk
  · simp only [keyEq, Go.MapKept.bytes_beq]
  · simp [keyEq]
  · cases hk

theorem findNow_rel {d : TypeDesc} {k : Value} (hk : keyOk d k = true) : ∀ (ms : List MapEntry) (es : List (Value × IV)) (i : Nat), ms.length = es.length → (∀ (j : Nat) (me : MapEntry) (e : Value × IV), ms[j]? = some me → es[j]? = some e → me.key = e.1) → (∀ e, e ∈ es → keyOk d e.1 = true) →
    (lkI k es = none ∧ Instr.findNow d k ms i = some none ∧ (∀ v, setI k v es = es ++ [(k, v)]) ∧ delI k es = es ∧ ∀ e, e ∈ es → e.1 ≠ k) ∨
    ∃ (j : Nat) (me : MapEntry) (e : Value × IV), ms[j]? = some me ∧ es[j]? = some e ∧ lkI k es = some e.2 ∧ Instr.findNow d k ms i = some (some (i + j, me.val)) ∧ e.1 = k ∧ (∀ v, setI k v es = es.set j (k, v)) ∧ delI k es = es.eraseIdx j
  | [], [], i, _, _, _ => .inl ⟨rfl, rfl, fun _ => rfl, rfl, by simp⟩
  | m :: ms, e :: es, i, hl, hkey, hok => by
    have hme : m.key = e.1 := hkey 0 m e rfl rfl
    have hoke := hok e (by simp)
    have hs := sameNow_eq hk hoke
    cases hq : keyEq k e.1 with
    | true =>
      refine .inr ⟨0, m, e, rfl, rfl, by simp [lkI, hq], ?_, (keyEq_eq hk hoke hq).symm, fun v => by simp [setI, hq], by simp [delI, hq]⟩
      simp [Instr.findNow, hme, hs, hq]
    | false =>
      have hstep : Instr.findNow d k (m :: ms) i = Instr.findNow d k ms (i + 1) := by simp [Instr.findNow, hme, hs, hq]
      have hlk : lkI k (e :: es) = lkI k es := by simp [lkI, hq]
      rcases findNow_rel hk ms es (i + 1) (by simpa using hl) (fun j me e' h1 h2 => hkey (j + 1) me e' (by simpa using h1) (by simpa using h2)) (fun e' h => hok e' (by simp [h])) with ⟨h1, h2, h3, h4, h5⟩ | ⟨j, me, e', h1, h2, h3, h4, h5, h6, h7⟩
      · refine .inl ⟨hlk.trans h1, hstep.trans h2, fun v => by simp [setI, hq, h3], by simp [delI, hq, h4], fun e' he' => ?_⟩
        rcases List.mem_cons.1 he' with rfl | he'
        · intro e1
          rw [e1, keyEq_self hk] at hq
          cases hq
        · exact h5 e' he' 
      · exact .inr ⟨j + 1, me, e', by simpa using h1, by simpa using h2, hlk.trans h3, by rw [hstep, h4]; congr 3; omega, h5, fun v => by simp [setI, hq, h6], by simp [delI, hq, h7]⟩
  | [], _ :: _, _, hl, _, _ => by simp at hl
  | _ :: _, [], _, hl, _, _ => by simp at hl

theorem EntR.rel {w : World} {g : Gs} {ents : Array MapEntry} {clock : Nat} {es : List (Value × IV)} (h : EntR w g ents clock es) {d : TypeDesc} {k : Value} (hk : keyOk d k = true) (hok : (es.all fun e => keyOk d e.1) = true) :
    (lkI k es = none ∧ Instr.findNow d k ents.toList 0 = some none ∧ (∀ v, setI k v es = es ++ [(k, v)]) ∧ delI k es = es ∧ ∀ e, e ∈ es → e.1 ≠ k) ∨
    ∃ (j : Nat) (me : MapEntry) (e : Value × IV), ents[j]? = some me ∧ es[j]? = some e ∧ lkI k es = some e.2 ∧ Instr.findNow d k ents.toList 0 = some (some (j, me.val)) ∧ e.1 = k ∧ me.key = k ∧ (∀ v, setI k v es = es.set j (k, v)) ∧ delI k es = es.eraseIdx j := by
  rcases findNow_rel hk ents.toList es 0 (by simpa using h.size) (fun j me e h1 h2 => (h.ent j me e (by simpa using h1) h2).1) (fun e he => List.all_eq_true.1 hok e he) with h1 | ⟨j, me, e, h1, h2, h3, h4, h5, h6, h7⟩
  · exact .inl h1
  · exact .inr ⟨j, me, e, by simpa using h1, h2, h3, by simpa using h4, h5, ((h.ent j me e (by simpa using h1) h2).1).trans h5, h6, h7⟩

def szCells (P : Program) : Nat → TypeId → List Nat
  | 0, _ => []
  | n + 1, t =>
    match P.underlying t with
    | some (.struct fs) => (fs.toList.map fun f => szCells P n f.type).flatten
    | some (.array k e) => (List.replicate k (szCells P n e)).flatten
    | some (.slice e) => [P.cellsOf e]
    | _ => [0]

def zvc : List Value → List Nat → List IV
  | .slice none 0 0 :: cs, ss => .sl (ss.headD 0) [] :: zvc cs ss.tail
  | c :: cs, ss => .v c :: zvc cs ss.tail
  | [], _ => []

theorem zvc_sound {w : World} {g : Gs} : ∀ (cs : List Value) (ss : List Nat), (zvc cs ss).length = cs.length ∧ ∀ (j : Nat) (x : Value) (c : IV), cs[j]? = some x → (zvc cs ss)[j]? = some c → R w g x c
  | [], _ => ⟨rfl, by simp⟩
  | c :: cs, ss => by
    obtain ⟨h1, h2⟩ := zvc_sound (w := w) (g := g) cs ss.tail
    unfold zvc
    split
    · rename_i cs' ss' he
      cases he
      refine ⟨by simp [h1], fun j x i e1 e2 => ?_⟩
      cases j with
      | zero => simp at e1 e2; subst e1; subst e2; exact .sl0 _ _ _
      | succ j => exact h2 j x i (by simpa using e1) (by simpa using e2)
    · rename_i c' cs' ss' hne he
      cases he
      refine ⟨by simp [h1], fun j x i e1 e2 => ?_⟩
      cases j with
      | zero => simp at e1 e2; subst e1; subst e2; exact .v _
      | succ j => exact h2 j x i (by simpa using e1) (by simpa using e2)
    · rename_i he
      cases he

def zvI (P : Program) (t : TypeId) : Option IV :=
  match zeroOf P t with
  | some (.slice none 0 0) => match P.underlying t with | some (.slice e) => some (.sl (P.cellsOf e) []) | _ => none
  | some (.agg cs) => if (cs.toList.all (·.oneCell')) = true then some (.ag (zvc cs.toList (szCells P 9 t))) else none
  | some z => some (.v z)
  | none => none

theorem zvI_sound {t : TypeId} {i : IV} (h : zvI P t = some i) (w : World) : ∃ z, (zeroValue t).run P w = .ok z w ∧ ∀ g, R w g z i := by
  unfold zvI at h
  split at h
  · rename_i hz
    split at h
    · simp only [Option.some.injEq] at h
      subst h
      exact ⟨_, run_zeroValue hz w, fun g => .sl0 _ _ _⟩
    · cases h
  · rename_i cs hz
    split at h
    · rename_i hone
      simp only [Option.some.injEq] at h
      subst h
      refine ⟨_, run_zeroValue hz w, fun g => .ag _ _ ?_ (fun j x hx => List.all_eq_true.1 hone x (by rw [Array.mem_toList_iff]; exact Array.mem_of_getElem? hx)) fun j x c h1 h2 => ?_⟩
      · rw [(zvc_sound (w := w) (g := g) cs.toList _).1]; simp
      · exact (zvc_sound cs.toList _).2 j x c (by rw [Array.getElem?_toList]; exact h1) h2
    · cases h
  · rename_i z _ _ hz
    simp only [Option.some.injEq] at h
    subst h
    exact ⟨_, run_zeroValue hz w, fun g => .v _⟩
  · cases h

def okI (ok : Bool) (z : IV) : Option IV → IV
  | some i => if ok = true then .tu [i, .v (.bool true)] else i
  | none => if ok = true then .tu [z, .v (.bool false)] else z

def lkX (P : Program) (H : IHeap) (t : TypeId) (x i : IV) (ok : Bool) : Option (Prop × IV) :=
  match P.underlying t with
  | some (.map kt et) =>
    match P.underlying kt, zvI P et, i with
    | some d, some z, .v k =>
      match x with
      | .mp m =>
        match H.obj m with
        | some (.map es) => some (keyOk d k = true ∧ (es.all fun e => keyOk d e.1) = true, okI ok z (lkI k es))
        | some (.mapB _ _ es) => some (keyOk d k = true ∧ (es.all fun e => keyOk d e.1) = true, okI ok z (lkI k es))
        | _ => none
      | .v (.map none) => some (keyOk d k = true, okI ok z none)
      | _ => none
    | _, _, _ => none
  | _ => none

theorem R_pair {w : World} {g : Gs} {x : Value} {i : IV} (h : R w g x i) (b : Bool) : R w g (.tuple #[x, .bool b]) (.tu [i, .v (.bool b)]) := by
  refine .tu _ _ rfl fun j y c h1 h2 => ?_
  match j with
  | 0 => simp at h1 h2; subst h1; subst h2; exact h
  | 1 => simp at h1 h2; subst h1; subst h2; exact .v _
  | j + 2 => simp at h1

theorem run_lookup {t kt et : TypeId} {d : TypeDesc} {b : Nat} {ents : Array MapEntry} {clock : Nat} {k z : Value} {w : World} (ht : P.underlying t = some (.map kt et)) (hd : P.underlying kt = some d) (hk : keyOk d k = true)
    (hb : w.heap[b]? = some (.map ents clock)) {r : Option (Nat × Value)} (hf : Instr.findNow d k ents.toList 0 = some r) (hz : (zeroValue et).run P w = .ok z w) (ok : Bool) :
    (Instr.lookup t (.map (some b)) k ok).run P w = .ok (match r with | some (_, v) => if ok = true then .tuple #[v, .bool true] else v | none => if ok = true then .tuple #[z, .bool false] else z) w := by
  unfold Instr.lookup
  have hg : (getObj b).run P w = .ok (.map ents clock) w := by simp [getObj, Sem.run, hb]
  have hfk : (Instr.findKey kt k ents.toList).run P w = .ok r w := by
    unfold Instr.findKey
    simp only [Sem.run_bind, run_underlying hd, Result.andThen_ok, hf]
    rfl
  simp only [Sem.run_bind, run_underlying ht, Result.andThen_ok, hg, Sem.run_pure, run_checkKey hd hk, hfk]
  cases r with
  | none =>
    simp only [Sem.run_bind, hz, Result.andThen_ok, Sem.run_pure]
  | some p => simp only [Sem.run_bind, Sem.run_pure, Result.andThen_ok]

theorem run_lookup0 {t kt et : TypeId} {d : TypeDesc} {k z : Value} {w : World} (ht : P.underlying t = some (.map kt et)) (hd : P.underlying kt = some d) (hk : keyOk d k = true)
    (hz : (zeroValue et).run P w = .ok z w) (ok : Bool) :
    (Instr.lookup t (.map none) k ok).run P w = .ok (if ok = true then .tuple #[z, .bool false] else z) w := by
  unfold Instr.lookup
  have hfk : (Instr.findKey kt k []).run P w = .ok none w := by
    unfold Instr.findKey
    simp only [Sem.run_bind, run_underlying hd, Result.andThen_ok, Instr.findNow]
    rfl
  simp only [Sem.run_bind, run_underlying ht, Result.andThen_ok, Sem.run_pure, run_checkKey hd hk, hfk, hz]

theorem Sim.map_at {w : World} {g : Gs} (s : Sim w g H) {m : Nat} {o : HO} (ho : H.obj m = some o) (hsh : o.sh = .fx) {x : Value} (hx : R w g x (.mp m)) : x = g.mu m := by
  have hsh' : g.sh m = some .fx := by rw [s.sh, IHeap.sh, ho, Option.map_some, hsh]
  cases hx with
  | mp _ _ _ _ h => exact (h .fx hsh' rfl).symm

theorem Sim.map_in {w : World} {g : Gs} (s : Sim w g H) {m : Nat} {es : List (Value × IV)} (ho : H.obj m = some (.map es) ∨ ∃ bs c, H.obj m = some (.mapB bs c es)) {x : Value} (hx : R w g x (.mp m)) :
    ∃ b ents clock, x = .map (some b) ∧ g.mu m = .map (some b) ∧ w.heap[b]? = some (.map ents clock) ∧ EntR w g ents clock es := by
  rcases ho with ho | ⟨bs, c, ho⟩
  · obtain ⟨b, ents, clock, h1, h2, h3⟩ := s.obj m _ ho
    have hxe := s.map_at ho rfl hx
    exact ⟨b, ents, clock, hxe.trans h1, h1, h2, h3⟩
  · obtain ⟨b, ents, h1, h2, h3, _⟩ := s.obj m _ ho
    have hxe := s.map_at ho rfl hx
    exact ⟨b, ents, c, hxe.trans h1, h1, h2, h3⟩

theorem IOper_lookup {o : Oper} {K : IV → IHeap → Prop} {Qp : List PanicEntry → IHeap → Prop} {t : TypeId} {x i : Operand} {ok : Bool} {s : Prop} {r : IV} (ho : o.op = .lookup t x i ok) (hok : okO N o = true)
    (h : lkX P H t (ev tm x) (ev tm i) ok = some (s, r)) (hs : s) (hK : K r H) : IOper P N o tm H K Qp := by
  obtain ⟨dst, op, type, pos, after, guard⟩ := o
  simp only at ho
  subst ho
  refine IOper_of (by simp) fun w g a sm ra hN => ?_
  subst hN
  simp [okO, Op.operands] at hok
  have rx := ra.ev (x := x) hok.1.1
  have ri := ra.ev (x := i) hok.1.2
  have fin : ∀ {v : Value}, (Instr.lookup t (a.eval x) (a.eval i) ok).run P w = .ok v w → R w g v r → ∃ x' w' g' H' i', ((execOp a.eval ⟨dst, .lookup t x i ok, type, pos, after, guard⟩).run P w = .ok (.value x') w' ∨ ((execOp a.eval ⟨dst, .lookup t x i ok, type, pos, after, guard⟩).run P w = .ok .skip w' ∧ x' = undef)) ∧
      Mono w g w' g' ∧ Sim w' g' H' ∧ R w' g' x' i' ∧ K i' H' := fun hr hv => ⟨_, w, g, H, r, .inl (by simp [execOp, hr]), .refl w g, sm, hv, hK⟩
  unfold lkX at h
  split at h
  · rename_i kt et ht
    split at h
    · rename_i d z k hd hz hi
      rw [hi] at ri
      have hie := ri.v_eq
      obtain ⟨zv, hzr, hzR⟩ := zvI_sound hz w
      have key : ∀ (m : Nat) (es : List (Value × IV)), ev tm x = .mp m → (H.obj m = some (.map es) ∨ ∃ bs c, H.obj m = some (.mapB bs c es)) → some (keyOk d k = true ∧ (es.all fun e => keyOk d e.1) = true, okI ok z (lkI k es)) = some (s, r) → ∃ x' w' g' H' i', ((execOp a.eval ⟨dst, .lookup t x i ok, type, pos, after, guard⟩).run P w = .ok (.value x') w' ∨ ((execOp a.eval ⟨dst, .lookup t x i ok, type, pos, after, guard⟩).run P w = .ok .skip w' ∧ x' = undef)) ∧
          Mono w g w' g' ∧ Sim w' g' H' ∧ R w' g' x' i' ∧ K i' H' := by
        intro m es hx hm h
        simp only [Option.some.injEq, Prod.mk.injEq] at h
        obtain ⟨rfl, rfl⟩ := h
        rw [hx] at rx
        obtain ⟨b, ents, clock, hxe, _, hb, he⟩ := sm.map_in hm rx
        rcases he.rel hs.1 hs.2 with ⟨h1, h2, _⟩ | ⟨j, me, e, h1, h2, h3, h4, h5, h6, _⟩
        · refine fin (v := if ok = true then .tuple #[zv, .bool false] else zv) ?_ ?_
          · rw [hxe, hie]
            exact run_lookup ht hd hs.1 hb h2 hzr ok
          · rw [h1]
            cases ok
            · exact hzR g
            · exact R_pair (hzR g) false
        · refine fin (v := if ok = true then .tuple #[me.val, .bool true] else me.val) ?_ ?_
          · rw [hxe, hie]
            exact run_lookup ht hd hs.1 hb h4 hzr ok
          · rw [h3]
            have hv := (he.ent j me e h1 h2).2
            cases ok
            · exact hv
            · exact R_pair hv true
      split at h
      · rename_i m hx
        split at h
        · rename_i es hm
          exact key m es hx (.inl hm) h
        · rename_i bs c es hm
          exact key m es hx (.inr ⟨bs, c, hm⟩) h
        · cases h
      · rename_i hx
        simp only [Option.some.injEq, Prod.mk.injEq] at h
        obtain ⟨rfl, rfl⟩ := h
        rw [hx] at rx
        have hxe := rx.v_eq
        refine fin (v := if ok = true then .tuple #[zv, .bool false] else zv) ?_ ?_
        · rw [hxe, hie]
          exact run_lookup0 ht hd hs hzr ok
        · cases ok
          · exact hzR g
          · exact R_pair (hzR g) false
      · cases h
    · cases h
  · cases h

/-! ### A key's entry is set -/

theorem sameBits_self {d : TypeDesc} {k : Value} (hk : keyOk d k = true) : Instr.sameBits 10000 k k = true := by
  unfold keyOk at hk
  split at hk
  · simp only [Instr.sameBits, Go.MapKept.bytes_beq]
  · simp [Instr.sameBits]
  · cases hk

theorem run_setObjM {w : World} {r : Nat} {es : Array MapEntry} {clock : Nat} (o : Obj) (hb : w.heap[r]? = some (.map es clock)) : (setObj r o).run P w = .ok () (w.putObj r o) := by
  simp [setObj, Sem.run, hb, World.putObj]

theorem run_mapUpdate {t kt et : TypeId} {d : TypeDesc} {b : Nat} {ents : Array MapEntry} {clock : Nat} {k v : Value} {w : World} (ht : P.underlying t = some (.map kt et)) (hd : P.underlying kt = some d) (hk : keyOk d k = true)
    (hb : w.heap[b]? = some (.map ents clock)) {r : Option (Nat × Value)} (hf : Instr.findNow d k ents.toList 0 = some r) (hr : ∀ p, r = some p → ∃ me, ents[p.1]? = some me ∧ me.key = k) :
    (Instr.mapUpdate t (.map (some b)) k v).run P w = .ok () (w.putObj b (match r with | some (i, _) => .map (ents.modify i fun e => { e with key := k, val := v }) clock | none => .map (ents.push { key := k, val := v, born := clock }) (clock + 1))) := by
  unfold Instr.mapUpdate
  have hg : (getObj b).run P w = .ok (.map ents clock) w := by simp [getObj, Sem.run, hb]
  have hfk : (Instr.findKey kt k ents.toList).run P w = .ok r w := by
    unfold Instr.findKey
    simp only [Sem.run_bind, run_underlying hd, Result.andThen_ok, hf]
    rfl
  simp only [Sem.run_bind, run_underlying ht, Result.andThen_ok, hg, Sem.run_pure, run_checkKey hd hk, hfk]
  cases r with
  | none => exact run_setObjM _ hb
  | some p =>
    obtain ⟨me, h1, h2⟩ := hr p rfl
    have hks : (Instr.keyThatStays (((ents[p.1]?).map (·.key)).getD k) k).run P w = .ok k w := by
      unfold Instr.keyThatStays
      simp [h1, h2, sameBits_self hk]
    simp only [Sem.run_bind, hks, Result.andThen_ok]
    exact run_setObjM _ hb

theorem putMap_sim {w : World} {g : Gs} (s : Sim w g H) {m b : Nat} {o o' : HO} (ho : H.obj m = some o) (h1 : o.sh = .fx) (h2 : o'.sh = .fx) (hmu : g.mu m = .map (some b)) (ob : Obj)
    (hR : Mono w g (w.putObj b ob) g → ObjR (w.putObj b ob) g (g.mu m) o') : Sim (w.putObj b ob) g (H.set m o') ∧ Mono w g (w.putObj b ob) g :=
  s.put m b o o' ho (by rw [h1, h2]) (by rw [hmu]; rfl) (by simp) rfl rfl rfl (fun i hi => World.putObj_heap_other hi) hR

def muX (P : Program) (H : IHeap) (t : TypeId) (x i y : IV) : Option (Prop × IV × IHeap) :=
  match P.underlying t with
  | some (.map kt _) =>
    match P.underlying kt, i, x with
    | some d, .v k, .mp m =>
      match H.obj m with
      | some (.map es) => some (keyOk d k = true ∧ (es.all fun e => keyOk d e.1) = true, .v undef, H.set m (.map (setI k y es)))
      | _ => none
    | _, _, _ => none
  | _ => none

theorem EntR.set {w w' : World} {g : Gs} {ents : Array MapEntry} {clock j : Nat} {es : List (Value × IV)} (h : EntR w g ents clock es) (m : Mono w g w' g) {k v : Value} {y : IV} (hy : R w g v y) (hj : j < es.length) (hkj : (es[j]'hj).1 = k) :
    EntR w' g (ents.modify j fun e => { e with key := k, val := v }) clock (es.set j (k, y)) := by
  refine ⟨by simp [h.size], fun i me e h1 h2 => ?_, fun me hme => ?_, ?_, ?_⟩
  · rw [Array.getElem?_modify] at h1
    by_cases e' : j = i
    · subst e'
      rw [if_pos rfl] at h1
      rw [List.getElem?_set_self hj] at h2
      simp only [Option.some.injEq] at h2
      subst h2
      cases hq : ents[j]? with
      | none => simp [hq] at h1
      | some q =>
        simp [hq] at h1
        subst h1
        exact ⟨rfl, hy.mono m⟩
    · rw [if_neg e'] at h1
      rw [List.getElem?_set_ne e'] at h2
      have := h.ent i me e h1 h2
      exact ⟨this.1, this.2.mono m⟩
  · obtain ⟨i, hi⟩ := List.getElem?_of_mem hme
    rw [Array.getElem?_toList, Array.getElem?_modify] at hi
    split at hi
    · cases hq : ents[i]? with
      | none => simp [hq] at hi
      | some q =>
        simp [hq] at hi
        subst hi
        exact h.born q (by rw [Array.mem_toList_iff]; exact Array.mem_of_getElem? hq)
    · exact h.born me (by rw [Array.mem_toList_iff]; exact Array.mem_of_getElem? hi)
  · have e : (ents.modify j fun e => { e with key := k, val := v }).toList.map (·.born) = ents.toList.map (·.born) := by
      apply List.ext_getElem?
      intro i
      simp only [List.getElem?_map, Array.getElem?_toList, Array.getElem?_modify]
      split
      · cases ents[i]? <;> rfl
      · rfl
    rw [e]; exact h.nodup
  · rw [List.map_set]
    have : (es.map (·.1)).set j k = es.map (·.1) := by
      rw [← hkj]
      apply List.ext_getElem?
      intro i
      rw [List.getElem?_set]
      split
      · rename_i e
        subst e
        simp [hj]
      · rfl
    rw [this]; exact h.keys

theorem EntR.push {w w' : World} {g : Gs} {ents : Array MapEntry} {clock : Nat} {es : List (Value × IV)} (h : EntR w g ents clock es) (m : Mono w g w' g) {k v : Value} {y : IV} (hy : R w g v y) (hnk : ∀ e, e ∈ es → e.1 ≠ k) :
    EntR w' g (ents.push { key := k, val := v, born := clock }) (clock + 1) (es ++ [(k, y)]) := by
  refine ⟨by simp [h.size], fun i me e h1 h2 => ?_, fun me hme => ?_, ?_, ?_⟩
  · rw [Array.getElem?_push] at h1
    rcases Nat.lt_or_ge i es.length with hi | hi
    · rw [if_neg (by rw [h.size]; omega)] at h1
      rw [List.getElem?_append_left hi] at h2
      have := h.ent i me e h1 h2
      exact ⟨this.1, this.2.mono m⟩
    · rw [List.getElem?_append_right hi] at h2
      have e0 : i = es.length := by
        have := (List.getElem?_eq_some_iff.1 h2).1
        simp at this; omega
      subst e0
      rw [if_pos h.size.symm] at h1
      simp at h1 h2
      subst h1; subst h2
      exact ⟨rfl, hy.mono m⟩
  · simp at hme
    rcases hme with hme | rfl
    · exact Nat.lt_succ_of_lt (h.born me (by simpa using hme))
    · exact Nat.lt_succ_self _
  · simp only [Array.toList_push, List.map_append, List.map_cons, List.map_nil]
    rw [List.nodup_append]
    refine ⟨h.nodup, by simp, ?_⟩
    intro a ha b hb
    simp only [List.mem_map] at ha
    obtain ⟨me, h1, rfl⟩ := ha
    simp at hb
    have := h.born me h1
    omega
  · rw [List.map_append, List.nodup_append]
    refine ⟨h.keys, by simp, fun a ha b hb => ?_⟩
    obtain ⟨e, he, rfl⟩ := List.mem_map.1 ha
    simp at hb
    subst hb
    exact hnk e he

theorem EntR.erase {w w' : World} {g : Gs} {ents : Array MapEntry} {clock j : Nat} {es : List (Value × IV)} (h : EntR w g ents clock es) (m : Mono w g w' g) (hj : j < es.length) : EntR w' g (ents.eraseIdxIfInBounds j) clock (es.eraseIdx j) := by
  have hlt : j < ents.size := by rw [h.size]; exact hj
  have e : (ents.eraseIdxIfInBounds j).toList = ents.toList.eraseIdx j := by
    rw [Array.toList_eraseIdxIfInBounds]
  refine ⟨?_, fun i me e' h1 h2 => ?_, fun me hme => ?_, ?_, ?_⟩
  · rw [← Array.length_toList, e, List.length_eraseIdx, List.length_eraseIdx]
    simp [h.size]
  · rw [← Array.getElem?_toList, e, List.getElem?_eraseIdx] at h1
    rw [List.getElem?_eraseIdx] at h2
    split at h1
    · rename_i hi
      rw [if_pos hi] at h2
      have := h.ent i me e' (by simpa using h1) h2
      exact ⟨this.1, this.2.mono m⟩
    · rename_i hi
      rw [if_neg hi] at h2
      have := h.ent (i + 1) me e' (by simpa using h1) h2
      exact ⟨this.1, this.2.mono m⟩
  · rw [e] at hme
    exact h.born me (List.mem_of_mem_eraseIdx hme)
  · rw [e]
    exact h.nodup.sublist ((List.eraseIdx_sublist _ _).map _)
  · exact h.keys.sublist ((List.eraseIdx_sublist _ _).map _)

theorem IOper_mapUpdate {o : Oper} {K : IV → IHeap → Prop} {Qp : List PanicEntry → IHeap → Prop} {t : TypeId} {x i y : Operand} {s : Prop} {r : IV} {H' : IHeap} (ho : o.op = .mapUpdate t x i y) (hok : okO N o = true)
    (h : muX P H t (ev tm x) (ev tm i) (ev tm y) = some (s, r, H')) (hs : s) (hK : K r H') : IOper P N o tm H K Qp := by
  obtain ⟨dst, op, type, pos, after, guard⟩ := o
  simp only at ho
  subst ho
  refine IOper_of (by simp) fun w g a sm ra hN => ?_
  subst hN
  simp [okO, Op.operands] at hok
  have rx := ra.ev (x := x) hok.1.1
  have ri := ra.ev (x := i) hok.1.2.1
  have ry := ra.ev (x := y) hok.1.2.2
  unfold muX at h
  split at h
  · rename_i kt et ht
    split at h
    · rename_i d k m hd hi hx
      split at h
      · rename_i es hm
        simp only [Option.some.injEq, Prod.mk.injEq] at h
        obtain ⟨rfl, rfl, rfl⟩ := h
        rw [hi] at ri
        rw [hx] at rx
        have hie := ri.v_eq
        obtain ⟨b, ents, clock, hxe, hmu, hb, he⟩ := sm.map_in (.inl hm) rx
        have hlt := heap_lt hb
        rcases he.rel hs.1 hs.2 with ⟨h1, h2, h3, _, h8⟩ | ⟨j, me, e, h1, h2, h3, h4, h5, h6, h7, _⟩
        · have hrun := run_mapUpdate (P := P) (v := a.eval y) ht hd hs.1 hb h2 (fun p e => by cases e)
          have hp := putMap_sim sm hm rfl rfl hmu (.map (ents.push { key := k, val := a.eval y, born := clock }) (clock + 1)) (o' := .map (setI k (ev tm y) es))
            (fun mm => ⟨b, _, _, hmu, by rw [putObj_get _ _ _ hlt, if_pos rfl], by rw [h3]; exact he.push mm ry h8⟩)
          exact ⟨undef, _, g, _, .v undef, .inr ⟨by simp [execOp, hxe, hie, hrun], rfl⟩, hp.2, hp.1, .v _, hK⟩
        · have hj : j < es.length := (List.getElem?_eq_some_iff.1 h2).1
          have hrun := run_mapUpdate (P := P) (v := a.eval y) ht hd hs.1 hb h4 (fun p e => by cases e; exact ⟨me, h1, h6⟩)
          have hp := putMap_sim sm hm rfl rfl hmu (.map (ents.modify j fun e => { e with key := k, val := a.eval y }) clock) (o' := .map (setI k (ev tm y) es))
            (fun mm => ⟨b, _, _, hmu, by rw [putObj_get _ _ _ hlt, if_pos rfl], by rw [h7]; exact he.set mm ry hj (by rw [List.getElem?_eq_getElem hj] at h2; cases h2; exact h5)⟩)
          exact ⟨undef, _, g, _, .v undef, .inr ⟨by simp [execOp, hxe, hie, hrun], rfl⟩, hp.2, hp.1, .v _, hK⟩
      · cases h
    · cases h
  · cases h

theorem IOper_insert {o : Oper} {K : IV → IHeap → Prop} {Qp : List PanicEntry → IHeap → Prop} {t : TypeId} {x i y : Operand} {s : Prop} {r : IV} {H' : IHeap} (ho : o.op = .insert t x i y) (hok : okO N o = true)
    (h : muX P H t (ev tm x) (ev tm i) (ev tm y) = some (s, r, H')) (hs : s) (hK : K r H') : IOper P N o tm H K Qp := by
  obtain ⟨dst, op, type, pos, after, guard⟩ := o
  simp only at ho
  subst ho
  refine IOper_of (by simp) fun w g a sm ra hN => ?_
  subst hN
  simp [okO, Op.operands] at hok
  have rx := ra.ev (x := x) hok.1.1
  have ri := ra.ev (x := i) hok.1.2.1
  have ry := ra.ev (x := y) hok.1.2.2
  unfold muX at h
  split at h
  · rename_i kt et ht
    split at h
    · rename_i d k m hd hi hx
      split at h
      · rename_i es hm
        simp only [Option.some.injEq, Prod.mk.injEq] at h
        obtain ⟨rfl, rfl, rfl⟩ := h
        rw [hi] at ri
        rw [hx] at rx
        have hie := ri.v_eq
        obtain ⟨b, ents, clock, hxe, hmu, hb, he⟩ := sm.map_in (.inl hm) rx
        have hlt := heap_lt hb
        rcases he.rel hs.1 hs.2 with ⟨h1, h2, h3, _, h8⟩ | ⟨j, me, e, h1, h2, h3, h4, h5, h6, h7, _⟩
        · have hrun := run_mapUpdate (P := P) (v := a.eval y) ht hd hs.1 hb h2 (fun p e => by cases e)
          have hp := putMap_sim sm hm rfl rfl hmu (.map (ents.push { key := k, val := a.eval y, born := clock }) (clock + 1)) (o' := .map (setI k (ev tm y) es))
            (fun mm => ⟨b, _, _, hmu, by rw [putObj_get _ _ _ hlt, if_pos rfl], by rw [h3]; exact he.push mm ry h8⟩)
          exact ⟨undef, _, g, _, .v undef, .inr ⟨by simp [execOp, hxe, hie, hrun], rfl⟩, hp.2, hp.1, .v _, hK⟩
        · have hj : j < es.length := (List.getElem?_eq_some_iff.1 h2).1
          have hrun := run_mapUpdate (P := P) (v := a.eval y) ht hd hs.1 hb h4 (fun p e => by cases e; exact ⟨me, h1, h6⟩)
          have hp := putMap_sim sm hm rfl rfl hmu (.map (ents.modify j fun e => { e with key := k, val := a.eval y }) clock) (o' := .map (setI k (ev tm y) es))
            (fun mm => ⟨b, _, _, hmu, by rw [putObj_get _ _ _ hlt, if_pos rfl], by rw [h7]; exact he.set mm ry hj (by rw [List.getElem?_eq_getElem hj] at h2; cases h2; exact h5)⟩)
          exact ⟨undef, _, g, _, .v undef, .inr ⟨by simp [execOp, hxe, hie, hrun], rfl⟩, hp.2, hp.1, .v _, hK⟩
      · cases h
    · cases h
  · cases h

/-! ### A key's entry goes -/

def dlX (P : Program) (H : IHeap) (t : TypeId) (x i : IV) : Option (Prop × IV × IHeap) :=
  match P.underlying t with
  | some (.map kt _) =>
    match P.underlying kt, i, x with
    | some d, .v k, .mp m =>
      match H.obj m with
      | some (.map es) => some (keyOk d k = true ∧ (es.all fun e => keyOk d e.1) = true, .tu [], H.set m (.map (delI k es)))
      | _ => none
    | _, _, _ => none
  | _ => none

theorem run_delete {t t' kt et ty : TypeId} {d : TypeDesc} {b : Nat} {ents : Array MapEntry} {clock : Nat} {k : Value} {w : World} (ht : P.underlying t = some (.map kt et)) (hd : P.underlying kt = some d) (hk : keyOk d k = true)
    (hb : w.heap[b]? = some (.map ents clock)) {r : Option (Nat × Value)} (hf : Instr.findNow d k ents.toList 0 = some r) :
    (Builtin.delete_ #[t, t'] ty #[.map (some b), k]).run P w = .ok (.tuple #[]) (w.putObj b (.map (match r with | some (i, _) => ents.eraseIdxIfInBounds i | none => ents) clock)) := by
  unfold Builtin.delete_
  have hg : (getObj b).run P w = .ok (.map ents clock) w := by simp [getObj, Sem.run, hb]
  have hfk : (Instr.findKey kt k ents.toList).run P w = .ok r w := by
    unfold Instr.findKey
    simp only [Sem.run_bind, run_underlying hd, Result.andThen_ok, hf]
    rfl
  simp only [List.getElem?_toArray, List.getElem?_cons_zero, List.getElem?_cons_succ, Sem.run_bind, run_underlying ht, Result.andThen_ok, hg, run_checkKey hd hk, hfk]
  cases r with
  | none => simp only [run_setObjM _ hb, Result.andThen_ok, Sem.run_bind, Sem.run_pure]
  | some p => simp only [run_setObjM _ hb, Result.andThen_ok, Sem.run_bind, Sem.run_pure]

theorem IOper_delete {o : Oper} {K : IV → IHeap → Prop} {Qp : List PanicEntry → IHeap → Prop} {t t' : TypeId} {x i : Operand} {s : Prop} {r : IV} {H' : IHeap} (ho : o.op = .call { callee := .builtin .delete, args := #[x, i], argTypes := #[t, t'] }) (hok : okO N o = true)
    (h : dlX P H t (ev tm x) (ev tm i) = some (s, r, H')) (hs : s) (hK : K r H') : IOper P N o tm H K Qp := by
  obtain ⟨dst, op, type, pos, after, guard⟩ := o
  simp only at ho
  subst ho
  refine IOper_of (by simp) fun w g a sm ra hN => ?_
  subst hN
  simp [okO, Op.operands, Call.operands] at hok
  have rx := ra.ev (x := x) hok.1.1
  have ri := ra.ev (x := i) hok.1.2
  unfold dlX at h
  split at h
  · rename_i kt et ht
    split at h
    · rename_i d k m hd hi hx
      split at h
      · rename_i es hm
        simp only [Option.some.injEq, Prod.mk.injEq] at h
        obtain ⟨rfl, rfl, rfl⟩ := h
        rw [hi] at ri
        rw [hx] at rx
        have hie := ri.v_eq
        obtain ⟨b, ents, clock, hxe, hmu, hb, he⟩ := sm.map_in (.inl hm) rx
        have hlt := heap_lt hb
        have fin : ∀ ents', (Builtin.delete_ #[t, t'] type #[.map (some b), k]).run P w = .ok (.tuple #[]) (w.putObj b (.map ents' clock)) → (Mono w g (w.putObj b (.map ents' clock)) g → EntR (w.putObj b (.map ents' clock)) g ents' clock (delI k es)) →
            ∃ x' w' g' H' i', ((execOp a.eval ⟨dst, .call { callee := .builtin .delete, args := #[x, i], argTypes := #[t, t'] }, type, pos, after, guard⟩).run P w = .ok (.value x') w' ∨ ((execOp a.eval ⟨dst, .call { callee := .builtin .delete, args := #[x, i], argTypes := #[t, t'] }, type, pos, after, guard⟩).run P w = .ok .skip w' ∧ x' = undef)) ∧
              Mono w g w' g' ∧ Sim w' g' H' ∧ R w' g' x' i' ∧ K i' H' := by
          intro ents' hrun hent
          have hp := putMap_sim sm hm rfl rfl hmu (.map ents' clock) (o' := .map (delI k es)) (fun mm => ⟨b, _, _, hmu, by rw [putObj_get _ _ _ hlt, if_pos rfl], hent mm⟩)
          refine ⟨.tuple #[], _, g, _, .tu [], .inl ?_, hp.2, hp.1, .tu _ _ rfl (by simp), hK⟩
          simp [execOp, resolve, Deferred.ofValue, invoke, builtin, hxe, hie, hrun]
        rcases he.rel hs.1 hs.2 with ⟨h1, h2, _, h3, _⟩ | ⟨j, me, e, h1, h2, h3, h4, h5, h6, _, h7⟩
        · exact fin ents (run_delete ht hd hs.1 hb h2) fun mm => by rw [h3]; exact he.imp fun x e _ hx => hx.mono mm
        · have hj : j < es.length := (List.getElem?_eq_some_iff.1 h2).1
          exact fin _ (run_delete ht hd hs.1 hb h4) fun mm => by rw [h7]; exact he.erase mm hj
      · cases h
    · cases h
  · cases h

/-! ### A new map; how many entries -/

theorem IOper_makeMap {o : Oper} {K : IV → IHeap → Prop} {Qp : List PanicEntry → IHeap → Prop} {t : TypeId} (ho : o.op = .makeMap t none) (hK : K (.mp H.next) (H.new (.map []))) : IOper P N o tm H K Qp := by
  obtain ⟨dst, op, type, pos, after, guard⟩ := o
  simp only at ho
  subst ho
  refine IOper_of (by simp) fun w g a sm ra hN => ?_
  have hn := sm.new (w' := w.alloc (.map #[] 0)) (.map (some w.heap.size)) (.map []) (by simp) rfl rfl rfl (fun b hb => by rw [alloc_get, if_neg (by omega)]) (fun b hb => by simp only [blk, Option.some.injEq] at hb; subst hb; simp)
    (fun g' m _ => ⟨w.heap.size, #[], 0, rfl, by rw [alloc_get, if_pos rfl], by simp, fun i me e h1 h2 => by simp at h2, by simp, by simp, by simp⟩)
  refine ⟨.map (some w.heap.size), _, _, _, _, .inl ?_, hn.2, hn.1, ?_, hK⟩
  · simp [execOp, Instr.makeMap]
  · refine .mp _ _ (by simp [Gs.put]) ⟨_, rfl⟩ fun s' _ _ => by simp [Gs.put]

def lnX (P : Program) (H : IHeap) (t : TypeId) (x : IV) : Option (Prop × IV) :=
  match P.underlying t, x with
  | some (.map _ _), .mp m =>
    match H.obj m with
    | some (.map es) => some (True, .v (.int .i64 es.length))
    | _ => none
  | _, _ => none

theorem IOper_lenMap {o : Oper} {K : IV → IHeap → Prop} {Qp : List PanicEntry → IHeap → Prop} {t : TypeId} {x : Operand} {s : Prop} {r : IV} (ho : o.op = .call { callee := .builtin .len, args := #[x], argTypes := #[t] }) (hok : okO N o = true)
    (h : lnX P H t (ev tm x) = some (s, r)) (hK : K r H) : IOper P N o tm H K Qp := by
  obtain ⟨dst, op, type, pos, after, guard⟩ := o
  simp only at ho
  subst ho
  refine IOper_of (by simp) fun w g a sm ra hN => ?_
  subst hN
  simp [okO, Op.operands, Call.operands] at hok
  have rx := ra.ev (x := x) hok.1
  unfold lnX at h
  split at h
  · rename_i kt et m ht hx
    split at h
    · rename_i es hm
      simp only [Option.some.injEq, Prod.mk.injEq] at h
      obtain ⟨_, rfl⟩ := h
      rw [hx] at rx
      obtain ⟨b, ents, clock, hxe, hmu, hb, he⟩ := sm.map_in (.inl hm) rx
      have hg : (getObj b).run P w = .ok (.map ents clock) w := by simp [getObj, Sem.run, hb]
      refine ⟨.int .i64 es.length, w, g, H, _, .inl ?_, .refl w g, sm, .v _, hK⟩
      have hl : (Builtin.len_ #[t] type #[.map (some b)]).run P w = .ok (.int .i64 es.length) w := by
        unfold Builtin.len_
        simp only [List.getElem?_toArray, List.getElem?_cons_zero, Sem.run_bind, run_underlying ht, Result.andThen_ok, hg, Sem.run_pure, goInt, he.size]
      simp [execOp, resolve, Deferred.ofValue, invoke, builtin, hxe, hl]
    · cases h
  · cases h

end Go.Idl

namespace Go.Idl

open Go Go.RowKit

variable {P : Program} {N : Nat} {tm : Tm} {H : IHeap}

/-! ### One operation -/

def liftP (x : Option (Prop × IV)) (H : IHeap) : Option (Prop × IV × IHeap) :=
  match x with
  | some (s, r) => some (s, r, H)
  | none => none

def bindE (x : Option (Prop × IV × IHeap)) (K : IV → IHeap → Prop) (alt : Prop) : Prop :=
  match x with
  | some (s, r, H) => s ∧ K r H
  | none => alt

def callE (x : Option (FuncId × List IV)) (A : FuncId → List IV → Prop) (alt : Prop) : Prop :=
  match x with
  | some (f, cap) => A f cap
  | none => alt

def ldX (P : Program) (H : IHeap) (t : TypeId) (x : IV) : Option (Prop × IV) :=
  match x with
  | .p k off => ldN P H t (.p k off)
  | .pr k n off => ldN P H t (.pr k n off)
  | y => ldP P t y

def stX (P : Program) (H : IHeap) (t : TypeId) (x y : IV) : Option (Prop × IV × IHeap) :=
  match x with
  | .p k off =>
    match H.obj k, cellsI y with
    | some (.cells cs), some vc => some (Side (vc.length = P.cellsOf t) ∧ Side (0 < P.cellsOf t) ∧ Side (off + vc.length ≤ cs.length), .v undef, H.set k (.cells (putL cs vc off)))
    | some (.ty T (.cells cs)), some vc => some (Side (vc.length = P.cellsOf t) ∧ Side (0 < P.cellsOf t) ∧ Side (off + vc.length ≤ cs.length), .v undef, H.set k (.ty T (.cells (putL cs vc off))))
    | _, _ => none
  | .pr k n off =>
    match H.obj k, cellsI y with
    | some (.row sz es), some vc => some (Side (es.length = n) ∧ Side (vc.length = P.cellsOf t) ∧ Side (0 < P.cellsOf t) ∧ Side (off % sz + vc.length ≤ sz) ∧ Side (off < es.length * sz), .v undef, H.set k (.row sz (rowPut sz es vc off)))
    | _, _ => none
  | _ => none

def ixX (P : Program) (H : IHeap) (t : TypeId) (x i : IV) : Option (Prop × IV) :=
  match x with
  | .os k n =>
    match P.underlying t, H.obj k, i with
    | some (.slice e), some (.row _ es), .v (.int _ m) => some (Side (es.length = n) ∧ Side (0 < P.cellsOf e) ∧ Side (0 ≤ m) ∧ Side (m < n), .pr k n (m.toNat * P.cellsOf e))
    | _, _, _ => none
  | y => ixP P (P.underlying t) y i

def alX (P : Program) (H : IHeap) (t : TypeId) : Option (Prop × IV × IHeap) :=
  match zeroOf P t with
  | some z => if z.cells.toList.all (·.oneCell') = true then some (True, .p H.next 0, H.new (tyB P t (.cells (z.cells.toList.map .v)))) else none
  | none => none

def bxX (H : IHeap) (x : IV) : Option (Prop × IV × IHeap) :=
  match cellsI x with
  | some cs => some (True, .p H.next 0, H.new (.cells cs))
  | none => none

def bzI (n : Nat) (x : Option (Nat × List IV)) : Option (Prop × IV) :=
  match x with
  | some (sz, rs) => some (True, .sl sz (chunks sz n rs))
  | none => none

def cmX (P : Program) (H : IHeap) (b : Builtin) (l ts : List IV) (ats : List TypeId) : Option (Prop × IV × IHeap) :=
  match b, l, ats with
  | .delete, [x, i], [t, _] => dlX P H t x i
  | .len, [x], [t] => match lenP (P.underlying t) x with | some (s, r) => some (s, r, H) | none => liftP (lnX P H t x) H
  | _, _, _ => none

def efX (P : Program) (H : IHeap) (tm : Tm) (op : Op) : Option (Prop × IV × IHeap) :=
  match op with
  | .alloc t => alX P H t
  | .box _ x => bxX H (ev tm x)
  | .load t x => liftP (ldX P H t (ev tm x)) H
  | .store t x y => stX P H t (ev tm x) (ev tm y)
  | .indexAddr t x i => liftP (ixX P H t (ev tm x) (ev tm i)) H
  | .buildSlice t (n + 1) ps => liftP (bzI (n + 1) (bsI P t (n + 1) (ps.toList.map fun q => (q.1, ev tm q.2)))) H
  | .lookup t x i ok => liftP (lkX P H t (ev tm x) (ev tm i) ok) H
  | .mapUpdate t x i y => muX P H t (ev tm x) (ev tm i) (ev tm y)
  | .insert t x i y => muX P H t (ev tm x) (ev tm i) (ev tm y)
  | .makeMap _ none => some (True, .mp H.next, H.new (.map []))
  | .call ⟨.builtin b, l, ats⟩ => cmX P H b (l.toList.map (ev tm)) [] ats.toList
  | op => liftP (evP P tm op) H

theorem IOper_load2 {o : Oper} {K : IV → IHeap → Prop} {Qp : List PanicEntry → IHeap → Prop} {t : TypeId} {x : Operand} {s : Prop} {r : IV} (ho : o.op = .load t x) (hok : okO N o = true)
    (h : ldX P H t (ev tm x) = some (s, r)) (hs : s) (hk : K r H) : IOper P N o tm H K Qp := by
  have alt : ldP P t (ev tm x) = some (s, r) → IOper P N o tm H K Qp := fun h => IOper_evP hok (by rw [ho]; exact h) hs hk
  cases hx : ev tm x <;> rw [hx] at h alt
  case p k off => exact IOper_load ho hok (by rw [hx]; exact h) hs hk
  case pr k n off => exact IOper_load ho hok (by rw [hx]; exact h) hs hk
  all_goals exact alt h

theorem efX_sound {o : Oper} {K : IV → IHeap → Prop} {Qp : List PanicEntry → IHeap → Prop} {s : Prop} {r : IV} {H' : IHeap} (hok : okO N o = true) (h : efX P H tm o.op = some (s, r, H')) (hs : s) (hk : K r H') : IOper P N o tm H K Qp := by
  have pure' : liftP (evP P tm o.op) H = some (s, r, H') → IOper P N o tm H K Qp := by
    intro h
    unfold liftP at h
    split at h
    · rename_i s' r' he
      simp only [Option.some.injEq, Prod.mk.injEq] at h
      obtain ⟨rfl, rfl, rfl⟩ := h
      exact IOper_evP hok he hs hk
    · cases h
  cases ho : o.op <;> rw [ho] at h pure'
  case alloc t =>
    simp only [efX, alX] at h
    split at h
    · rename_i z hz
      split at h
      · rename_i hone
        simp only [Option.some.injEq, Prod.mk.injEq] at h
        obtain ⟨_, rfl, rfl⟩ := h
        exact IOper_alloc ho hz hone hk
      · cases h
    · cases h
  case box t x =>
    simp only [efX, bxX] at h
    split at h
    · rename_i cs hc
      simp only [Option.some.injEq, Prod.mk.injEq] at h
      obtain ⟨_, rfl, rfl⟩ := h
      exact IOper_box ho hok hc hk
    · cases h
  case load t x =>
    simp only [efX, liftP] at h
    split at h
    · rename_i s' r' hl
      simp only [Option.some.injEq, Prod.mk.injEq] at h
      obtain ⟨rfl, rfl, rfl⟩ := h
      exact IOper_load2 ho hok hl hs hk
    · cases h
  case store t x y =>
    simp only [efX, stX] at h
    split at h
    · rename_i k off hx
      split at h
      · rename_i cs vc hk' hv
        simp only [Option.some.injEq, Prod.mk.injEq] at h
        obtain ⟨rfl, rfl, rfl⟩ := h
        exact IOper_store ho hok hx hk' hv hs.1 hs.2.1 hs.2.2 hk
      · rename_i T cs vc hk' hv
        simp only [Option.some.injEq, Prod.mk.injEq] at h
        obtain ⟨rfl, rfl, rfl⟩ := h
        exact IOper_storeT ho hok hx hk' hv hs.1 hs.2.1 hs.2.2 hk
      · cases h
    · rename_i k n off hx
      split at h
      · rename_i sz es vc hk' hv
        simp only [Option.some.injEq, Prod.mk.injEq] at h
        obtain ⟨rfl, rfl, rfl⟩ := h
        exact IOper_storeR ho hok hx hk' hs.1 hv hs.2.1 hs.2.2.1 hs.2.2.2.1 hs.2.2.2.2 hk
      · cases h
    · cases h
  case indexAddr t x i =>
    simp only [efX, liftP] at h
    split at h
    · rename_i s' r' hl
      simp only [Option.some.injEq, Prod.mk.injEq] at h
      obtain ⟨rfl, rfl, rfl⟩ := h
      unfold ixX at hl
      split at hl
      · rename_i k n hx
        split at hl
        · rename_i e sz es kk m hu hk' hi
          simp only [Option.some.injEq, Prod.mk.injEq] at hl
          obtain ⟨rfl, rfl⟩ := hl
          exact IOper_ixos ho hok hu hx hi hk' hs.1 hs.2.1 hs.2.2.1 hs.2.2.2 hk
        · cases hl
      · exact IOper_evP hok (by rw [ho]; exact hl) hs hk
    · cases h
  case buildSlice t n ps =>
    cases n with
    | zero => exact pure' h
    | succ n =>
      simp only [efX, liftP] at h
      split at h
      · rename_i s' r' hl
        simp only [Option.some.injEq, Prod.mk.injEq] at h
        obtain ⟨rfl, rfl, rfl⟩ := h
        unfold bzI at hl
        split at hl
        · rename_i sz rs hb
          simp only [Option.some.injEq, Prod.mk.injEq] at hl
          obtain ⟨_, rfl⟩ := hl
          exact IOper_buildSlice ho hok hb hk
        · cases hl
      · cases h
  case lookup t x i k =>
    simp only [efX, liftP] at h
    split at h
    · rename_i s' r' hl
      simp only [Option.some.injEq, Prod.mk.injEq] at h
      obtain ⟨rfl, rfl, rfl⟩ := h
      exact IOper_lookup ho hok hl hs hk
    · cases h
  case mapUpdate t x i y =>
    simp only [efX] at h
    exact IOper_mapUpdate ho hok h hs hk
  case insert t x i y =>
    simp only [efX] at h
    exact IOper_insert ho hok h hs hk
  case makeMap t m =>
    cases m with
    | none =>
      simp only [efX, Option.some.injEq, Prod.mk.injEq] at h
      obtain ⟨rfl, rfl, rfl⟩ := h
      exact IOper_makeMap ho hk
    | some m => exact pure' h
  case call c =>
    obtain ⟨ce, l, ats⟩ := c
    cases ce with
    | builtin b =>
      simp only [efX, cmX] at h
      split at h
      · rename_i x i t t' h1 h2
        obtain ⟨ox, oi, rfl, rfl, rfl⟩ : ∃ ox oi, l = #[ox, oi] ∧ ev tm ox = x ∧ ev tm oi = i := by
          obtain ⟨l⟩ := l
          match l, h1 with
          | [p, q], h1 => simp at h1; exact ⟨p, q, rfl, h1.1, h1.2⟩
        have e2 : ats = #[t, t'] := Array.toList_inj.1 h2
        subst e2
        exact IOper_delete ho hok h hs hk
      · rename_i x t h1 h2
        obtain ⟨ox, rfl, rfl⟩ : ∃ ox, l = #[ox] ∧ ev tm ox = x := by
          obtain ⟨l⟩ := l
          match l, h1 with
          | [p], h1 => simp at h1; exact ⟨p, rfl, h1⟩
        have e2 : ats = #[t] := Array.toList_inj.1 h2
        subst e2
        split at h
        · rename_i s' r' hl
          simp only [Option.some.injEq, Prod.mk.injEq] at h
          obtain ⟨rfl, rfl, rfl⟩ := h
          exact IOper_evP hok (by rw [ho]; exact hl) hs hk
        · unfold liftP at h
          split at h
          · rename_i s' r' hl
            simp only [Option.some.injEq, Prod.mk.injEq] at h
            obtain ⟨rfl, rfl, rfl⟩ := h
            exact IOper_lenMap ho hok hl hk
          · cases h
      · cases h
    | _ => exact pure' h
  all_goals exact pure' h

def splitB (x : IV) (K : Bool → Prop) : Prop :=
  match x with
  | .v (.bool c) => (c = true → K true) ∧ (c = false → K false)
  | _ => False

def splitG (x : IV) (K : Bool → Prop) (sk : Tm → Prop) (tm : Tm) : Prop :=
  match x with
  | .v (.bool c) => (c = true → K true) ∧ (c = false → K false)
  | .v _ => sk tm
  | _ => False

def pickB (c b : Bool) (x y : Prop) : Prop := if c = b then x else y

def vcOp (P : Program) (N : Nat) (o : Oper) (tm : Tm) (H : IHeap) (K : IV → IHeap → Prop) (Qp : List PanicEntry → IHeap → Prop) : Prop :=
  match o.op with
  | .call { callee := .value x, args, .. } => callE (fnP (ev tm x)) (fun f cap => ICalls P f (args.toList.map (ev tm) ++ cap) H (callQ K Qp)) (IOper P N o tm H K Qp)
  | .call { callee := .builtin .append, args, argTypes, .. } =>
    match args.toList, argTypes.toList with
    | [x, y], [t, t'] => bindE (apI P H t t' (ev tm x) (ev tm y)) K (IOper P N o tm H K Qp)
    | _, _ => IOper P N o tm H K Qp
  | .pick c a b => splitB (ev tm c) fun q => pickB q true (K (ev tm a) H) (K (ev tm b) H)
  | op => bindE (efX P H tm op) K (IOper P N o tm H K Qp)

theorem vcOp_sound {o : Oper} {K : IV → IHeap → Prop} {Qp : List PanicEntry → IHeap → Prop} (hok : okO N o = true) (h : vcOp P N o tm H K Qp) : IOper P N o tm H K Qp := by
  unfold vcOp at h
  split at h
  · rename_i x args ats ho
    unfold callE at h
    split at h
    · rename_i f cap hf
      exact IOper_call ho hok hf h
    · exact h
  · rename_i args ats ho
    split at h
    · rename_i x y t t' h1 h2
      unfold bindE at h
      split at h
      · rename_i s r H' he
        have e1 : args = #[x, y] := Array.toList_inj.1 h1
        have e2 : ats = #[t, t'] := Array.toList_inj.1 h2
        subst e1
        subst e2
        exact IOper_append ho hok he h.1 h.2
      · exact h
    · exact h
  · rename_i c a b ho
    unfold splitB at h
    split at h
    · rename_i q hq
      cases q with
      | true =>
        have h2 := h.1 rfl
        refine IOper_evP hok (i := ev tm a) (s := True) ?_ trivial (by simpa [pickB] using h2)
        rw [ho]
        simp [evP, hq]
      | false =>
        have h2 := h.2 rfl
        refine IOper_evP hok (i := ev tm b) (s := True) ?_ trivial (by simpa [pickB] using h2)
        rw [ho]
        simp [evP, hq]
    · exact h.elim
  · unfold bindE at h
    split at h
    · rename_i s r H' he
      exact efX_sound hok he h.1 h.2
    · exact h

/-! ### Operations in a row -/

def vcG (full : Array Oper) (o : Oper) (tm : Tm) (run skip : Tm → Prop) : Prop :=
  match o.guard with
  | none => run tm
  | some (j, b) =>
    match (full[j]?).bind (·.dst) with
    | some d => splitG (tm d) (fun c => pickB c b (run (upd tm d (.v (.bool c)))) (skip (upd tm d (.v (.bool c))))) skip tm
    | none => False

def vcOps (P : Program) (N : Nat) (full : Array Oper) : List Oper → (Exit → Tm → IHeap → Prop) → Tm → IHeap → Prop
  | [], Q, tm, H => Q .normal tm H
  | o :: l, Q, tm, H => vcG full o tm
      (fun tm => vcOp P N o tm H (fun x H' => vcOps P N full l Q (updO tm o.dst x) H') (fun ch H' => Q (.panic ch) tm H'))
      (fun tm => vcOps P N full l Q (updO tm o.dst (.v undef)) H)

theorem upd_self {d : Nat} {x : IV} (h : tm d = x) : upd tm d x = tm := by
  funext i
  unfold upd
  split
  · rename_i e; rw [e, h]
  · rfl

theorem vcOps_sound {full : Array Oper} (hok : full.toList.all (okO N) = true) {Q : Exit → Tm → IHeap → Prop} : ∀ (l : List Oper) (i : Nat) (tm : Tm) (H : IHeap), (∀ (j : Nat) (o : Oper), l[j]? = some o → full[i + j]? = some o) →
    vcOps P N full l Q tm H → IOps P N full (List.range' i l.length) Q tm H
  | [], i, tm, H, _, h => IOps_nil h
  | o :: l, i, tm, H, hl, h => by
    have ho : full[i]? = some o := hl 0 o rfl
    have hl' : ∀ (j : Nat) (o : Oper), l[j]? = some o → full[i + 1 + j]? = some o := fun j o' h => by
      have := hl (j + 1) o' (by simpa using h)
      rwa [show i + (j + 1) = i + 1 + j by omega] at this
    have hall := List.all_eq_true.1 hok
    have hoo : okO N o = true := hall o (by rw [Array.mem_toList_iff]; exact Array.mem_of_getElem? ho)
    have run : (∀ (w : World) (g : Gs) (a : Act), RA w g a tm → a.tmps.size = N → Region.wanted o (yielded full a.tmps) = true) →
        vcOp P N o tm H (fun x H' => vcOps P N full l Q (updO tm o.dst x) H') (fun ch H' => Q (.panic ch) tm H') → IOps P N full (i :: List.range' (i + 1) l.length) Q tm H := fun hg h =>
      IOps_run ho hg ((vcOp_sound hoo h).mono (fun x H' h => vcOps_sound hok l (i + 1) _ _ hl' h) fun _ _ h => h)
    have skip : (∀ (w : World) (g : Gs) (a : Act), RA w g a tm → a.tmps.size = N → Region.wanted o (yielded full a.tmps) = false) →
        vcOps P N full l Q (updO tm o.dst (.v undef)) H → IOps P N full (i :: List.range' (i + 1) l.length) Q tm H := fun hg h =>
      IOps_skip ho hg (vcOps_sound hok l (i + 1) _ _ hl' h)
    show IOps P N full (i :: List.range' (i + 1) l.length) Q tm H
    unfold vcOps vcG at h
    split at h
    · rename_i hgd
      exact run (fun w g a r hN => by simp [Region.wanted, hgd]) h
    · rename_i j b hgd
      split at h
      · rename_i d hd
        have hdN : d < N := by
          rw [Option.bind_eq_some_iff] at hd
          obtain ⟨o', h1, h2⟩ := hd
          have := hall o' (by rw [Array.mem_toList_iff]; exact Array.mem_of_getElem? h1)
          simp only [okO, h2, Bool.and_eq_true, decide_eq_true_eq] at this
          exact this.2
        unfold splitG at h
        split at h
        · rename_i c hc
          have hy : ∀ (w : World) (g : Gs) (a : Act), RA w g a tm → a.tmps.size = N → yielded full a.tmps j = some c := by
            intro w g a r hN
            have h1 := r d (by rw [hN]; exact hdN)
            rw [hc] at h1
            have h2 := h1.v_eq
            have h3 : a.tmps[d]? = some (.bool c) := by
              have hlt : d < a.tmps.size := by rw [hN]; exact hdN
              rw [Array.getElem?_eq_getElem hlt]
              simpa [hlt] using h2
            simp [yielded, hd, h3]
          have hw : ∀ (w : World) (g : Gs) (a : Act), RA w g a tm → a.tmps.size = N → Region.wanted o (yielded full a.tmps) = (c == b) := by
            intro w g a r hN
            simp [Region.wanted, hgd, hy w g a r hN]
          have key : pickB c b (vcOp P N o tm H (fun x H' => vcOps P N full l Q (updO tm o.dst x) H') (fun ch H' => Q (.panic ch) tm H')) (vcOps P N full l Q (updO tm o.dst (.v undef)) H) := by
            cases c with
            | true =>
              have := h.1 rfl
              dsimp only at this
              rwa [upd_self hc] at this
            | false =>
              have := h.2 rfl
              dsimp only at this
              rwa [upd_self hc] at this
          unfold pickB at key
          split at key
          · rename_i e
            exact run (fun w g a r hN => by rw [hw w g a r hN]; simp [e]) key
          · rename_i e
            exact skip (fun w g a r hN => by rw [hw w g a r hN]; simp [e]) key
        · rename_i y hne hc
          refine skip (fun w g a r hN => ?_) h
          have h1 := r d (by rw [hN]; exact hdN)
          rw [hc] at h1
          have h2 := h1.v_eq
          have hlt : d < a.tmps.size := by rw [hN]; exact hdN
          have h3 : a.tmps[d]? = some y := by
            rw [Array.getElem?_eq_getElem hlt]
            simpa [hlt] using h2
          have h4 : yielded full a.tmps j = none := by
            simp only [yielded, hd, Option.bind_some, h3]
            split
            · rename_i c e
              cases e
              exact (hne c rfl).elim
            · rfl
          simp [Region.wanted, hgd, h4]
        · exact h.elim
      · exact h.elim

/-! ### Code -/

def condE (x : IV) (a b : Prop) : Prop :=
  match x with
  | .v (.bool c) => (c = true → a) ∧ (c = false → b)
  | _ => False

def vcLoop (P : Program) (N : Nat) (c : Code) (Q : Exit → Tm → IHeap → Prop) (tm : Tm) (H : IHeap) : Prop :=
  ∃ (I : Tm → IHeap → Prop) (μ : Tm → IHeap → Nat), UpI I tm H ∧ ∀ tm H, I tm H → IWp P N c (thenQ (Up I μ (μ tm H)) Q) tm H

def vc (P : Program) (N : Nat) : Code → (Exit → Tm → IHeap → Prop) → Tm → IHeap → Prop
  | .skip, Q, tm, H => Q .normal tm H
  | .label _, Q, tm, H => Q .normal tm H
  | .exit id, Q, tm, H => Q (.exit id) tm H
  | .goto l, Q, tm, H => Q (.goto l) tm H
  | .ret, Q, tm, H => Q .ret tm H
  | .seq a b, Q, tm, H => vc P N a (thenQ (vc P N b Q) Q) tm H
  | .region id ops draw, Q, tm, H => match draw with | true => IWp P N (.region id ops true) Q tm H | false => vcOps P N ops ops.toList Q tm H
  | .cond c x y, Q, tm, H => condE (ev tm c) (vc P N x Q tm H) (vc P N y Q tm H)
  | .block id c, Q, tm, H => vc P N c (blockQ id Q) tm H
  | .loop c, Q, tm, H => vcLoop P N c Q tm H
  | c, Q, tm, H => IWp P N c Q tm H

def fitC (N : Nat) : Code → Bool
  | .seq a b => fitC N a && fitC N b
  | .region _ ops draw => match draw with | true => true | false => ops.toList.all (okO N)
  | .cond c x y => opd N c && fitC N x && fitC N y
  | .block _ c => fitC N c
  | .loop c => fitC N c
  | _ => true

theorem vc_sound : ∀ (c : Code), fitC N c = true → ∀ (Q : Exit → Tm → IHeap → Prop) (tm : Tm) (H : IHeap), vc P N c Q tm H → IWp P N c Q tm H
  | .skip, _, Q, tm, H, h => IWp_skip h
  | .label _, _, Q, tm, H, h => IWp_label h
  | .exit _, _, Q, tm, H, h => IWp_exit h
  | .goto _, _, Q, tm, H, h => IWp_goto h
  | .ret, _, Q, tm, H, h => IWp_ret h
  | .seq a b, hf, Q, tm, H, h => by
    simp only [fitC, Bool.and_eq_true] at hf
    refine IWp_seq ((vc_sound a hf.1 _ tm H h).mono fun e tm' H' q => ?_)
    cases e with
    | normal => exact vc_sound b hf.2 Q tm' H' q
    | _ => exact q
  | .region id ops true, _, Q, tm, H, h => h
  | .region id ops false, hf, Q, tm, H, h => by
    refine IWp_region ?_
    have := vcOps_sound (full := ops) hf ops.toList 0 tm H (fun j o ho => by simpa using ho) h
    rwa [List.range_eq_range', ← Array.length_toList]
  | .cond c x y, hf, Q, tm, H, h => by
    simp only [fitC, Bool.and_eq_true] at hf
    unfold vc condE at h
    split at h
    · rename_i b hb
      exact IWp_cond hb hf.1.1 (fun e => vc_sound x hf.1.2 Q tm H (h.1 e)) (fun e => vc_sound y hf.2 Q tm H (h.2 e))
    · exact h.elim
  | .block id c, hf, Q, tm, H, h => IWp_block (vc_sound c hf _ tm H h)
  | .loop c, hf, Q, tm, H, ⟨I, μ, h0, h1⟩ => IWp_loop' I μ h0 h1
  | .rangeFunc .., _, Q, tm, H, h => h
  | .scope _, _, Q, tm, H, h => h
  | .refuse _, _, Q, tm, H, h => h

theorem ICalls_of_vc {f : FuncId} {fn : Func} {c : Code} {args : List IV} {Q : IEnd → IHeap → Prop} (hf : P.funcs[f]? = some fn) (hbd : hasBody P f = true) (hb : fn.body = some c) (hN : fn.ntmps = N)
    (hn : (args.length ≤ N ∧ fn.results.toList.all (rvN N) = true ∧ fitC N c = true))
    (h : H.Wf → vc P N c (retQ P fn.results.toList H Q) (tm0 args) H) : ICalls P f args H Q := by
  subst hN
  exact ICalls_of_IWp hbd hf hb hn.1 hn.2.1 fun hw => vc_sound c hn.2.2 _ _ _ (h hw)

end Go.Idl

namespace Go.Idl

open Go Go.RowKit

variable {P : Program} {N : Nat} {tm : Tm} {H : IHeap}

/-! ### How it goes on: no term of these is told before it is asked -/

def condK (x : IV) (a b : Tm → IHeap → Prop) (tm : Tm) (H : IHeap) : Prop := condE x (a tm H) (b tm H)

def kNext (P : Program) (N : Nat) (full : Array Oper) (l : List Oper) (Q : Exit → Tm → IHeap → Prop) (d : Option Tmp) (tm : Tm) : IV → IHeap → Prop := fun x H' => vcOps P N full l Q (updO tm d x) H'

def kPan (Q : Exit → Tm → IHeap → Prop) (tm : Tm) : List PanicEntry → IHeap → Prop := fun ch H' => Q (.panic ch) tm H'

def kRun (P : Program) (N : Nat) (full : Array Oper) (o : Oper) (l : List Oper) (Q : Exit → Tm → IHeap → Prop) (H : IHeap) : Tm → Prop := fun tm => vcOp P N o tm H (kNext P N full l Q o.dst tm) (kPan Q tm)

def kSkip (P : Program) (N : Nat) (full : Array Oper) (d : Option Tmp) (l : List Oper) (Q : Exit → Tm → IHeap → Prop) (H : IHeap) : Tm → Prop := fun tm => vcOps P N full l Q (updO tm d (.v undef)) H

def kGuard (b : Bool) (d : Tmp) (tm : Tm) (run skip : Tm → Prop) : Bool → Prop := fun c => pickB c b (run (upd tm d (.v (.bool c)))) (skip (upd tm d (.v (.bool c))))

def kPick (K : IV → IHeap → Prop) (x y : IV) (H : IHeap) : Bool → Prop := fun q => pickB q true (K x H) (K y H)

def kCall (P : Program) (args : List IV) (H : IHeap) (K : IV → IHeap → Prop) (Qp : List PanicEntry → IHeap → Prop) : FuncId → List IV → Prop := fun f cap => ICalls P f (args ++ cap) H (callQ K Qp)

/-! ### Code -/

section

variable {Q : Exit → Tm → IHeap → Prop}

@[go_sem] theorem vc_skip : vc P N .skip Q tm H = Q .normal tm H := rfl

@[go_sem] theorem vc_label {l : Nat} : vc P N (.label l) Q tm H = Q .normal tm H := rfl

@[go_sem] theorem vc_exit {l : Nat} : vc P N (.exit l) Q tm H = Q (.exit l) tm H := rfl

@[go_sem] theorem vc_goto {l : Nat} : vc P N (.goto l) Q tm H = Q (.goto l) tm H := rfl

@[go_sem] theorem vc_ret : vc P N .ret Q tm H = Q .ret tm H := rfl

@[go_sem] theorem vc_seq {a b : Code} : vc P N (.seq a b) Q tm H = vc P N a (thenQ (vc P N b Q) Q) tm H := rfl

@[go_sem] theorem vc_region {id : Nat} {l : List Oper} : vc P N (.region id ⟨l⟩ false) Q tm H = vcOps P N ⟨l⟩ l Q tm H := rfl

@[go_sem] theorem vc_draw {id : Nat} {l : Array Oper} : vc P N (.region id l true) Q tm H = IWp P N (.region id l true) Q tm H := rfl

@[go_sem] theorem vc_cond {c : Operand} {x y : Code} : vc P N (.cond c x y) Q tm H = condK (ev tm c) (vc P N x Q) (vc P N y Q) tm H := rfl

@[go_sem] theorem vc_block {id : Nat} {c : Code} : vc P N (.block id c) Q tm H = vc P N c (blockQ id Q) tm H := rfl

@[go_sem] theorem vc_loop {c : Code} : vc P N (.loop c) Q tm H = vcLoop P N c Q tm H := rfl

@[go_sem] theorem vc_rangeFunc {f : Operand} {ps : Array Tmp} {a b : Code} : vc P N (.rangeFunc f ps a b) Q tm H = IWp P N (.rangeFunc f ps a b) Q tm H := rfl

@[go_sem] theorem vc_scope {c : Code} : vc P N (.scope c) Q tm H = IWp P N (.scope c) Q tm H := rfl

variable {K : Tm → IHeap → Prop}

@[go_sem] theorem thenQ_normal : thenQ K Q .normal tm H = K tm H := rfl

@[go_sem] theorem thenQ_exit {l : Nat} : thenQ K Q (.exit l) tm H = Q (.exit l) tm H := rfl

@[go_sem] theorem thenQ_goto {l : Nat} : thenQ K Q (.goto l) tm H = Q (.goto l) tm H := rfl

@[go_sem] theorem thenQ_ret : thenQ K Q .ret tm H = Q .ret tm H := rfl

@[go_sem] theorem thenQ_panic {c : List PanicEntry} : thenQ K Q (.panic c) tm H = Q (.panic c) tm H := rfl

@[go_sem] theorem blockQ_normal {id : Nat} : blockQ id Q .normal tm H = Q .normal tm H := rfl

@[go_sem] theorem blockQ_exit {id : Nat} : blockQ id Q (.exit id) tm H = Q .normal tm H := by simp [blockQ]

@[go_sem] theorem blockQ_goto {id l : Nat} : blockQ id Q (.goto l) tm H = Q (.goto l) tm H := rfl

@[go_sem] theorem blockQ_ret {id : Nat} : blockQ id Q .ret tm H = Q .ret tm H := rfl

@[go_sem] theorem blockQ_panic {id : Nat} {c : List PanicEntry} : blockQ id Q (.panic c) tm H = Q (.panic c) tm H := rfl

/-! ### Operations -/

@[go_sem] theorem vcOps_nil {full : Array Oper} : vcOps P N full [] Q tm H = Q .normal tm H := rfl

@[go_sem] theorem vcOps_cons {full : Array Oper} {d : Option Tmp} {op : Op} {t : TypeId} {p : String} {af : Array Edge} {l : List Oper} :
    vcOps P N full (⟨d, op, t, p, af, none⟩ :: l) Q tm H = vcOp P N ⟨d, op, t, p, af, none⟩ tm H (kNext P N full l Q d tm) (kPan Q tm) := rfl

@[go_sem] theorem kNext_app {full : Array Oper} {l : List Oper} {d : Option Tmp} {x : IV} : kNext P N full l Q d tm x H = vcOps P N full l Q (updO tm d x) H := rfl

@[go_sem] theorem kPan_app {c : List PanicEntry} : kPan Q tm c H = Q (.panic c) tm H := rfl

def dstOf (l : List Oper) (j : Nat) : Option Tmp := (l[j]?).bind (·.dst)

def vcH (d : Option Tmp) (b : Bool) (tm : Tm) (run skip : Tm → Prop) : Prop :=
  match d with
  | some d => splitG (tm d) (kGuard b d tm run skip) skip tm
  | none => False

@[go_sem] theorem vcOps_guard {full : List Oper} {d : Option Tmp} {op : Op} {t : TypeId} {p : String} {af : Array Edge} {j : Nat} {b : Bool} {l : List Oper} :
    vcOps P N ⟨full⟩ (⟨d, op, t, p, af, some (j, b)⟩ :: l) Q tm H = vcH (dstOf full j) b tm (kRun P N ⟨full⟩ ⟨d, op, t, p, af, some (j, b)⟩ l Q H) (kSkip P N ⟨full⟩ d l Q H) := by
  show vcG ⟨full⟩ ⟨d, op, t, p, af, some (j, b)⟩ tm (kRun P N ⟨full⟩ ⟨d, op, t, p, af, some (j, b)⟩ l Q H) (kSkip P N ⟨full⟩ d l Q H) = vcH ((full[j]?).bind (·.dst)) b tm _ _
  unfold vcG vcH
  simp only [List.getElem?_toArray]
  cases (full[j]?).bind (·.dst) <;> rfl

@[go_sem] theorem kRun_app {full : Array Oper} {o : Oper} {l : List Oper} : kRun P N full o l Q H tm = vcOp P N o tm H (kNext P N full l Q o.dst tm) (kPan Q tm) := rfl

@[go_sem] theorem kSkip_app {full : Array Oper} {d : Option Tmp} {l : List Oper} : kSkip P N full d l Q H tm = vcOps P N full l Q (updO tm d (.v undef)) H := rfl

end

@[go_sem] theorem dstOf_zero {o : Oper} {l : List Oper} : dstOf (o :: l) 0 = o.dst := rfl

@[go_sem] theorem dstOf_succ {o : Oper} {l : List Oper} {j : Nat} : dstOf (o :: l) (j + 1) = dstOf l j := rfl

@[go_sem] theorem vcH_some {d : Tmp} {b : Bool} {run skip : Tm → Prop} : vcH (some d) b tm run skip = splitG (tm d) (kGuard b d tm run skip) skip tm := rfl

@[go_sem] theorem kGuard_tt {d : Tmp} {run skip : Tm → Prop} : kGuard true d tm run skip true = run (upd tm d (.v (.bool true))) := by simp [kGuard, pickB]

@[go_sem] theorem kGuard_tf {d : Tmp} {run skip : Tm → Prop} : kGuard true d tm run skip false = skip (upd tm d (.v (.bool false))) := by simp [kGuard, pickB]

@[go_sem] theorem kGuard_ft {d : Tmp} {run skip : Tm → Prop} : kGuard false d tm run skip true = skip (upd tm d (.v (.bool true))) := by simp [kGuard, pickB]

@[go_sem] theorem kGuard_ff {d : Tmp} {run skip : Tm → Prop} : kGuard false d tm run skip false = run (upd tm d (.v (.bool false))) := by simp [kGuard, pickB]

@[go_sem] theorem kPick_true {K : IV → IHeap → Prop} {x y : IV} : kPick K x y H true = K x H := by simp [kPick, pickB]

@[go_sem] theorem kPick_false {K : IV → IHeap → Prop} {x y : IV} : kPick K x y H false = K y H := by simp [kPick, pickB]

@[go_sem] theorem kCall_app {args cap : List IV} {K : IV → IHeap → Prop} {Qp : List PanicEntry → IHeap → Prop} {f : FuncId} : kCall P args H K Qp f cap = ICalls P f (args ++ cap) H (callQ K Qp) := rfl

@[go_sem] theorem splitG_true {K : Bool → Prop} {sk : Tm → Prop} : splitG (.v (.bool true)) K sk tm = K true := by simp [splitG]

@[go_sem] theorem splitG_false {K : Bool → Prop} {sk : Tm → Prop} : splitG (.v (.bool false)) K sk tm = K false := by simp [splitG]

@[go_sem] theorem splitG_undef {K : Bool → Prop} {sk : Tm → Prop} : splitG (.v undef) K sk tm = sk tm := rfl

theorem splitG' {c : Bool} {K : Bool → Prop} {sk : Tm → Prop} (h1 : c = true → K true) (h2 : c = false → K false) : splitG (.v (.bool c)) K sk tm := ⟨h1, h2⟩

@[go_sem] theorem splitB_true {K : Bool → Prop} : splitB (.v (.bool true)) K = K true := by simp [splitB]

@[go_sem] theorem splitB_false {K : Bool → Prop} : splitB (.v (.bool false)) K = K false := by simp [splitB]

@[go_sem] theorem condK_true {a b : Tm → IHeap → Prop} : condK (.v (.bool true)) a b tm H = a tm H := by simp [condK, condE]

@[go_sem] theorem condK_false {a b : Tm → IHeap → Prop} : condK (.v (.bool false)) a b tm H = b tm H := by simp [condK, condE]

@[go_sem] theorem bindE_some {s : Prop} {r : IV} {K : IV → IHeap → Prop} {alt : Prop} : bindE (some (s, r, H)) K alt = (s ∧ K r H) := rfl

@[go_sem] theorem bindE_none {K : IV → IHeap → Prop} {alt : Prop} : bindE none K alt = alt := rfl

@[go_sem] theorem callE_some {f : FuncId} {cap : List IV} {A : FuncId → List IV → Prop} {alt : Prop} : callE (some (f, cap)) A alt = A f cap := rfl

@[go_sem] theorem callE_none {A : FuncId → List IV → Prop} {alt : Prop} : callE none A alt = alt := rfl

@[go_sem] theorem liftP_some {s : Prop} {r : IV} : liftP (some (s, r)) H = some (s, r, H) := rfl

@[go_sem] theorem liftP_none : liftP none H = none := rfl

@[go_sem] theorem callQ_ret {K : IV → IHeap → Prop} {Qp : List PanicEntry → IHeap → Prop} {r : IV} : callQ K Qp (.ret r) H = K r H := rfl

@[go_sem] theorem callQ_pan {K : IV → IHeap → Prop} {Qp : List PanicEntry → IHeap → Prop} {c : List PanicEntry} : callQ K Qp (.pan c) H = Qp c H := rfl

@[go_sem] theorem updO_some {d : Nat} {x : IV} : updO tm (some d) x = upd tm d x := rfl

@[go_sem] theorem updO_none {x : IV} : updO tm none x = tm := rfl

@[go_sem] theorem upd_app {d i : Nat} {x : IV} : upd tm d x i = if i = d then x else tm i := rfl

@[go_sem] theorem ev_tmp {t : Tmp} : ev tm (.tmp t) = tm t := rfl

@[go_sem] theorem ev_const {x : Value} : ev tm (.const x) = .v x := rfl

@[go_sem] theorem ev_func {f : FuncId} : ev tm (.func f) = .v (.func (.func f) #[] #[]) := rfl

@[go_sem] theorem ev_global {g : Nat} : ev tm (.global g) = .v (.pointer (some ⟨g, 0, none⟩)) := rfl

section

variable {d : Option Tmp} {t : TypeId} {p : String} {af : Array Edge} {gd : Option (Nat × Bool)} {K : IV → IHeap → Prop} {Qp : List PanicEntry → IHeap → Prop}

@[go_sem] theorem vcOp_call {x : Operand} {l : List Operand} {ats : Array TypeId} : vcOp P N ⟨d, .call ⟨.value x, ⟨l⟩, ats⟩, t, p, af, gd⟩ tm H K Qp =
    callE (fnP (ev tm x)) (kCall P (l.map (ev tm)) H K Qp) (IOper P N ⟨d, .call ⟨.value x, ⟨l⟩, ats⟩, t, p, af, gd⟩ tm H K Qp) := rfl

@[go_sem] theorem vcOp_append {x y : Operand} {a b : TypeId} : vcOp P N ⟨d, .call ⟨.builtin .append, #[x, y], #[a, b]⟩, t, p, af, gd⟩ tm H K Qp =
    bindE (apI P H a b (ev tm x) (ev tm y)) K (IOper P N ⟨d, .call ⟨.builtin .append, #[x, y], #[a, b]⟩, t, p, af, gd⟩ tm H K Qp) := rfl

def lenE (a b : Option (Prop × IV)) : Option (Prop × IV) := match a with | some r => some r | none => b

@[go_sem] theorem lenE_some {p : Prop × IV} {b : Option (Prop × IV)} : lenE (some p) b = some p := rfl

@[go_sem] theorem lenE_none {b : Option (Prop × IV)} : lenE none b = b := rfl

@[go_sem] theorem vcOp_len {x : Operand} {a : TypeId} : vcOp P N ⟨d, .call ⟨.builtin .len, #[x], #[a]⟩, t, p, af, gd⟩ tm H K Qp =
    bindE (liftP (lenE (lenP (P.underlying a) (ev tm x)) (lnX P H a (ev tm x))) H) K (IOper P N ⟨d, .call ⟨.builtin .len, #[x], #[a]⟩, t, p, af, gd⟩ tm H K Qp) := by
  show bindE (cmX P H .len [ev tm x] [] [a]) K _ = _
  congr 1
  unfold cmX lenE
  simp only
  cases lenP (P.underlying a) (ev tm x) <;> rfl

@[go_sem] theorem vcOp_delete {x y : Operand} {a b : TypeId} : vcOp P N ⟨d, .call ⟨.builtin .delete, #[x, y], #[a, b]⟩, t, p, af, gd⟩ tm H K Qp =
    bindE (dlX P H a (ev tm x) (ev tm y)) K (IOper P N ⟨d, .call ⟨.builtin .delete, #[x, y], #[a, b]⟩, t, p, af, gd⟩ tm H K Qp) := rfl

@[go_sem] theorem vcOp_lookup {x y : Operand} {a : TypeId} {ok : Bool} : vcOp P N ⟨d, .lookup a x y ok, t, p, af, gd⟩ tm H K Qp =
    bindE (liftP (lkX P H a (ev tm x) (ev tm y) ok) H) K (IOper P N ⟨d, .lookup a x y ok, t, p, af, gd⟩ tm H K Qp) := rfl

@[go_sem] theorem vcOp_mapUpdate {x y z : Operand} {a : TypeId} : vcOp P N ⟨d, .mapUpdate a x y z, t, p, af, gd⟩ tm H K Qp =
    bindE (muX P H a (ev tm x) (ev tm y) (ev tm z)) K (IOper P N ⟨d, .mapUpdate a x y z, t, p, af, gd⟩ tm H K Qp) := rfl

@[go_sem] theorem vcOp_insert {x y z : Operand} {a : TypeId} : vcOp P N ⟨d, .insert a x y z, t, p, af, gd⟩ tm H K Qp =
    bindE (muX P H a (ev tm x) (ev tm y) (ev tm z)) K (IOper P N ⟨d, .insert a x y z, t, p, af, gd⟩ tm H K Qp) := rfl

@[go_sem] theorem vcOp_makeMap {a : TypeId} : vcOp P N ⟨d, .makeMap a none, t, p, af, gd⟩ tm H K Qp =
    bindE (some (True, .mp H.next, H.new (.map []))) K (IOper P N ⟨d, .makeMap a none, t, p, af, gd⟩ tm H K Qp) := rfl

@[go_sem] theorem vcOp_move {x : Operand} : vcOp P N ⟨d, .move x, t, p, af, gd⟩ tm H K Qp = K (ev tm x) H := true_and _

@[go_sem] theorem vcOp_assign {x : Operand} : vcOp P N ⟨d, .assign x, t, p, af, gd⟩ tm H K Qp = K (ev tm x) H := true_and _

@[go_sem] theorem vcOp_alloc {a : TypeId} : vcOp P N ⟨d, .alloc a, t, p, af, gd⟩ tm H K Qp = bindE (alX P H a) K (IOper P N ⟨d, .alloc a, t, p, af, gd⟩ tm H K Qp) := rfl

@[go_sem] theorem vcOp_box {a : TypeId} {x : Operand} : vcOp P N ⟨d, .box a x, t, p, af, gd⟩ tm H K Qp = bindE (bxX H (ev tm x)) K (IOper P N ⟨d, .box a x, t, p, af, gd⟩ tm H K Qp) := rfl

@[go_sem] theorem vcOp_load {a : TypeId} {x : Operand} : vcOp P N ⟨d, .load a x, t, p, af, gd⟩ tm H K Qp = bindE (liftP (ldX P H a (ev tm x)) H) K (IOper P N ⟨d, .load a x, t, p, af, gd⟩ tm H K Qp) := rfl

@[go_sem] theorem vcOp_store {a : TypeId} {x y : Operand} : vcOp P N ⟨d, .store a x y, t, p, af, gd⟩ tm H K Qp = bindE (stX P H a (ev tm x) (ev tm y)) K (IOper P N ⟨d, .store a x y, t, p, af, gd⟩ tm H K Qp) := rfl

@[go_sem] theorem vcOp_indexAddr {a : TypeId} {x y : Operand} : vcOp P N ⟨d, .indexAddr a x y, t, p, af, gd⟩ tm H K Qp = bindE (liftP (ixX P H a (ev tm x) (ev tm y)) H) K (IOper P N ⟨d, .indexAddr a x y, t, p, af, gd⟩ tm H K Qp) := rfl

@[go_sem] theorem vcOp_pick {c a b : Operand} : vcOp P N ⟨d, .pick c a b, t, p, af, gd⟩ tm H K Qp = splitB (ev tm c) (kPick K (ev tm a) (ev tm b) H) := rfl

@[go_sem] theorem vcOp_build {a : TypeId} {l : List (Nat × Operand)} : vcOp P N ⟨d, .build a ⟨l⟩, t, p, af, gd⟩ tm H K Qp = bindE (liftP (bdP P a (l.map fun q => (q.1, ev tm q.2))) H) K (IOper P N ⟨d, .build a ⟨l⟩, t, p, af, gd⟩ tm H K Qp) := rfl

@[go_sem] theorem bzI_some {n sz : Nat} {rs : List IV} : bzI n (some (sz, rs)) = some (True, .sl sz (chunks sz n rs)) := rfl

@[go_sem] theorem vcOp_buildSlice {a : TypeId} {n : Nat} {l : List (Nat × Operand)} : vcOp P N ⟨d, .buildSlice a (n + 1) ⟨l⟩, t, p, af, gd⟩ tm H K Qp = bindE (liftP (bzI (n + 1) (bsI P a (n + 1) (l.map fun q => (q.1, ev tm q.2)))) H) K (IOper P N ⟨d, .buildSlice a (n + 1) ⟨l⟩, t, p, af, gd⟩ tm H K Qp) := rfl

@[go_sem] theorem vcOp_buildEmpty {a : TypeId} {l : List (Nat × Operand)} : vcOp P N ⟨d, .buildSlice a 0 ⟨l⟩, t, p, af, gd⟩ tm H K Qp = IOper P N ⟨d, .buildSlice a 0 ⟨l⟩, t, p, af, gd⟩ tm H K Qp := rfl

@[go_sem] theorem vcOp_nilCheck {x : Operand} : vcOp P N ⟨d, .nilCheck x, t, p, af, gd⟩ tm H K Qp = bindE (liftP (ncP (ev tm x)) H) K (IOper P N ⟨d, .nilCheck x, t, p, af, gd⟩ tm H K Qp) := rfl

@[go_sem] theorem vcOp_binOp {op : BinOp} {a b : TypeId} {x y : Operand} : vcOp P N ⟨d, .binOp op a x y b, t, p, af, gd⟩ tm H K Qp = bindE (liftP (bin3 P op a tm x y) H) K (IOper P N ⟨d, .binOp op a x y b, t, p, af, gd⟩ tm H K Qp) := rfl

@[go_sem] theorem vcOp_unOp {op : UnOp} {a : TypeId} {x : Operand} : vcOp P N ⟨d, .unOp op a x, t, p, af, gd⟩ tm H K Qp = bindE (liftP (unP op (ev tm x)) H) K (IOper P N ⟨d, .unOp op a x, t, p, af, gd⟩ tm H K Qp) := rfl

@[go_sem] theorem vcOp_convert {a b : TypeId} {x : Operand} : vcOp P N ⟨d, .convert a b x, t, p, af, gd⟩ tm H K Qp = bindE (liftP (cvP P a b (ev tm x)) H) K (IOper P N ⟨d, .convert a b x, t, p, af, gd⟩ tm H K Qp) := rfl

@[go_sem] theorem vcOp_makeInterface {a : TypeId} {x : Operand} : vcOp P N ⟨d, .makeInterface a x, t, p, af, gd⟩ tm H K Qp = bindE (liftP (mkP P a (ev tm x)) H) K (IOper P N ⟨d, .makeInterface a x, t, p, af, gd⟩ tm H K Qp) := rfl

@[go_sem] theorem vcOp_makeFunc {f : Fn} {x y : List Operand} : vcOp P N ⟨d, .makeFunc f ⟨x⟩ ⟨y⟩, t, p, af, gd⟩ tm H K Qp = K (.fn f (x.map (ev tm)) (y.map (ev tm))) H := true_and _

@[go_sem] theorem vcOp_slice {a : TypeId} {x : Operand} {lo hi mx : Option Operand} : vcOp P N ⟨d, .slice a x lo hi mx, t, p, af, gd⟩ tm H K Qp =
    bindE (liftP (slP P (P.underlying a) (ev tm x) (lo.map (ev tm)) (hi.map (ev tm)) (mx.map (ev tm))) H) K (IOper P N ⟨d, .slice a x lo hi mx, t, p, af, gd⟩ tm H K Qp) := rfl

@[go_sem] theorem vcOp_fieldAddr {a : TypeId} {x : Operand} {f : Nat} : vcOp P N ⟨d, .fieldAddr a x f, t, p, af, gd⟩ tm H K Qp = bindE (liftP (fdP P (P.underlying a) (ev tm x) f) H) K (IOper P N ⟨d, .fieldAddr a x f, t, p, af, gd⟩ tm H K Qp) := rfl

@[go_sem] theorem vcOp_field {a : TypeId} {x : Operand} {f : Nat} : vcOp P N ⟨d, .field a x f, t, p, af, gd⟩ tm H K Qp = bindE (liftP (fvP P (P.underlying a) (ev tm x) f) H) K (IOper P N ⟨d, .field a x f, t, p, af, gd⟩ tm H K Qp) := rfl

@[go_sem] theorem vcOp_index {a : TypeId} {x y : Operand} : vcOp P N ⟨d, .index a x y, t, p, af, gd⟩ tm H K Qp = bindE (liftP (ivP P (P.underlying a) (ev tm x) (ev tm y)) H) K (IOper P N ⟨d, .index a x y, t, p, af, gd⟩ tm H K Qp) := rfl

@[go_sem] theorem vcOp_extract {x : Operand} {n : Nat} : vcOp P N ⟨d, .extract x n, t, p, af, gd⟩ tm H K Qp = bindE (liftP (exP (ev tm x) n) H) K (IOper P N ⟨d, .extract x n, t, p, af, gd⟩ tm H K Qp) := rfl

end

@[go_sem] theorem tm0_nil {i : Nat} : tm0 [] i = .v undef := by simp [tm0]

@[go_sem] theorem tm0_zero {x : IV} {l : List IV} : tm0 (x :: l) 0 = x := rfl

@[go_sem] theorem tm0_succ {x : IV} {l : List IV} {i : Nat} : tm0 (x :: l) (i + 1) = tm0 l i := by simp [tm0]

section

@[go_sem] theorem cellsI_ag {cs : List IV} : cellsI (.ag cs) = some cs := rfl

@[go_sem] theorem cellsI_sl {sz : Nat} {es : List (List IV)} : cellsI (.sl sz es) = some [.sl sz es] := rfl

@[go_sem] theorem cellsI_cp {cs : List IV} : cellsI (.cp cs) = some [.cp cs] := rfl

@[go_sem] theorem cellsI_fn {f : Fn} {a b : List IV} : cellsI (.fn f a b) = some [.fn f a b] := rfl

@[go_sem] theorem cellsI_ifc {t : TypeId} {x : IV} : cellsI (.ifc t x) = some [.ifc t x] := rfl

@[go_sem] theorem cellsI_p {k o : Nat} : cellsI (.p k o) = some [.p k o] := rfl

@[go_sem] theorem cellsI_mp {k : Nat} : cellsI (.mp k) = some [.mp k] := rfl

@[go_sem] theorem cellsI_os {k n : Nat} : cellsI (.os k n) = some [.os k n] := rfl

@[go_sem] theorem cellsI_pr {k n o : Nat} : cellsI (.pr k n o) = some [.pr k n o] := rfl

@[go_sem] theorem cellsI_bs {k n o : Nat} : cellsI (.bs k o n) = some [.bs k o n] := rfl

@[go_sem] theorem cellsI_int {k : IntKind} {n : Int} : cellsI (.v (.int k n)) = some [.v (.int k n)] := rfl

@[go_sem] theorem cellsI_bool {b : Bool} : cellsI (.v (.bool b)) = some [.v (.bool b)] := rfl

@[go_sem] theorem cellsI_str {s : ByteArray} : cellsI (.v (.string s)) = some [.v (.string s)] := rfl

@[go_sem] theorem cellsI_slice {a : Option Addr} {n c : Nat} : cellsI (.v (.slice a n c)) = some [.v (.slice a n c)] := rfl

@[go_sem] theorem cellsI_ptr {a : Option Addr} : cellsI (.v (.pointer a)) = some [.v (.pointer a)] := rfl

@[go_sem] theorem cellsI_map {a : Option Nat} : cellsI (.v (.map a)) = some [.v (.map a)] := rfl

@[go_sem] theorem cellsI_func {f : Fn} {a b : Array Value} : cellsI (.v (.func f a b)) = some [.v (.func f a b)] := rfl

@[go_sem] theorem cellsI_nilFunc  : cellsI (.v .nilFunc) = some [.v .nilFunc] := rfl

@[go_sem] theorem cellsI_iface {t : TypeId} {x : Value} : cellsI (.v (.iface t x)) = some [.v (.iface t x)] := rfl

@[go_sem] theorem cellsI_nilIface  : cellsI (.v .nilIface) = some [.v .nilIface] := rfl

@[go_sem] theorem cellsI_agg {xs : Array Value} : cellsI (.v (.agg xs)) = if xs.toList.all (·.oneCell') = true then some (xs.toList.map .v) else none := rfl

end

attribute [go_sem] tyB tyR

attribute [go_sem] Value.oneCell' bsI fillI rep Value.cells chunks

attribute [go_sem] bin3 ldX ldN ldH ldP stX ixX ixP alX bxX fdP fvP ivP lenP binV shI binI binS unP cvP ncP exP mkP slP bndP partP aggD apI srcI elI notInt putL fnP oneB

section

variable {P : Program} {op : BinOp} {t : TypeId}

@[go_sem] theorem bin2_v {a b : Value} : bin2 P op t (.v a) (.v b) = (match binV P op t a b with | some (s, r) => some (s, .v r) | none => none) := rfl

@[go_sem] theorem bin2_p {k off : Nat} : bin2 P op t (.p k off) (.v (.pointer none)) = (match P.underlying t with
    | some (.pointer _) => match op with | .eql => some (True, .v (.bool false)) | .neq => some (True, .v (.bool true)) | _ => none
    | _ => none) := rfl

@[go_sem] theorem bin2_cp {cs : List IV} : bin2 P op t (.cp cs) (.v (.pointer none)) = (match P.underlying t with
    | some (.pointer _) => match op with | .eql => some (True, .v (.bool false)) | .neq => some (True, .v (.bool true)) | _ => none
    | _ => none) := rfl

@[go_sem] theorem bin2_mp {k : Nat} : bin2 P op t (.mp k) (.v (.map none)) = (match P.underlying t with
    | some (.map _ _) => match op with | .eql => some (True, .v (.bool false)) | .neq => some (True, .v (.bool true)) | _ => none
    | _ => none) := rfl

@[go_sem] theorem bin2_fn {f : Fn} {a b : List IV} : bin2 P op t (.fn f a b) (.v .nilFunc) = (match P.underlying t with
    | some (.func _ _ _) => match op with | .eql => some (True, .v (.bool false)) | .neq => some (True, .v (.bool true)) | _ => none
    | _ => none) := rfl

@[go_sem] theorem bin2_sl {sz : Nat} {es : List (List IV)} {y : IV} : bin2 P op t (.sl sz es) y = none := by cases y <;> rfl

@[go_sem] theorem bin2_ag {a b c d : List UInt8} : bin2 P op t (.ag [.v (str a), .v (str b)]) (.ag [.v (str c), .v (str d)]) = (match P.underlying t with
    | some (.struct fs) =>
      match fs.toList with
      | [f1, f2] => match op with
        | .eql => some (P.underlying f1.type = some .string ∧ P.underlying f2.type = some .string ∧ f1.offset = 0 ∧ ¬ f1.name = "_" ∧ f2.offset = 1 ∧ ¬ f2.name = "_" ∧ P.stoodInHeld t = false ∧ P.eqGuardType P.depth t = false, .v (.bool (decide (a = c ∧ b = d))))
        | .neq => some (P.underlying f1.type = some .string ∧ P.underlying f2.type = some .string ∧ f1.offset = 0 ∧ ¬ f1.name = "_" ∧ f2.offset = 1 ∧ ¬ f2.name = "_" ∧ P.stoodInHeld t = false ∧ P.eqGuardType P.depth t = false, .v (.bool (!decide (a = c ∧ b = d))))
        | _ => none
      | _ => none
    | _ => none) := by
  simp only [bin2, agE, str, bytes_mk]
  cases P.underlying t with
  | none => rfl
  | some d =>
    cases d <;> try rfl
    rename_i fs
    simp only
    rcases fs.toList with _ | ⟨f1, _ | ⟨f2, _ | ⟨f3, l⟩⟩⟩ <;> first | rfl | (cases op <;> rfl)

end

attribute [go_sem] Side_true

@[go_sem] theorem Side_triv : Side True = True := by simp [Side]

/-! ### Branches -/

theorem condB {c : Bool} {a b : Tm → IHeap → Prop} (h1 : c = true → a tm H) (h2 : c = false → b tm H) : condK (.v (.bool c)) a b tm H := ⟨h1, h2⟩

theorem splitB' {c : Bool} {K : Bool → Prop} (h1 : c = true → K true) (h2 : c = false → K false) : splitB (.v (.bool c)) K := ⟨h1, h2⟩

theorem vcLoop_mk {c : Code} {Q : Exit → Tm → IHeap → Prop} (I : Tm → IHeap → Prop) (μ : Tm → IHeap → Nat) (h0 : UpI I tm H)
    (h : ∀ I' μ', I' = I → μ' = μ → ∀ tm H, I tm H → IWp P N c (thenQ (Up I' μ' (μ tm H)) Q) tm H) : vcLoop P N c Q tm H := ⟨I, μ, h0, h I μ rfl rfl⟩

theorem Up.of {I I' : Tm → IHeap → Prop} {μ μ' : Tm → IHeap → Nat} {m : Nat} (hI : I' = I) (hμ : μ' = μ) (h : I tm H) (hm : μ tm H < m) : Up I' μ' m tm H := by
  subst hI
  subst hμ
  exact .same h hm

/-! ### Ends -/

def retE (x : Option (Prop × List IV)) (H0 : IHeap) (Q : IEnd → IHeap → Prop) (H : IHeap) : Prop :=
  match x with
  | some (s, is) => s ∧ retG (oneI is) H0 Q H
  | none => False

section

variable {H0 : IHeap} {rs : List ResultVar} {Q : IEnd → IHeap → Prop}

theorem retV_eq : retV P rs H0 Q tm H = retE (resI P H tm rs) H0 Q H := by
  unfold retE retV
  cases resI P H tm rs with
  | none => simp
  | some x =>
    obtain ⟨s, is⟩ := x
    exact propext ⟨fun ⟨s', is', h1, h2, h3⟩ => by cases h1; exact ⟨h2, h3⟩, fun ⟨h2, h3⟩ => ⟨s, is, rfl, h2, h3⟩⟩

@[go_sem] theorem retQ_ret : retQ P rs H0 Q .ret tm H = retE (resI P H tm rs) H0 Q H := retV_eq

@[go_sem] theorem retQ_normal : retQ P rs H0 Q .normal tm H = retE (resI P H tm rs) H0 Q H := retV_eq

@[go_sem] theorem retE_some {s : Prop} {is : List IV} : retE (some (s, is)) H0 Q H = (s ∧ retG (oneI is) H0 Q H) := rfl

theorem retG_pure {r : IV} (he : Ext H0 H) (hn : NB H0.next r) (h : Q (.ret r) H0) : retG r H0 Q H :=
  .inl ⟨r, H0, he.endH, .wk r r (fun _ _ _ h => h) hn, h⟩

theorem retG_all {r : IV} (h : Q (.ret r) H) : retG r H0 Q H := .inr ⟨r, H, .inl (.refl r H), h⟩

theorem retG_fz {r r' : IV} {J : IHeap} (he : EndH H0 H J) (hf : Fz H J r r') (h : Q (.ret r') J) : retG r H0 Q H := .inl ⟨r', J, he, hf, h⟩

end

attribute [go_sem] resI rvI oneI

@[go_sem] theorem getq_zero {α : Type} {a : α} {l : List α} : (a :: l)[0]? = some a := rfl

@[go_sem] theorem getq_succ {α : Type} {a : α} {l : List α} {i : Nat} : (a :: l)[i + 1]? = l[i]? := rfl

def intOf : IV → Int
  | .v (.int _ n) => n
  | _ => 0

@[go_sem] theorem intOf_int {k : IntKind} {n : Int} : intOf (.v (.int k n)) = n := rfl

end Go.Idl
