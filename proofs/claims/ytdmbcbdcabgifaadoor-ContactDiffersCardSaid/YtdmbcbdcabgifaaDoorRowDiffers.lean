/- ContactDiffers returns true for any two contacts and leaves them as they were: the row and its tied card. Conditions: none. -/
import Derived.Test.YtdmbcbdcabgifaaDoorLaw16
import Derived.Test.YtdmbcbdcabgifaaDoorFnC
import Derived.ProofKit
import Derived.OpenShut
import Derived.Test.YtdmbcbdcabgifaaDoorCop16
import Derived.Test.YtdmbcbdcabgifaaDoorRows
import Derived.Test.YtdmbcbdcabgifaaDoorTie
import Derived.Test.YtdmbcbdcabgifaaDoorCards
import Derived.LaidMore
import Derived.Carry
import Derived.Stop.Joined
import Derived.SevenTiedAt
set_option linter.unusedSimpArgs false
set_option linter.unusedVariables false

namespace Go.Idl
open Go

theorem withS_len (c : List (List Str)) (f : Int) (v : List Str) (hc : c.length = 8) : (withS c f v).1.length = 8 := by
  unfold withS
  split
  · split
    · simp [hc]
    · rfl
  · rfl
theorem emptyC_eq : emptyC = [[], [], [], [], [], [], [], []] := rfl
theorem small_of_light {c : List (List Str)} (hc : c.length = 8) (h : lightS c = true) : smallC c ∧ ∀ l ∈ c, textsOk l = true := by
  simp only [lightS, decide_eq_true_eq] at h
  refine ⟨⟨hc, fun l hl => ?_⟩, h⟩
  have := h l hl
  simp only [textsOk, decide_eq_true_eq] at this
  exact ⟨by omega, fun s hs => by have := this.2 s hs; omega⟩
theorem small_of_texts {l : List Str} (h : textsOk l = true) : smallL l ∧ l.length ≤ 20 := by
  simp only [textsOk, decide_eq_true_eq] at h
  exact ⟨⟨by omega, fun s hs => by have := h.2 s hs; omega⟩, h.1⟩
theorem order_small {f : Int} {l : List Str} (h : smallL l) : smallL (orderS f l) := by
  unfold orderS
  split
  · refine ⟨?_, fun s hs => ?_⟩
    · have h1 := compact_len (sortS l)
      rw [sortS_length] at h1
      have := h.1
      omega
    · have := compact_mem hs
      exact h.2 s (by simpa [sortS] using this)
  · exact h
theorem small_set {c : List (List Str)} {l : List Str} (i : Nat) (hc : smallC c) (hl : smallL l) : smallC (c.set i l) := by
  refine ⟨by simp [hc.1], fun x hx => ?_⟩
  rcases List.mem_or_eq_of_mem_set hx with h | h
  · exact hc.2 x h
  · subst h; exact hl

theorem F3_eq (c : List (List Str)) (f : Int) (l : List Str) (hc : c.length = 8) : F3 c f l = some true := by
  unfold F3
  rw [gd_pos hc, F6_eq c hc]
  simp only [Option.bind_some]
  cases h1 : lightS c with
  | false => rfl
  | true =>
    obtain ⟨hs, _⟩ := small_of_light hc h1
    rw [if_neg (by simp), F7_eq]
    simp only [Option.bind_some]
    cases h2 : textsOk l with
    | false => rfl
    | true =>
      obtain ⟨hl, hl20⟩ := small_of_texts h2
      have hw8 := withS_len c f l hc
      have e9 : F9 c f l = some (withS c f l) := by unfold F9; rw [gd_pos hs, gd_pos hl]
      rw [if_neg (by simp), e9]
      simp only [Option.bind_some]
      rw [gd_pos hw8, F10_eq c hs]
      simp only [Option.bind_some]
      have he8 : ([[], [], [], [], [], [], [], []] : List (List Str)).length = 8 := rfl
      have refused : withS c f l = (emptyC, 2) → ((F11 (withS c f l).1 [[], [], [], [], [], [], [], []]).bind fun (x : Bool) => if x = true then (if (withS c f l).2 = 2 then (F8.bind fun (y : Bool) => some y) else some false) else some false) = some true := by
        intro e
        rw [e]
        have := F11_eq emptyC [[], [], [], [], [], [], [], []] rfl rfl (by decide)
        simp only [this, Option.bind_some]
        rfl
      cases h3 : checkS c with
      | false =>
        rw [if_pos (by simp)]
        exact refused (by simp [withS, h3])
      | true =>
        rw [if_neg (by simp)]
        by_cases h4 : f < 0
        · rw [if_pos h4]
          exact refused (by
            have : ¬ 0 ≤ f := by omega
            simp [withS, this])
        · rw [if_neg h4]
          by_cases h5 : 7 < f
          · rw [if_pos h5]
            exact refused (by
              have : ¬ f < 8 := by omega
              simp [withS, this])
          · rw [if_neg h5, F12_eq f l (by omega), ord_eq]
            simp only [Option.bind_some]
            have hs2 := small_set f.toNat hs (order_small (f := f) hl)
            rw [gd_pos (by omega), gd_pos hs2.1, F10_eq _ hs2]
            simp only [Option.bind_some]
            have hf : 0 ≤ f ∧ f < 8 := by omega
            cases h6 : checkS (c.set f.toNat (orderS f l)) with
            | false =>
              rw [if_pos (by simp)]
              exact refused (by simp [withS, h3, hf, h6])
            | true =>
              have e : withS c f l = (c.set f.toNat (orderS f l), 0) := by simp [withS, h3, hf, h6]
              rw [if_neg (by simp), e]
              have := F11_eq (c.set f.toNat (orderS f l)) (c.set f.toNat (orderS f l)) hs2.1 hs2.1 (fun x hx => (hs2.2 x hx).1)
              simp only [this, Option.bind_some]
              rfl
end Go.Idl

namespace Go.Idl
open Go Go.RowKit Go.ChangeShapes Go.WideShapes

def g0 : Gs := { oth := fun _ => False, mu := fun _ => undef, sh := fun _ => none, nx := 0 }
def H0 : IHeap := { next := 0, obj := fun _ => none, sn := [] }
theorem ow0 (b : Nat) : ¬ g0.ow b := by
  rintro (h | ⟨k, h, _⟩)
  · exact h
  · cases h
theorem sim0 (w : World) : Sim w g0 H0 where
  nx := rfl
  sh := fun _ => rfl
  lt := fun k h => by cases h
  bk := fun k b h => by cases h
  inj := fun k k' b h => by cases h
  obj := fun k o h => by cases h
  old := fun b h => h.elim
  snap := fun p h => by cases h

/-- What behind a call is known of the world ahead of it. -/
theorem below_of_mono {w w' : World} {g' : Gs} (m : Mono w g0 w' g') : Below w.heap.size w w' :=
  ⟨m.os, m.tape, m.output, m.size, fun k hk => m.keep k hk fun ⟨i, h, _⟩ => by cases h⟩

variable {P : Program} {w : World} {Hh : Type} {enc : TypeId × Value → Hh}

/-- Cells that read as data of a type read as ghost values of a shape. -/
def Rd (P : Program) (w : World) {Hh : Type} (enc : TypeId × Value → Hh) (t : TypeId) (S : List IV → Prop) : Prop :=
  ∀ (base : Nat) (spare : Nat → Bool) (held : Bool) (fuel : Nat) (cs : List Value) (x : DataW Hh × List MemPlace), DataW.trod enc P w base spare held fuel t cs = some x →
    ∃ is, S is ∧ is.length = cs.length ∧ ∀ (j : Nat) (c : Value) (i : IV), cs[j]? = some c → is[j]? = some i → c.oneCell' = true ∧ R w g0 c i

theorem rd_one {c : Value} {i : IV} (ho : c.oneCell' = true) (hr : R w g0 c i) : ∀ (j : Nat) (c' : Value) (i' : IV), [c][j]? = some c' → [i][j]? = some i' → c'.oneCell' = true ∧ R w g0 c' i' := by
  intro j c' i' h1 h2
  cases j with
  | zero => simp at h1 h2; subst h1; subst h2; exact ⟨ho, hr⟩
  | succ j => simp at h1

theorem Rd_int {t : TypeId} {k : IntKind} (hu : P.underlying t = some (.int k)) : Rd P w enc t fun is => ∃ n : Int, is = [.v (.int k n)] := by
  intro base spare held fuel cs x h
  obtain ⟨n, rfl, _, _⟩ := DataW.trod_int hu h
  exact ⟨_, ⟨n, rfl⟩, rfl, rd_one rfl (.v _)⟩
theorem Rd_bool {t : TypeId} (hu : P.underlying t = some .bool) : Rd P w enc t fun is => ∃ n : Bool, is = [.v (.bool n)] := by
  intro base spare held fuel cs x h
  obtain ⟨n, rfl, _⟩ := DataW.trod_bool hu h
  exact ⟨_, ⟨n, rfl⟩, rfl, rd_one rfl (.v _)⟩
theorem Rd_string {t : TypeId} (hu : P.underlying t = some .string) : Rd P w enc t fun is => ∃ s : List UInt8, is = [.v (str s)] := by
  intro base spare held fuel cs x h
  obtain ⟨s, rfl, _, _⟩ := DataW.trod_string hu h
  refine ⟨_, ⟨bytes s, rfl⟩, rfl, rd_one rfl ?_⟩
  rw [show str (bytes s) = .string s by rw [str, mk_bytes]]
  exact .v _

theorem choose_list {E : Type} (Pr : Nat → E → Prop) : ∀ n : Nat, (∀ i, i < n → ∃ x, Pr i x) → ∃ l : List E, l.length = n ∧ ∀ (i : Nat) (x : E), l[i]? = some x → Pr i x
  | 0, _ => ⟨[], rfl, by simp⟩
  | n + 1, h => by
    obtain ⟨l, h1, h2⟩ := choose_list Pr n fun i hi => h i (by omega)
    obtain ⟨x, hx⟩ := h n (by omega)
    refine ⟨l ++ [x], by simp [h1], fun i y hy => ?_⟩
    rcases Nat.lt_or_ge i n with hi | hi
    · rw [List.getElem?_append_left (by omega)] at hy
      exact h2 i y hy
    · rw [List.getElem?_append_right (by omega)] at hy
      have e : i = n := by
        have := (List.getElem?_eq_some_iff.1 hy).1
        simp at this; omega
      subst e
      simp [h1] at hy
      subst hy
      exact hx

theorem cells_get {base : Nat} {a : Addr} : ∀ {n : Nat} {cs : List Value}, w.cells? base a n = some cs → cs.length = n ∧ ∀ j, j < n → w.cell? (a.add j) = cs[j]? := by
  intro n cs h
  unfold World.cells? at h
  split at h
  · refine ⟨?_, fun j hj => ?_⟩
    · have := mapM_some_length h
      simpa using this
    · exact mapM_some_get h j j (by simp [hj])
  · cases h

theorem Rd_slice {t e : TypeId} {E : Type} (cells : E → List IV) (hu : P.underlying t = some (.slice e)) (h0 : 0 < P.cellsOf e) (he : Rd P w enc e fun is => ∃ x : E, is = cells x) :
    Rd P w enc t fun is => ∃ l : List E, is = [.sl (P.cellsOf e) (l.map cells)] := by
  intro base spare held fuel cs x h
  rcases DataW.trod_slice hu h with ⟨rfl, _⟩ | ⟨a, len, cap, elems, rest, n, _, rfl, _, hb, hl, hm, hlen, hel, _, _⟩
  · exact ⟨_, ⟨[], rfl⟩, rfl, rd_one rfl (.sl0 _ _ _)⟩
  · obtain ⟨l, l1, l2⟩ := choose_list (fun i (y : E) => (cells y).length = P.cellsOf e ∧ ∀ (j : Nat) (i' : IV), (cells y)[j]? = some i' → ∃ c, w.cell? ((a.add (i * P.cellsOf e)).add j) = some c ∧ c.oneCell' = true ∧ R w g0 c i') len (fun i hi => by
      have hei := hel i hi
      have hne : elems[i]? = some elems[i] := List.getElem?_eq_getElem (by omega)
      rw [hne, Option.bind_eq_some_iff] at hei
      obtain ⟨ci, hc, ht⟩ := hei
      obtain ⟨q1, q2⟩ := cells_get hc
      obtain ⟨is, ⟨y, rfl⟩, q3, q4⟩ := he _ _ _ _ _ _ ht
      refine ⟨y, by rw [q3, q1], fun j i' hj => ?_⟩
      have hjl : j < ci.length := by rw [← q3]; exact (List.getElem?_eq_some_iff.1 hj).1
      have := q4 j ci[j] i' (List.getElem?_eq_getElem hjl) hj
      exact ⟨ci[j], by rw [q2 j (by omega)]; exact List.getElem?_eq_getElem hjl, this⟩)
    refine ⟨_, ⟨l, rfl⟩, rfl, rd_one rfl ?_⟩
    by_cases hz : len = 0
    · subst hz
      have : l = [] := List.eq_nil_of_length_eq_zero l1
      subst this
      exact .sl0 _ _ _
    · have hlm : (l.map cells).length = len := by simp [l1]
      have h0l : 0 < l.length := by omega
      obtain ⟨q1, q2⟩ := l2 0 l[0] (List.getElem?_eq_getElem h0l)
      have hpos : 0 < (cells l[0]).length := by omega
      obtain ⟨c0, q3, _⟩ := q2 0 _ (List.getElem?_eq_getElem hpos)
      obtain ⟨b, off, spot⟩ := a
      have hsp : spot = none ∧ b < w.heap.size := by
        have e0 : ((⟨b, off, spot⟩ : Addr).add (0 * P.cellsOf e)).add 0 = ⟨b, off, spot⟩ := by simp [Addr.add]
        rw [e0] at q3
        unfold World.cell? at q3
        split at q3
        · rename_i hh
          refine ⟨?_, (Array.getElem?_eq_some_iff.1 hh).1⟩
          split at q3
          · cases q3
          · rename_i hs
            simpa using hs
        · cases q3
      obtain ⟨rfl, hlt⟩ := hsp
      rw [← hlm]
      refine .sl b off cap _ _ (fun i j => (w.cell? ⟨b, off + i * P.cellsOf e + j, none⟩).getD undef) (ow0 b) hlt (by rw [hlm]; have hm' : cap ≤ 9223372036854775807 := hm; unfold maxN; omega) (by omega) ?_ ?_ ?_ ?_
      · intro c hc
        obtain ⟨y, hy, rfl⟩ := List.mem_map.1 hc
        obtain ⟨i, hi⟩ := List.getElem?_of_mem hy
        exact (l2 i y hi).1
      all_goals
        intro i ee j c h1 h2
        simp only [List.getElem?_map, Option.map_eq_some_iff] at h1
        obtain ⟨y, hy, rfl⟩ := h1
        obtain ⟨c', r1, r2, r3⟩ := (l2 i y hy).2 j c h2
        rw [addr_add, addr_add] at r1
        first | (rw [r1]; rfl) | (simp only [r1, Option.getD_some]; first | exact r2 | exact r3)

theorem Rd_array {t e : TypeId} {E : Type} {n : Nat} (cell : E → IV) (hu : P.underlying t = some (.array n e)) (hc : P.cellsOf e = 1) (hct : P.cellsOf t = n) (he : Rd P w enc e fun is => ∃ x : E, is = [cell x]) :
    Rd P w enc t fun is => ∃ l : List E, l.length = n ∧ is = l.map cell := by
  intro base spare held fuel cs x h
  obtain ⟨xs, m, _, _, h1, h2, h3⟩ := DataW.trod_array hu h
  rw [hct] at h1
  obtain ⟨l, l1, l2⟩ := choose_list (fun i (y : E) => ∃ c, cs[i]? = some c ∧ c.oneCell' = true ∧ R w g0 c (cell y)) n (fun i hi => by
    have := h3 i hi
    rw [hc, Nat.mul_one] at this
    have hci : cs[i]? = some cs[i] := List.getElem?_eq_getElem (by omega)
    have hd : (cs.drop i).take 1 = [cs[i]] := by rw [List.drop_eq_getElem_cons (by omega)]; rfl
    rw [hd, List.getElem?_eq_getElem (by omega)] at this
    obtain ⟨is, ⟨y, rfl⟩, _, q4⟩ := he _ _ _ _ _ _ this
    exact ⟨y, cs[i], hci, q4 0 _ _ rfl rfl⟩)
  refine ⟨_, ⟨l, l1, rfl⟩, by simp [l1, h1], fun j c i h4 h5 => ?_⟩
  simp only [List.getElem?_map, Option.map_eq_some_iff] at h5
  obtain ⟨y, hy, rfl⟩ := h5
  obtain ⟨c', r1, r2, r3⟩ := l2 j y hy
  rw [h4] at r1
  cases r1
  exact ⟨r2, r3⟩

/-- An argument of one cell. -/
theorem Rd.one {t : TypeId} {v : Value} {d : DataW Hh} {ps : List MemPlace} {S : List IV → Prop} {base : Nat} {spare : Nat → Bool} {held : Bool} (h : Rd P w enc t S) (hv : v.cells = #[v]) (hd : DataW.Trod enc P w base spare held t v d ps) : ∃ i, S [i] ∧ R w g0 v i := by
  obtain ⟨fuel, hf⟩ := hd
  obtain ⟨is, h1, h2, h3⟩ := h _ _ _ _ _ _ hf
  rw [hv] at h2 h3
  match is, h2, h1, h3 with
  | [i], _, h1, h3 => exact ⟨i, h1, (h3 0 v i rfl rfl).2⟩
/-- An argument of many cells. -/
theorem Rd.agg {t : TypeId} {cs : Array Value} {d : DataW Hh} {ps : List MemPlace} {S : List IV → Prop} {base : Nat} {spare : Nat → Bool} {held : Bool} (h : Rd P w enc t S) (hd : DataW.Trod enc P w base spare held t (.agg cs) d ps) : ∃ is, S is ∧ R w g0 (.agg cs) (.ag is) := by
  obtain ⟨fuel, hf⟩ := hd
  obtain ⟨is, h1, h2, h3⟩ := h _ _ _ _ _ _ hf
  have hcs : (Value.agg cs).cells.toList = cs.toList := rfl
  rw [hcs] at h2 h3
  refine ⟨is, h1, .ag cs is (by simpa using h2.symm) (fun j x hx => ?_) fun j x c hx hc => (h3 j x c (by simpa using hx) hc).2⟩
  have hlt : j < is.length := by
    have := (Array.getElem?_eq_some_iff.1 hx).1
    rw [h2]; simpa using this
  exact (h3 j x is[j] (by simpa using hx) (List.getElem?_eq_getElem hlt)).1
end Go.Idl

namespace Go.Idl
open Go

theorem rises_rise : ∀ {l : List Str}, risesS l = true → Rise l
  | [], _ => .nil
  | [x], _ => .cons (by simp) .nil
  | x :: y :: t, h => by
    simp only [risesS, Bool.and_eq_true] at h
    have h2 : Rise (y :: t) := rises_rise h.2
    refine .cons (fun z hz => ?_) h2
    rcases List.mem_cons.1 hz with e | e
    · subst e; exact h.1
    · exact lt8_trans h.1 (List.rel_of_pairwise_cons h2 e)
theorem order_id {f : Int} {l : List Str} (h : risesS l = true) : orderS f l = l := by
  unfold orderS
  split
  · exact rise_uniq (compact_sort l).1 (rises_rise h) (compact_sort l).2
  · rfl
theorem check_rises {c : List (List Str)} (h : checkS c = true) {i : Nat} (hi : i < c.length) : risesS c[i] = true := by
  simp only [checkS, Bool.and_eq_true, List.all_eq_true] at h
  have := h.1 (c[i], i) (by rw [List.mem_zipIdx_iff_getElem?]; simp [hi])
  simp only [fieldOk, Bool.and_eq_true] at this
  exact this.2
theorem differ_self (a : List (List Str)) (n : Nat) : differS a a n = [] := by simp [differS]
theorem differ_set (c : List (List Str)) (f : Nat) (v : List Str) (n : Nat) : differS (c.set f v) c n = [] ∨ differS (c.set f v) c n = [f] := by
  induction n with
  | zero => exact .inl rfl
  | succ n ih =>
    rw [differ_succ]
    by_cases h : f = n
    · subst h
      have h0 : ∀ m, m ≤ f → differS (c.set f v) c m = [] := by
        intro m hm
        simp only [differS, List.filter_eq_nil_iff, List.mem_range]
        intro i hi
        have : f ≠ i := by omega
        simp [List.getD, List.getElem?_set_ne this]
      rw [h0 f (Nat.le_refl _)]
      split
      · exact .inl rfl
      · exact .inr rfl
    · have : (c.set f v).getD n [] = c.getD n [] := by simp [List.getD, List.getElem?_set_ne h]
      rw [if_pos this, List.append_nil]
      exact ih

theorem F13_eq (a b : List (List Str)) (ha : smallC a) (hb : b.length = 8) : F13 a b = some (nS' (differS a b 8)) := by
  unfold F13
  rw [gd_pos ha.1, gd_pos hb, gd_pos fun l hl => (ha.2 l hl).1]
theorem F15_self (a : List (List Str)) (ha : smallC a) : F15 a a = some true := by
  unfold F15
  rw [gd_pos ha.1, gd_pos ha.1, F13_eq a a ha ha.1, differ_self]
  rfl

theorem F5_eq (c : List (List Str)) (f : Int) (l : List Str) (hc : c.length = 8) : F5 c f l = some true := by
  unfold F5
  rw [gd_pos hc, F6_eq c hc]
  simp only [Option.bind_some]
  cases h1 : lightS c with
  | false => rfl
  | true =>
    obtain ⟨hs, _⟩ := small_of_light hc h1
    rw [if_neg (by simp), F7_eq]
    simp only [Option.bind_some]
    cases h2 : textsOk l with
    | false => rfl
    | true =>
      obtain ⟨hl, hl20⟩ := small_of_texts h2
      have hw8 := withS_len c f l hc
      rw [if_neg (by simp)]
      by_cases h4 : f < 0
      · rw [if_pos h4]; rfl
      rw [if_neg h4]
      by_cases h5 : 7 < f
      · rw [if_pos h5]; rfl
      rw [if_neg h5]
      have e9 : ∀ v, smallL v → F9 c f v = some (withS c f v) := fun v hv => by unfold F9; rw [gd_pos hs, gd_pos hv]
      rw [e9 l hl]
      simp only [Option.bind_some]
      rw [gd_pos hw8]
      by_cases h6 : (withS c f l).2 = 0
      · rw [if_neg (by simp [h6])]
        obtain ⟨n, rfl⟩ : ∃ n : Nat, f = (n : Int) := ⟨f.toNat, by omega⟩
        have hn : n < 8 := by omega
        have hn' : n < c.length := by omega
        obtain ⟨hk, ew⟩ : checkS c = true ∧ withS c n l = (c.set n (orderS n l), 0) := by
          unfold withS at h6 ⊢
          split at h6
          · rename_i q
            split at h6
            · rename_i q2
              refine ⟨q.1, ?_⟩
              rw [if_pos q, if_pos q2]
              simp
            · cases h6
          · cases h6
        have hgc : c.getD n [] = c[n] := getD_some hn' _
        have ew2 : withS c n c[n] = (c, 0) := by
          unfold withS
          have hset : c.set n (orderS n c[n]) = c := by
            rw [order_id (check_rises hk hn')]
            exact List.set_getElem_self hn'
          simp only [Int.toNat_natCast]
          rw [if_pos ⟨hk, by omega, by omega⟩, hset, if_pos hk]
        have hs2 := small_set n hs (order_small (f := n) hl)
        have hrest : F5_k26 c n (withS c n l) = some true := by
          unfold F5_k26
          have e10 := e9 c[n] (hs.2 _ (List.getElem_mem _))
          rw [gd_pos (by omega), Int.toNat_natCast, hgc, e10, ew2]
          simp only [Option.bind_some]
          rw [gd_pos hc, ew, F13_eq _ _ hs2 hc, F15_self c hs]
          simp only [Option.bind_some, if_true]
          rcases differ_set c n (orderS n l) 8 with e | e
          · rw [e]; rfl
          · rw [e]
            simp only [nS', List.map_cons, List.map_nil, List.length_cons, List.length_nil, List.getD_cons_zero]
            rfl
        obtain ⟨y, hy, hp⟩ := loopO_for (step := fun (s : Int) => F5_b26 c n (withS c n l) s) (Post := fun y => y = .inl ()) 8 (fun _ => True) trivial
          (fun i hi _ => by
            have hw := wrap_nat (i := i) (by omega)
            simp only [F5_b26]
            rw [if_pos (by omega), hw]
            by_cases hne : (i : Int) = n
            · rw [if_neg (by simp [hne])]
              exact .inl ⟨rfl, trivial⟩
            · rw [if_pos hne, gd_pos (by omega), Int.toNat_natCast, ew]
              have hne' : n ≠ i := fun e => hne (by rw [e])
              have : (c.set n (orderS n l)).getD i [] = c.getD i [] := by simp [List.getD, List.getElem?_set_ne hne']
              have hi' : i < c.length := by omega
              have hl1 : (c.getD i []).length ≤ 1000000 := by rw [getD_some hi']; exact (hs.2 _ (List.getElem_mem _)).1
              simp only [this, F17_eq _ _ hl1, Option.bind_some]
              rw [if_neg (by simp)]
              exact .inl ⟨rfl, trivial⟩)
          (fun _ => ⟨.inl (), by simp [F5_b26], rfl⟩)
        subst hp
        rw [hy]
        exact hrest
      · rw [if_pos h6]; rfl
end Go.Idl

namespace Go.Idl
open Go Go.Proofs.Tryd

theorem OwnS.fz {J : IHeap} {n : Nat} {r : IV} {l : List Str} (h : OwnS J n r l) (hl : l.length ≤ 1000000) : Fz J J.bare r (sS l) := by
  rcases h with ⟨rfl, rfl⟩ | ⟨_, k, _, _, rfl, ho⟩
  · exact .same (NB_sl.2 (by simp))
  · have e : (sS l : IV) = .sl 1 (chunks 1 l.length ((l.map fun s => (.v (str s) : IV)).drop 0)) := by
      rw [List.drop_zero, chunks_one' (by simp)]
      simp [sS]
    have := Fz.bs (H := J) (J := J.bare) k 0 l.length 1 (l.map fun s => .v (str s)) (l.map fun s => .v (str s)) rfl ho rfl (by simp) (by simp [maxN]; omega) (fzs (by simp [NB_v]))
    rw [← e] at this
    exact this
theorem OwnL.fz {J : IHeap} {n : Nat} {rs : List IV} {c : List (List Str)} (h : OwnL J n rs c) (hs : ∀ l ∈ c, l.length ≤ 1000000) : Fz J J.bare (.ag rs) (cS c) := by
  refine .ag _ _ (by simp [h.1]) fun j x y h1 h2 => ?_
  rw [List.getElem?_map] at h2
  cases hc : c[j]? with
  | none => rw [hc] at h2; cases h2
  | some l =>
    rw [hc] at h2
    cases h2
    exact (h.2.1 j x l h1 hc).fz (hs l (List.mem_of_getElem? hc))

theorem F15_eq (a b : List (List Str)) (ha : smallC a) (hb : b.length = 8) : F15 a b = some (decide (((nS' (differS a b 8)).length : Int) = 0)) := by
  unfold F15
  rw [gd_pos ha.1, gd_pos hb, F13_eq a b ha hb]
  rfl

set_option pp.deepTerms false in
set_option maxRecDepth 8000 in
set_option maxHeartbeats 2000000 in
theorem law4 {H : IHeap} {K : IEnd → IHeap → Prop} (a b : List (List Str)) (ha : a.length = 8) (hb : b.length = 8) (hK : K (.ret (.v (.bool true))) H) : ICalls prog 4 [cS a, cS b] H K := by
  have hta : List.take 8 (a.map sS) = a.map sS := by rw [List.take_of_length_le]; simp [ha]
  have htb : List.take 8 (b.map sS) = b.map sS := by rw [List.take_of_length_le]; simp [hb]
  refine ICalls_vc (N := 89) func4 (by kernel_rfl) rfl (by kernel_rfl) (by kernel_rfl) fun hw hbd hnb => ?_
  simp (maxSteps := 1000000) (disch := omega) [go_sem, ha, hb, hta, htb]
  refine F6_ok a (F6_eq a ha) ?_
  cases h1 : lightS a with
  | false =>
    simp (maxSteps := 1000000) (disch := omega) [go_sem]
    refine F8_ok rfl ?_
    simp (maxSteps := 1000000) (disch := omega) [go_sem]
    exact retG_pure ((Ext.refl hw).new _ |>.new _) (by simp [NB_v]) hK
  | true =>
    simp (maxSteps := 1000000) (disch := omega) [go_sem, ha, hb, hta, htb]
    refine F6_ok b (F6_eq b hb) ?_
    cases h2 : lightS b with
    | false =>
      simp (maxSteps := 1000000) (disch := omega) [go_sem]
      refine F8_ok rfl ?_
      simp (maxSteps := 1000000) (disch := omega) [go_sem]
      exact retG_pure ((Ext.refl hw).new _ |>.new _) (by simp [NB_v]) hK
    | true =>
      obtain ⟨hsa, _⟩ := small_of_light ha h1
      obtain ⟨hsb, _⟩ := small_of_light hb h2
      have hla : ∀ l ∈ a, l.length ≤ 1000000 := fun l hl => (hsa.2 l hl).1
      simp (maxSteps := 1000000) (disch := omega) [go_sem, ha, hb, hta, htb]
      refine IWp_draw [0, 1, 3, 4, 2, 5, 6, 7] (by kernel_rfl) (by kernel_rfl) (fun _ _ _ _ h => h) ?_
      simp (maxSteps := 1000000) (disch := omega) [go_sem, ha, hb, hta, htb]
      refine F13_ok a b (F13_eq a b hsa hb) ?_
      simp (maxSteps := 1000000) (disch := omega) [go_sem, ha, hb, hta, htb]
      refine F14_ok a b (F14_eq a b ha hb hla) ?_
      simp (maxSteps := 1000000) (disch := omega) [go_sem, ha, hb, hta, htb]
      refine F15_ok a b (F15_eq a b hsa hb) ?_
      generalize hd : nS' (differS a b 8) = d
      simp (maxSteps := 1000000) (disch := omega) [go_sem, ha, hb, hta, htb]
      refine vcLoop_mk (fun tm' H' => ∃ i : Nat, tm' 2 = .p H.next 0 ∧ tm' 3 = .p (H.next + 1) 0 ∧ tm' 5 = .sl 1 (d.map fun x => [.v (.int .i64 x)]) ∧ tm' 6 = .sl 1 (d.map fun x => [.v (.int .i64 x)]) ∧ tm' 7 = .v (.int .i64 i) ∧ i ≤ d.length ∧ H' = (H.new (.cells (a.map sS))).new (.cells (b.map sS))) (fun tm' _ => d.length - (intOf (tm' 7)).toNat) (.same ?_) ?_
      · exact ⟨0, by simp [go_sem], by simp [go_sem], by simp [go_sem], by simp [go_sem], by simp [go_sem], by omega, rfl⟩
      rintro I' μ' hI hμ tm' H' ⟨i, t2, t3, t5, t6, t7, hi, rfl⟩
      have hd8 : d.length ≤ 8 := by
        rw [← hd]
        simp only [nS', List.length_map, differS]
        exact Nat.le_trans (List.length_filter_le _ _) (by simp)
      refine vc_sound _ (by kernel_rfl) _ _ _ ?_
      simp (maxSteps := 1000000) (disch := omega) [go_sem, t2, t3, t5, t6, t7]
      refine condB ?_ ?_ <;> intro hc1 <;> (try simp at hc1)
      · simp (maxSteps := 1000000) (disch := omega) [go_sem, t2, t3, t5, t6, t7]
        refine IWp_draw [0, 1, 2, 3, 4, 5, 6, 7, 8] (by kernel_rfl) (by kernel_rfl) (fun _ _ _ _ h => h) ?_
        simp (maxSteps := 1000000) (disch := omega) [go_sem, t2, t3, t5, t6, t7]
        exact .of hI hμ ⟨i + 1, by simp [go_sem, t2], by simp [go_sem, t3], by simp [go_sem, t5], by simp [go_sem, t6], by simp [go_sem], by omega, rfl⟩ (by simp [go_sem, t7]; omega)
      · simp (maxSteps := 1000000) (disch := omega) [go_sem, t2, t3, t5, t6, t7, ha, hb, hta, htb]
        refine copy16o a ha hla fun rs J he ho => ?_
        have o1 := he.sub _ _ (show ((H.new (.cells (a.map sS))).new (.cells (b.map sS))).obj H.next = some (.cells (a.map sS)) by simp [go_sem])
        have hjn : H.next + 2 ≤ J.next := he.le
        have hne : ¬ H.next = J.next := by omega
        have hrl : rs.length = 8 := by rw [ho.1, ha]
        have htr : List.take 8 rs = rs := List.take_of_length_le (by omega)
        have heH : Ext H J := ((Ext.refl hw).new _ |>.new _).trans he
        simp (maxSteps := 1000000) (disch := omega) [go_sem, t2, t3, t5, t6, t7, ha, hb, hta, htb, o1, hrl, htr, hne]
        generalize hJ2 : (J.new (.cells (List.replicate 8 (.v (.slice none 0 0))))).set J.next (.cells rs) = J2
        simp only [List.replicate] at hJ2
        rw [hJ2]
        have heH2 : Ext H J2 := by rw [← hJ2]; exact (heH.new _).set (by omega) _
        have n2 : J2.next = J.next + 1 := by rw [← hJ2]; simp [go_sem]
        have oN : J2.obj J.next = some (.cells rs) := by rw [← hJ2]; simp [go_sem]
        have oA : J2.obj H.next = some (.cells (a.map sS)) := by rw [← hJ2]; simp [go_sem, hne, o1]
        have ho2 : OwnL J2 (H.next + 4) rs a := ho.mono (by omega) fun k o hk hk' e => by
          have : ¬ k = J.next := by omega
          rw [← hJ2]
          simp [go_sem, this, e]
        clear hJ2
        refine ICalls_lendL (H := J2) (args' := [cS a, cS a]) (.cons (ho2.fz hla) (.cons (.same (by simp [NB_v, NB_sl, NB_ag])) .nil)) (fun H K hK => F11_ok a a (F11_eq a a ha ha hla) hK) ?_
        simp (maxSteps := 1000000) (disch := omega) [go_sem, t2, t3, t5, t6, t7, ha, hb, hta, htb, oN, oA, hrl, htr, hne]
        have hkJ : ∀ (j k m : Nat), rs[j]? = some (IV.bs k 0 m) → H.next + 4 ≤ k ∧ k < J.next := by
          intro j k m e
          have hj : j < rs.length := (List.getElem?_eq_some_iff.1 e).1
          rcases ho.2.1 j _ _ e (List.getElem?_eq_getElem (by omega : j < a.length)) with ⟨_, e'⟩ | ⟨_, k', q2, q3, e', _⟩
          · cases e'
          · cases e'; exact ⟨q2, q3⟩
        refine vcLoop_mk (fun tm' H' => ∃ i : Nat, tm' 2 = .p H.next 0 ∧ tm' 8 = .p J.next 0 ∧ tm' 9 = .v (.int .i64 i) ∧ i ≤ 8 ∧ H'.obj H.next = some (.cells (a.map sS)) ∧ H'.obj J.next = some (.cells rs) ∧ Ext H H' ∧ (∀ (j : Nat) r l, i ≤ j → rs[j]? = some r → a[j]? = some l → OwnS H' (H.next + 4) r l)) (fun tm' _ => 8 - (intOf (tm' 9)).toNat) (.same ?_) ?_
        · exact ⟨0, by simp [go_sem, t2], by simp [go_sem], by simp [go_sem], by omega, oA, oN, heH2, fun j r l _ h1 h2 => ho2.2.1 j r l h1 h2⟩
        clear hI hμ t2 t3 t5 t6 t7 hi hc1 oN oA ho2 n2 heH2
        rintro I2 μ2 hI hμ tm2 H2 ⟨i2, t2, t8, t9, hi, oA, oN, heH2, ho2⟩
        refine vc_sound _ (by kernel_rfl) _ _ _ ?_
        simp (maxSteps := 1000000) (disch := omega) [go_sem, t2, t8, t9]
        refine condB ?_ ?_ <;> intro hc2 <;> (try simp at hc2)
        · have hir : i2 < rs.length := by omega
          have hia : i2 < a.length := by omega
          have hge : rs[i2]? = some rs[i2] := List.getElem?_eq_getElem hir
          have hgi := ho2 i2 _ _ (Nat.le_refl _) hge (List.getElem?_eq_getElem hia)
          rcases hgi with ⟨e1, e2⟩ | ⟨e1, k, hk1, hk2, e2, hk3⟩
          · simp (maxSteps := 1000000) (disch := omega) [go_sem, t2, t8, t9, oN, hrl, e2]
            exact .of hI hμ ⟨i2 + 1, by simp [go_sem, t2], by simp [go_sem, t8], by simp [go_sem], by omega, oA, oN, heH2, fun j r l hj h1 h2 => ho2 j r l (by omega) h1 h2⟩ (by simp [go_sem, t9]; omega)
          · have hpos : 0 < a[i2].length := List.length_pos_iff.2 e1
            obtain ⟨hkk, hkk'⟩ := hkJ i2 k _ (by rw [hge, e2])
            have n1 : ¬ H.next = k := by omega
            have n2 : ¬ J.next = k := by omega
            have hla2 := (hsa.2 _ (List.getElem_mem hia)).2 _ (List.getElem_mem hpos)
            simp (maxSteps := 1000000) (disch := omega) [go_sem, t2, t8, t9, oN, oA, hrl, e2, hpos, ha, hta, hk3, n1]
            refine .of hI hμ ⟨i2 + 1, by simp [go_sem, t2], by simp [go_sem, t8], by simp [go_sem], by omega, by simp [go_sem, n1, oA], by simp [go_sem, n2, oN], heH2.set (by omega) _, fun j r l hj h1 h2 => ?_⟩ (by simp [go_sem, t9]; omega)
            rcases ho2 j r l (by omega) h1 h2 with q | ⟨q1, k', q2, q3, q4, q5⟩
            · exact .inl q
            · have hkne : ¬ k' = k := by
                rintro rfl
                rw [q4] at h1
                rw [e2] at hge
                have := ho.2.2 j i2 k' _ _ h1 hge
                omega
              exact .inr ⟨q1, k', q2, by simpa [go_sem] using q3, q4, by simp [go_sem, hkne, q5]⟩
        · simp (maxSteps := 1000000) (disch := omega) [go_sem, t2, t8, t9]
          refine F8_ok rfl ?_
          simp (maxSteps := 1000000) (disch := omega) [go_sem]
          exact retG_pure heH2 (by simp [NB_v]) hK
end Go.Idl

namespace Go.Proofs.YtdmbcbdcabgifaaDoor
open Go Go.ChangeShapes Go.WideShapes Go.ChangeAt Go.RowKit Go.Idl

theorem ownNone : ownKnob Tryd.prog.godebug = none := by kernel_rfl
theorem laidOutAll : laidOutB Tryd.prog = true := by kernel_rfl
def laid3 : List (String × DataW Unit) := Rows.contactDiffersRow.laid

theorem door_met (os : Os) (args : Array Value) : laidMetH Tryd.prog laid3 ((World.doorLaid Tryd.prog 400 os).forCall (fun _ _ => 0) ⟨#[], args, []⟩).memory :=
  laidMetH_of_parts3 (fuel := 8) (laidMet_of_run' 8 (by kernel_rfl) (by kernel_rfl)) (by kernel_rfl) (by kernel_rfl)

section
variable {w : World} {Hh : Type} {enc : TypeId × Value → Hh}
theorem rd9 : Rd Tryd.prog w enc 9 fun is => ∃ s : List UInt8, is = [.v (str s)] := Rd_string Tryd.underlying9
theorem rd22 : Rd Tryd.prog w enc 22 fun is => ∃ l : List (List UInt8), is = [sS l] := by
  have h := Rd_slice (w := w) (enc := enc) (fun s : List UInt8 => [IV.v (str s)]) Tryd.underlying22 (Nat.lt_of_lt_of_eq Nat.one_pos cells9.symm) rd9
  rw [cells9] at h
  exact h
theorem rd24 : Rd Tryd.prog w enc 24 fun is => ∃ c : List (List (List UInt8)), c.length = 8 ∧ is = c.map sS := Rd_array sS Tryd.underlying24 cells22 cells24 rd22
end

set_option maxRecDepth 100000 in
theorem contactDiffers_lifted (os : Os) (started : os.Started) (H : Type) (enc : TypeId × Value → H) :
    ReturnsInHanded {} Tryd.checked os 4 .any (fun w args => (Rows.contactDiffersSpec.pre enc Tryd.prog Tryd.f4 [] false w args ∧ laidMetH Tryd.prog laid3 w) ∧ sizedMet enc Tryd.prog Tryd.f4 (OpenSpec.ofChange Rows.contactDiffersSpec) false w args)
      (Rows.contactDiffersSpec.post enc Tryd.prog Tryd.f4 false true false false) := by
  refine returnsInHanded_of_change_and (C := Tryd.checked) (X := fun w _ => laidMetH Tryd.prog laid3 w) (fun _ _ _ hh h => h.of_heap hh) ownNone started (by kernel_rfl) Tryd.func4
    (ChangeSpec.witness_shaped (enc := enc) (C := Tryd.checked) (os := os) (X := fun w _ => laidMetH Tryd.prog laid3 w) false (World.doorLaid Tryd.prog 400 os) #[.agg #[.slice none 0 0, .slice none 0 0, .slice none 0 0, .slice none 0 0, .slice none 0 0, .slice none 0 0, .slice none 0 0, .slice none 0 0], .agg #[.slice none 0 0, .slice none 0 0, .slice none 0 0, .slice none 0 0, .slice none 0 0, .slice none 0 0, .slice none 0 0, .slice none 0 0]] 8 rfl (World.shaped_of_RefB (by kernel_rfl) (by kernel_rfl)) (by kernel_rfl) (by kernel_rfl) (by kernel_rfl) (door_met os _)) ?_
  intro W base args ds gs before hval0 hW _ _ hL _
  have hval : ∀ (j : Nat) t v, Tryd.f4.params[j]? = some t → args[j]? = some v → Value.okWide Tryd.prog W .any base t v := hval0
  have hW' := hW
  obtain ⟨p, q, hA0, hV, rfl, hfz, hnd⟩ := hW
  have hA : DataW.TrodAll enc Tryd.prog W 0 (fun _ => true) true Tryd.f4.params.toList args.toList ds p := hA0
  rw [Tryd.params4] at hA hval
  obtain ⟨v0, v1, d0, d1, p0, p1, rfl, rfl, rfl, h0, h1⟩ := trodAll_two hA
  obtain ⟨rfl, rfl⟩ := trodVars_none hV
  simp only [List.append_nil] at hW'
  have hlt := hW'.lt
  obtain ⟨cs, rfl⟩ : ∃ cs, v0 = .agg cs := by
    have := hval 0 24 v0 rfl rfl
    simp only [Value.okWide, Tryd.underlying24] at this
    obtain ⟨cs, e, _⟩ := this
    exact ⟨cs, e⟩
  obtain ⟨cs1, rfl⟩ : ∃ cs, v1 = .agg cs := by
    have := hval 1 24 v1 rfl rfl
    simp only [Value.okWide, Tryd.underlying24] at this
    obtain ⟨cs, e, _⟩ := this
    exact ⟨cs, e⟩
  obtain ⟨is, ⟨c, hc, rfl⟩, r0⟩ := rd24.agg h0
  obtain ⟨is1, ⟨c1, hc1, rfl⟩, r1⟩ := rd24.agg h1
  have hcall := (law4 (H := H0) (K := fun e _ => e = .ret (.v (.bool true))) c c1 hc hc1 rfl).run W g0 #[.agg cs, .agg cs1] (sim0 W) ⟨rfl, fun j x i hx hi => by
    match j, hx, hi with
    | 0, hx, hi => simp at hx hi; subst hx; subst hi; exact r0
    | 1, hx, hi => simp at hx hi; subst hx; subst hi; exact r1
    | j + 2, hx, hi => simp at hx⟩
  refine hcall.mono ?_
  rintro e W' ⟨ie, g', H', hm, _, hre, rfl⟩
  have hb := below_of_mono hm
  obtain ⟨rfl⟩ : e = .returned (.bool true) := by
    cases hre with
    | ret x i h => rw [h.v_eq]
  refine ⟨_, rfl, ?_⟩
  refine ⟨_, _, _, [], p0 ++ p1, [], hW', trodAll_mk1 (shut_bool Tryd.underlying4 _), ?_, ?_, hb.frame _, fun h => by cases h⟩
  · have hl0 : ∀ x ∈ p0, x.block < W.heap.size := fun x hx => hlt x (by simp [hx])
    have hl1 : ∀ x ∈ p1, x.block < W.heap.size := fun x hx => hlt x (by simp [hx])
    have k0 := Below.trod laidOutAll (by kernel_rfl) (of_decide_eq_true (by kernel_rfl)) h0 hb hl0
    have k1 := Below.trod laidOutAll (by kernel_rfl) (of_decide_eq_true (by kernel_rfl)) h1 hb hl1
    exact ⟨p0, p1, k0, ⟨p1, [], k1, rfl, by simp⟩, rfl⟩
  · rfl

theorem contactDiffers_row : Rows.ContactDiffersSaid :=
  OpenClaim.holds_of_wide 4 Tryd.f4 rfl rfl rfl rfl rfl rfl rfl ⟨rfl, rfl, rfl, rfl, rfl⟩ rfl rfl rfl rfl rfl (by kernel_rfl) Tryd.func4 (by kernel_rfl)
    (of_decide_eq_true (by kernel_rfl)) (by unfold Func.isWrapper; first | (rw [if_pos (by decide +kernel)]; kernel_rfl) | (rw [if_neg (by decide +kernel)]; exact ⟨rfl, rfl⟩))
    (fun os started H enc _ => contactDiffers_lifted os started H enc)

theorem contactDiffers_holds : Rows.ContactDiffersCardSaid :=
  Claim7.holds_tied_plain_at .later [] [.data, .data, .data] true (true, "e06da4eda374121d24afebe786776a281ddc4acf47a7b1219c6e4257523be161") false
    contactDiffers_row (fun _ h => by cases h) (by kernel_rfl) (fun _ h => by cases h) contactDiffers_row_tie rfl ⟨rfl, rfl⟩ (by kernel_rfl) rfl
    (fun f fn hf hfn => by
      obtain rfl : f = 4 := Option.some.inj ((show Tryd.prog.funcNamed "cardcase/cardcaselaw16.ContactDiffers" = some 4 by kernel_rfl).symm.trans hf) |>.symm
      obtain rfl : fn = Tryd.f4 := (Option.some.inj (Tryd.func4.symm.trans hfn)).symm
      exact ⟨by kernel_rfl, fun j t ht => by
        rw [Tryd.params4] at ht
        have hm : t ∈ [24, 24] := by simpa using Array.mem_of_getElem? ht
        have hall : ([24, 24].all fun u => !Tryd.prog.wantsStandIn u) = true := by kernel_rfl
        exact (show Tryd.prog.wantsStandIn t = false by simpa using List.all_eq_true.1 hall t hm)⟩)
    (by kernel_rfl)
end Go.Proofs.YtdmbcbdcabgifaaDoor
