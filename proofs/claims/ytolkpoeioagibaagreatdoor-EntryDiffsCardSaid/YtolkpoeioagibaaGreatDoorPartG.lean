/- An entry behind its difference to another one is that one. Part 7. Conditions: none. -/
import Derived.Test.YtolkpoeioagibaaGreatDoorPartF
import Derived.ProofKit
import Derived.OpenShut
import Derived.ChangeSame
import Derived.Test.YtolkpoeioagibaaGreatDoorRows
import Derived.Test.YtolkpoeioagibaaGreatDoorTie
import Derived.Test.YtolkpoeioagibaaGreatDoorCards
import Derived.LaidMore
import Derived.Carry
import Derived.Stop.Joined
import Derived.SevenTiedAt
import Derived.SizedLaws
set_option linter.unusedSimpArgs false
set_option linter.unusedVariables false

namespace Go.Idl

open Go

structure RightE (e : List S50) : Prop where
  srt : SrtE e
  name : ∀ a, a ∈ e → nameB a.fName = true ∧ smallS a.fName = a.fName
  vals : ∀ a, a ∈ e → a.fValues.length ≤ 16 ∧ a.fValues.all valB = true
  len : e.length ≤ 24

theorem right_iff (e : List S50) : rightB e = true ↔ RightE e := by
  simp only [rightB, okA, Bool.and_eq_true, decide_eq_true_eq, List.all_eq_true]
  constructor
  · rintro ⟨⟨h1, h2⟩, h3⟩
    exact ⟨⟨h3, fun a ha => ⟨fun e => by have := (h2 a ha).1.1.2.1; rw [e] at this; simp at this, (h2 a ha).2⟩⟩, fun a ha => ⟨(h2 a ha).1.1.1.1, (h2 a ha).1.1.1.2⟩, fun a ha => ⟨(h2 a ha).1.1.2.2, List.all_eq_true.2 (h2 a ha).1.2⟩, h1⟩
  · rintro ⟨⟨h1, h2⟩, h3, h4, h5⟩
    exact ⟨⟨h5, fun a ha => ⟨⟨⟨⟨(h3 a ha).1, (h3 a ha).2⟩, List.length_pos_iff.2 (h2 a ha).1, (h4 a ha).1⟩, List.all_eq_true.1 (h4 a ha).2⟩, (h2 a ha).2⟩⟩, h1⟩

theorem name_len {s : Str} (h : nameB s = true) : s.length ≤ 64 := by
  simp only [nameB, Bool.and_eq_true, decide_eq_true_eq] at h
  exact h.1.1.2

theorem tot_le {B : Nat} : ∀ {l : List S50}, (∀ a, a ∈ l → a.fValues.length ≤ B) → (l.map (·.fValues)).flatten.length ≤ l.length * B
  | [], _ => by simp
  | x :: l, h => by
    have h1 := h x (by simp)
    have h2 := tot_le (B := B) (l := l) fun a ha => h a (by simp [ha])
    rw [List.map_cons, List.flatten_cons, List.length_append, List.length_cons, Nat.add_mul, Nat.one_mul]
    omega

theorem RightE.sz {e : List S50} (h : RightE e) : SzO e := by
  refine ⟨by have := h.len; omega, fun a ha => by have := name_len (h.name a ha).1; omega, ?_⟩
  have h1 := tot_le fun a ha => (h.vals a ha).1
  have h2 := h.len
  have : e.length * 16 ≤ 24 * 16 := Nat.mul_le_mul_right _ h2
  omega

theorem gT_right {e : List S50} (hs : Rise (e.map (·.fName))) (hn : ∀ a, a ∈ e → smallS a.fName = a.fName) (n : Str) : gT (tabS e) n = getE e n := by
  rw [tabS_get]
  induction e with
  | nil => rfl
  | cons x e ih =>
    rw [List.map_cons, Rise, List.pairwise_cons] at hs
    have hx := hn x (by simp)
    by_cases h : x.fName = n
    · rw [List.filter_cons_of_pos (by rw [hx, h]; simp)]
      have hnil : e.filter (fun a => decide (smallS a.fName = n)) = [] := List.filter_eq_nil_iff.2 fun a ha => by
        rw [hn a (by simp [ha])]
        have h1 := hs.1 a.fName (List.mem_map_of_mem ha)
        intro h2
        simp only [decide_eq_true_eq] at h2
        rw [h, h2] at h1
        exact lt8_irrefl _ h1
      rw [hnil]
      simp [getE, h]
    · rw [List.filter_cons_of_neg (by rw [hx]; simp [h])]
      simp only [getE, h, if_false]
      exact ih hs.2 fun a ha => hn a (by simp [ha])

theorem getE_rise {e : List S50} (h : SrtE e) (n : Str) : Rise (getE e n) := by
  by_cases hn : getE e n = []
  · rw [hn]; simp [Rise]
  · obtain ⟨a, ha, rfl⟩ := List.mem_map.1 ((mem_names h n).2 hn)
    rw [getE_mem h.names ha]
    exact (h.vals a ha).2

def stepS (e : List S50) (m : S48) : List S50 ⊕ Int :=
  match chS m.fKind (getE e (smallS m.fName)) m.fValues with
  | .inr w => .inr w
  | .inl x => if (U x).length ≤ 16 ∧ (setE e (smallS m.fName) (U x)).length ≤ 24 then .inl (setE e (smallS m.fName) (U x)) else .inr 3

def runS : List S50 → List S48 → List S50 × Int
  | e, [] => (e, 0)
  | e, m :: l => match stepS e m with
    | .inl e' => runS e' l
    | .inr w => ([], w)

def doS (e : List S50) (l : List S48) : List S50 × Int := if rightB e = true ∧ l.all mayB = true then runS e l else ([], 2)

theorem chS_ne (k : Int) (has v : List Str) (w : Int) (h : chS k has v = .inr w) : w ≠ 0 := by
  unfold chS at h
  split at h
  · split at h
    · cases h; decide
    · cases h
  · split at h
    · split at h
      · cases h; decide
      · cases h
    · cases h

theorem chS_nil {has : List Str} {x : List Str} (h : chS 2 has [] = .inl x) : x = [] := by
  simp only [chS] at h
  rw [if_neg (by decide), if_pos trivial] at h
  split at h
  · cases h
  · simpa using h.symm

theorem ch_ent {e : List S50} (hr : RightE e) (k : Int) (n : Str) (v x : List Str) (hk : chS k (getE e n) v = .inl x) :
    entT (chT (tabS e) k n v).2 = setE e n (U x) ∧ (fitT (chT (tabS e) k n v).2 = true ↔ (U x).length ≤ 16 ∧ (setE e n (U x)).length ≤ 24) := by
  have hg := gT_right hr.srt.names fun a ha => (hr.name a ha).2
  have ht : ∀ m, gT (chT (tabS e) k n v).2 m = if m = n then x else getE e m := by
    intro m
    unfold chT
    rw [hg, hk]
    simp only
    by_cases hc : k = 2 ∧ v = []
    · rw [if_pos hc, gT_del (tabS_nodup e), hg]
      obtain ⟨rfl, rfl⟩ := hc
      rw [chS_nil hk]
    · rw [if_neg hc, gT_set, hg]
  have hv : ∀ m, vT (chT (tabS e) k n v).2 m = if m = n then U x else getE e m := by
    intro m
    unfold vT
    rw [ht]
    split
    · rfl
    · exact U_of_rise (getE_rise hr.srt m)
  have he : entT (chT (tabS e) k n v).2 = setE e n (U x) := srt_uniq (entT_srt _) (setE_srt hr.srt (U_rise x)) fun m => by rw [entT_get, hv, setE_get hr.srt]
  refine ⟨he, ?_⟩
  rw [fitT_iff, he]
  constructor
  · rintro ⟨h1, h2⟩
    have := h1 n
    rw [hv, if_pos rfl] at this
    exact ⟨this, h2⟩
  · rintro ⟨h1, h2⟩
    refine ⟨fun m => ?_, h2⟩
    rw [hv]
    split
    · exact h1
    · exact getE_len (fun a ha => (hr.vals a ha).1) m

theorem setE_right {e : List S50} (hr : RightE e) {n : Str} {v : List Str} (hn : nameB n = true) (hs : smallS n = n) (hv : Rise v) (hl : v.length ≤ 16) (hb : v.all valB = true) (hlen : (setE e n v).length ≤ 24) : RightE (setE e n v) := by
  have hmem : ∀ a, a ∈ setE e n v → a = ⟨n, v⟩ ∨ a ∈ e := by
    intro a ha
    unfold setE at ha
    split at ha
    · exact .inr (List.mem_filter.1 ha).1
    · exact insG_mem ha
  refine ⟨setE_srt hr.srt hv, fun a ha => ?_, fun a ha => ?_, hlen⟩
  · rcases hmem a ha with rfl | ha
    · exact ⟨hn, hs⟩
    · exact hr.name a ha
  · rcases hmem a ha with rfl | ha
    · exact ⟨hl, hb⟩
    · exact hr.vals a ha

theorem getE_val {e : List S50} (hr : RightE e) (n : Str) : (getE e n).all valB = true := by
  by_cases hn : getE e n = []
  · rw [hn]; rfl
  · obtain ⟨a, ha, rfl⟩ := List.mem_map.1 ((mem_names hr.srt n).2 hn)
    rw [getE_mem hr.srt.names ha]
    exact (hr.vals a ha).2

theorem chS_sub {k : Int} {has v x : List Str} (h : chS k has v = .inl x) : ∀ s, s ∈ x → s ∈ has ∨ s ∈ v := by
  intro s hs
  unfold chS at h
  split at h
  · split at h
    · cases h
    · cases h; exact List.mem_append.1 hs
  · split at h
    · split at h
      · cases h
      · cases h
        split at hs
        · simp at hs
        · exact .inl (List.mem_filter.1 hs).1
    · cases h; exact .inr hs

theorem stepS_right {e e' : List S50} {m : S48} (hr : RightE e) (hm : mayB m = true) (h : stepS e m = .inl e') : RightE e' := by
  simp only [mayB, Bool.and_eq_true, decide_eq_true_eq, List.all_eq_true] at hm
  obtain ⟨⟨⟨⟨h1, h2⟩, h3⟩, h4⟩, h5⟩ := hm
  unfold stepS at h
  split at h
  · cases h
  · rename_i x hx
    split at h
    · rename_i hc
      cases h
      refine setE_right hr (by rw [name_small]; exact h2) (small_small _) (U_rise x) hc.1 ?_ hc.2
      rw [List.all_eq_true]
      intro s hs
      rcases chS_sub hx s ((U_mem x s).1 hs) with h | h
      · exact List.all_eq_true.1 (getE_val hr _) s h
      · exact h4 s h
    · cases h

theorem may_kind {m : S48} (hm : mayB m = true) : m.fKind = 1 ∨ m.fKind = 2 ∨ m.fKind = 3 := by
  simp only [mayB, Bool.and_eq_true, decide_eq_true_eq] at hm
  omega

theorem may_name {m : S48} (hm : mayB m = true) : m.fName.length ≤ 64 := by
  simp only [mayB, Bool.and_eq_true, decide_eq_true_eq] at hm
  exact name_len hm.1.1.1.2

theorem may_vals {m : S48} (hm : mayB m = true) : m.fValues.length ≤ 16 := by
  simp only [mayB, Bool.and_eq_true, decide_eq_true_eq] at hm
  exact hm.1.1.2

theorem SzT.ch {e : List S50} (hr : RightE e) (k : Int) (n : Str) (v : List Str) (hn : n.length ≤ 1000000) (hv : v.length ≤ 16) : SzT (chT (tabS e) k n v).2 := by
  have hz := tabS_sz hr.sz
  have hg := gT_right hr.srt.names fun a ha => (hr.name a ha).2
  have hgl : ∀ m, (gT (tabS e) m).length ≤ 16 := fun m => by rw [hg]; exact getE_len (fun a ha => (hr.vals a ha).1) m
  have hl := tabS_len e
  have hl2 := hr.len
  have dl : ∀ (t : Tab), (mdel t n).length ≤ t.length ∧ ∀ q, q ∈ keysT (mdel t n) → q ∈ keysT t := by
    intro t
    induction t with
    | nil => simp [mdel, keysT]
    | cons p t ih =>
      simp only [mdel]
      split
      · exact ⟨by simp, fun q hq => by simp only [keysT, List.map_cons, List.mem_cons]; exact .inr hq⟩
      · refine ⟨by simp; exact ih.1, fun q hq => ?_⟩
        simp only [keysT, List.map_cons, List.mem_cons] at hq ⊢
        rcases hq with hq | hq
        · exact .inl hq
        · exact .inr (ih.2 q hq)
  unfold chT
  split
  · exact hz
  · rename_i x hx
    have hxl : x.length ≤ 32 := by
      have := hgl n
      unfold chS at hx
      split at hx
      · split at hx
        · cases hx
        · cases hx; rw [List.length_append]; omega
      · split at hx
        · split at hx
          · cases hx
          · cases hx
            split
            · simp
            · exact Nat.le_trans (List.length_filter_le _ _) (by omega)
        · cases hx; omega
    simp only
    split
    · refine ⟨Nat.le_trans (dl _).1 hz.len, fun q hq => hz.key q ((dl _).2 q hq), fun q => ?_⟩
      rw [gT_del (tabS_nodup e)]
      split
      · simp
      · exact hz.vals q
    · refine ⟨Nat.le_trans (set_len _ _ _) (by omega), fun q hq => ?_, fun q => ?_⟩
      · rcases (keys_set _ _ _ q).1 hq with rfl | hq
        · exact hn
        · exact hz.key q hq
      · rw [gT_set]
        split
        · omega
        · exact hz.vals q

theorem do_loop {step : List S50 × Int → Option ((List S50 × Int) ⊕ (List S50 ⊕ (List S50 × Int)))} (e : List S50) (l : List S48) (hr : RightE e) (hm : l.all mayB = true) (hl : l.length ≤ 1000000)
    (hs : ∀ (i : Nat) (h : i < l.length) (a : List S50), RightE a → mayB l[i] = true → step (a, (i : Int)) = some (match stepS a l[i] with | .inl a' => .inl (a', IntKind.i64.wrap ((i : Int) + 1)) | .inr w => .inr (.inr ([], w))))
    (hf : ∀ a, step (a, (l.length : Int)) = some (.inr (.inl a))) : ∃ y, loopO step (e, 0) = some y ∧ Sum.elim (fun a => (a, (0 : Int))) id y = runS e l := by
  rw [List.all_eq_true] at hm
  rw [loopO_run l (fun _ a m => match stepS a m with | .inl a' => .inl a' | .inr w => .inr (.inr ([], w))) .inl (fun i a => RightE a) (by omega) hr
    (fun i hi a hI => by
      rw [hs i hi a hI (hm _ (List.getElem_mem _))]
      cases stepS a l[i] <;> rfl)
    (fun i hi a a' hI h => by
      split at h
      · rename_i a2 h2
        simp only [Sum.inl.injEq] at h
        subst h
        exact stepS_right hI (hm _ (List.getElem_mem _)) h2
      · cases h)
    (fun a _ => hf a)]
  refine ⟨_, rfl, ?_⟩
  clear hs hf hm hr hl
  have key : ∀ (l : List S48) (i : Nat) (e : List S50), Sum.elim (fun a => (a, (0 : Int))) id (runI (fun _ (a : List S50) (m : S48) => match stepS a m with | .inl a' => .inl a' | .inr w => .inr (.inr (([] : List S50), w))) (.inl : List S50 → List S50 ⊕ (List S50 × Int)) i e l) = runS e l := by
    intro l
    induction l with
    | nil => intro i e; rfl
    | cons m l ih =>
      intro i e
      rw [runI_cons]
      unfold runS
      cases stepS e m with
      | inl a => exact ih (i + 1) a
      | inr w => rfl
  exact key l 0 e

theorem F14_eq (e : List S50) (l : List S48) (he : SzE e) (hl : SzM l) : F14 e l = some (doS e l) := by
  unfold F14 doS
  rw [F17_eq e he]
  simp only [Option.bind_some]
  by_cases h1 : rightB e = true
  · rw [if_pos h1, if_neg (by simp), F35_eq l hl]
    simp only [Option.bind_some]
    have hr := (right_iff e).1 h1
    by_cases h2 : l.all mayB = true
    · rw [if_neg (by simp only [h2, not_true, not_false_eq_true]), if_pos ⟨h1, h2⟩]
      have h28 : F28 e = some e := gd_pos ⟨by have := he.len; omega, fun a ha => by have := he.vals a ha; omega⟩
      rw [h28]
      simp only [Option.bind_some]
      obtain ⟨y, q1, q2⟩ := do_loop (step := fun (s : (List S50) × Int) => F14_b14 l s.1 s.2) e l hr h2 hl.len
        (fun i hi a hra hma => by
          have hlen := hl.len
          have hgl : (gT (tabS a) (smallS l[i].fName)).length ≤ 500000 := by
            rw [gT_right hra.srt.names fun a ha => (hra.name a ha).2]
            have := getE_len (fun a ha => (hra.vals a ha).1) (smallS l[i].fName)
            omega
          have hvl := may_vals hma
          have hnl := may_name hma
          have hgr := gT_right hra.srt.names (fun a ha => (hra.name a ha).2) (smallS l[i].fName)
          have k27 : ∀ (k : Int) (hk : l[i].fKind = k), (if ¬ (chT (tabS a) k (smallS l[i].fName) l[i].fValues).1 = 0 then some (.inr (.inr ([], (chT (tabS a) k (smallS l[i].fName) l[i].fValues).1))) else F14_k27 (i : Int) (chT (tabS a) k (smallS l[i].fName) l[i].fValues).2) = some (match stepS a l[i] with | .inl a' => .inl (a', IntKind.i64.wrap ((i : Int) + 1)) | .inr w => .inr (.inr ([], w))) := by
            intro k hk
            have hsz := SzT.ch hra k (smallS l[i].fName) l[i].fValues (by simp; omega) hvl
            unfold stepS
            rw [hk]
            cases hch : chS k (getE a (smallS l[i].fName)) l[i].fValues with
            | inr w =>
              have h0 := chS_ne _ _ _ _ hch
              have hT : chT (tabS a) k (smallS l[i].fName) l[i].fValues = (w, tabS a) := by unfold chT; rw [hgr, hch]
              rw [hT, if_pos h0]
            | inl x =>
              obtain ⟨c1, c2⟩ := ch_ent hra k _ _ _ hch
              have hT : (chT (tabS a) k (smallS l[i].fName) l[i].fValues).1 = 0 := by unfold chT; rw [hgr, hch]
              rw [hT, if_neg (by simp)]
              unfold F14_k27
              rw [F42_eq _ hsz, c1]
              simp only [Option.bind_some]
              by_cases hf : fitT (chT (tabS a) k (smallS l[i].fName) l[i].fValues).2 = true
              · rw [if_pos hf, if_pos (c2.1 hf)]
                simp
              · rw [if_neg hf, if_neg (fun h => hf (c2.2 h))]
                simp
          simp only [F14_b14]
          rw [if_pos (by omega), gd_pos (by omega), Int.toNat_natCast, F40_eq hra.sz]
          have hgi : l.getD i S48.zero = l[i] := getD_some hi _
          simp only [hgi, Option.bind_some]
          rw [F41_eq _ (by omega)]
          simp only [Option.bind_some]
          rw [F37_eq _ _ _ hgl (by omega), F38_eq _ _ _ hgl (by omega), F39_eq _ _ _ (by omega)]
          simp only [Option.bind_some]
          rcases may_kind hma with hk | hk | hk
          · rw [if_pos hk]; exact k27 1 hk
          · rw [if_neg (by rw [hk]; decide), if_pos hk]; exact k27 2 hk
          · rw [if_neg (by rw [hk]; decide), if_neg (by rw [hk]; decide), if_pos hk]; exact k27 3 hk)
        (fun a => by simp only [F14_b14]; rw [if_neg (by omega)])
      rw [q1]
      simp only [Option.bind_some, ← q2]
      cases y <;> rfl
    · rw [if_pos h2, if_neg (fun h => h2 h.2)]
  · rw [if_neg h1, if_pos (by simp), if_neg (fun h => h1 h.1)]

end Go.Idl

namespace Go.Idl

open Go

theorem chS_2 (has v : List Str) : chS 2 has v = if (v = [] ∧ has = []) ∨ ¬ v.Nodup ∨ ¬ (∀ s, s ∈ v → s ∈ has) then .inr 171 else .inl (if v = [] then [] else has.filter fun s => !decide (s ∈ v)) := by
  unfold chS
  rw [if_neg (by decide), if_pos rfl]

theorem chS_3 (has v : List Str) : chS 3 has v = .inl v := by
  unfold chS
  rw [if_neg (by decide), if_neg (by decide)]

end Go.Idl

namespace Go.Idl

open Go

theorem F57_eq (a b : List S50) (ha : a.length ≤ 1000) (hb : b.length ≤ 1000) : F57 [a, b] = some (a ++ b) := by
  unfold F57
  rw [loopO_run [a, b] (fun _ (n : Int) (x : List S50) => .inl (n + x.length)) id (fun i n => 0 ≤ n ∧ n ≤ 1000 * i) (by simp) (by simp)
    (fun i hi n hI => by
      have h2 : ([a, b] : List (List S50))[i].length ≤ 1000 := by
        have := List.getElem_mem hi
        simp only [List.mem_cons, List.not_mem_nil, or_false] at this
        rcases this with e | e <;> rw [e] <;> assumption
      simp only [List.length_cons, List.length_nil] at hi
      simp only [F57_b5]
      rw [if_pos (by simp only [List.length_cons, List.length_nil]; omega), gd_pos (by simp only [List.length_cons, List.length_nil]; omega), Int.toNat_natCast, getD_some (by simp only [List.length_cons, List.length_nil]; omega)]
      have hw : IntKind.i64.wrap (n + (([a, b] : List (List S50))[i].length : Int)) = n + (([a, b] : List (List S50))[i].length : Int) := wrap_i64 (by omega) (by omega)
      rw [hw, if_neg (by omega)])
    (fun i hi n n' hI h => by
      have h2 : ([a, b] : List (List S50))[i].length ≤ 1000 := by
        have := List.getElem_mem hi
        simp only [List.mem_cons, List.not_mem_nil, or_false] at this
        rcases this with e | e <;> rw [e] <;> assumption
      simp only [Sum.inl.injEq] at h
      omega)
    (fun n _ => by simp only [F57_b5]; rw [if_neg (by omega)]; rfl)]
  rw [runI_inl]
  simp only [Option.bind_some, List.foldl_cons, List.foldl_nil, id, F57_k5]
  have h90 : F90 [] (0 + (a.length : Int) + (b.length : Int)) = some [] := gd_pos ⟨rfl, by omega, by omega⟩
  rw [h90]
  simp only [Option.bind_some]
  rw [loopO_run [a, b] (fun _ (o : List S50) (x : List S50) => .inl (o ++ x)) id (fun i o => o.length ≤ 1000 * i) (by simp) (by simp)
    (fun i hi n hI => by
      have h2 : ([a, b] : List (List S50))[i].length ≤ 1000 := by
        have := List.getElem_mem hi
        simp only [List.mem_cons, List.not_mem_nil, or_false] at this
        rcases this with e | e <;> rw [e] <;> assumption
      simp only [List.length_cons, List.length_nil] at hi
      simp only [F57_b14]
      rw [if_pos (by simp only [List.length_cons, List.length_nil]; omega), gd_pos (by simp only [List.length_cons, List.length_nil]; omega), Int.toNat_natCast, getD_some (by simp only [List.length_cons, List.length_nil]; omega), gd_pos (by omega)])
    (fun i hi n n' hI h => by
      have h2 : ([a, b] : List (List S50))[i].length ≤ 1000 := by
        have := List.getElem_mem hi
        simp only [List.mem_cons, List.not_mem_nil, or_false] at this
        rcases this with e | e <;> rw [e] <;> assumption
      simp only [Sum.inl.injEq] at h
      subst h
      rw [List.length_append]
      omega)
    (fun n _ => by simp only [F57_b14]; rw [if_neg (by omega)]; rfl)]
  rw [runI_inl]
  simp [F57_k14]

def dmS (a b : List S50) (n : Str) : Option S48 := if getE a n = getE b n then none else some ⟨if getE b n = [] then 2 else if getE a n = [] then 1 else 3, n, getE b n⟩

def namesS (a b : List S50) : List Str := U (a.map (·.fName) ++ b.map (·.fName))

def diffS (a b : List S50) : List S48 := (namesS a b).filterMap (dmS a b)

theorem tab_names {a b : List S50} (ha : RightE a) (hb : RightE b) : U (keysT (tabS (a ++ b))) = namesS a b := by
  refine U_congr fun n => ?_
  rw [tabS_keys]
  simp only [List.mem_append, List.mem_map]
  constructor
  · rintro ⟨x, hx | hx, rfl⟩
    · exact .inl ⟨x, hx, ((ha.name x hx).2).symm⟩
    · exact .inr ⟨x, hx, ((hb.name x hx).2).symm⟩
  · rintro (⟨x, hx, rfl⟩ | ⟨x, hx, rfl⟩)
    · exact ⟨x, .inl hx, (ha.name x hx).2⟩
    · exact ⟨x, .inr hx, (hb.name x hx).2⟩

theorem names_small {a b : List S50} (ha : RightE a) (hb : RightE b) {n : Str} (h : n ∈ namesS a b) : smallS n = n ∧ n.length ≤ 64 ∧ nameB n = true := by
  rw [namesS, U_mem] at h
  simp only [List.mem_append, List.mem_map] at h
  rcases h with ⟨x, hx, rfl⟩ | ⟨x, hx, rfl⟩
  · exact ⟨(ha.name x hx).2, name_len (ha.name x hx).1, (ha.name x hx).1⟩
  · exact ⟨(hb.name x hx).2, name_len (hb.name x hx).1, (hb.name x hx).1⟩

theorem sz_app {a b : List S50} (ha : RightE a) (hb : RightE b) : SzO (a ++ b) := by
  refine ⟨by have := ha.len; have := hb.len; rw [List.length_append]; omega, fun x hx => ?_, ?_⟩
  · rcases List.mem_append.1 hx with hx | hx
    · exact ha.sz.name x hx
    · exact hb.sz.name x hx
  · rw [List.map_append, List.flatten_append, List.length_append]
    have h1 := tot_le fun x hx => (ha.vals x hx).1
    have h2 := tot_le fun x hx => (hb.vals x hx).1
    have h3 := ha.len
    have h4 := hb.len
    have : a.length * 16 ≤ 24 * 16 := Nat.mul_le_mul_right _ h3
    have : b.length * 16 ≤ 24 * 16 := Nat.mul_le_mul_right _ h4
    omega

theorem F24_eq (a b : List S50) (ha : SzE a) (hb : SzE b) : F24 a b = some (if rightB a = true ∧ rightB b = true then (diffS a b, 0) else ([], 2)) := by
  unfold F24
  rw [F17_eq a ha, F17_eq b hb]
  simp only [Option.bind_some]
  by_cases h1 : rightB a = true
  · rw [if_pos h1, if_neg (by simp)]
    by_cases h2 : rightB b = true
    · rw [if_pos h2, if_neg (by simp), if_pos ⟨h1, h2⟩]
      have ra := (right_iff a).1 h1
      have rb := (right_iff b).1 h2
      rw [F57_eq a b (by have := ra.len; omega) (by have := rb.len; omega)]
      simp only [Option.bind_some]
      rw [F40_eq (sz_app ra rb)]
      simp only [Option.bind_some]
      have hz := tabS_sz (sz_app ra rb)
      have h58 : F58k (tabS (a ++ b)) = some (namesS a b) := by
        rw [← tab_names ra rb]
        exact gd_pos ⟨by have := hz.len; omega, fun p hp => by have := hz.key p.1 (List.mem_map_of_mem hp); omega⟩
      rw [h58]
      simp only [Option.bind_some]
      have hnl : (namesS a b).length ≤ 48 := by
        have h0 := U_len_le (a.map (·.fName) ++ b.map (·.fName))
        have h3 := ra.len
        have h4 := rb.len
        rw [List.length_append, List.length_map, List.length_map] at h0
        show (U (a.map (·.fName) ++ b.map (·.fName))).length ≤ 48
        omega
      rw [loopO_run (namesS a b) (fun _ (o : List S48) n => .inl (match dmS a b n with | none => o | some m => o ++ [m])) id (fun i o => o.length ≤ i) (by omega) (by simp)
        (fun i hi o hI => by
          obtain ⟨hs1, hs2, _⟩ := names_small ra rb (List.getElem_mem hi)
          simp only [F24_b17]
          rw [if_pos (by omega), gd_pos (by omega), Int.toNat_natCast, getD_some hi, F22_eq a _ ha (by omega), F22_eq b _ hb (by omega), hs1]
          simp only [Option.bind_some]
          have hga : (getE a (namesS a b)[i]).length ≤ 16 := getE_len (fun x hx => (ra.vals x hx).1) _
          rw [F60_eq _ _ (by omega)]
          simp only [Option.bind_some, dmS]
          by_cases g1 : getE a (namesS a b)[i] = getE b (namesS a b)[i]
          · rw [if_pos (by simp [g1]), if_pos g1]
          · rw [if_neg (by simp [g1]), if_neg g1]
            by_cases g2 : getE b (namesS a b)[i] = []
            · rw [if_pos (by simp [g2]), gd_pos (by simp only [List.length_cons, List.length_nil]; omega), if_pos g2]
            · rw [if_neg (by simpa using g2), if_neg g2]
              by_cases g3 : getE a (namesS a b)[i] = []
              · rw [if_pos (by simp [g3]), gd_pos (by simp only [List.length_cons, List.length_nil]; omega), if_pos g3]
              · rw [if_neg (by simpa using g3), gd_pos (by simp only [List.length_cons, List.length_nil]; omega), if_neg g3])
        (fun i hi o o' hI h => by
          simp only [Sum.inl.injEq] at h
          subst h
          split
          · omega
          · simp; omega)
        (fun o _ => by simp only [F24_b17]; rw [if_neg (by omega)]; rfl)]
      rw [runI_inl]
      have key : ∀ (l : List Str) (o : List S48), l.foldl (fun (o : List S48) n => match dmS a b n with | none => o | some m => o ++ [m]) o = o ++ l.filterMap (dmS a b) := by
        intro l
        induction l with
        | nil => intro o; simp
        | cons n l ih =>
          intro o
          rw [List.foldl_cons, ih, List.filterMap_cons]
          cases dmS a b n <;> simp
      rw [key]
      rfl
    · rw [if_neg h2, if_pos (by simp), if_neg (fun h => h2 h.2)]
  · rw [if_neg h1, if_pos (by simp), if_neg (fun h => h1 h.1)]

/-! ### How great things may be -/

theorem F34_ex (l : List Str) : ∃ q, F34 l 20 = some q ∧ (q.2 = true → l.length ≤ 20 ∧ ∀ s, s ∈ l → s.length ≤ 3000) := by
  unfold F34
  by_cases h : (20 : Int) < (l.length : Int)
  · rw [if_pos h]; exact ⟨_, rfl, fun h => by cases h⟩
  · rw [if_neg h]
    obtain ⟨r, h1, h2⟩ := loopO_for2 (step := fun (s : Int × Int) => F34_b9 l s.1 s.2) (a := (0 : Int)) (Post := fun r => (∃ n, r = .inl n ∧ ∀ s, s ∈ l → s.length ≤ 3000) ∨ r = .inr (0, false)) l.length (fun i _ => ∀ s, s ∈ l.take i → s.length ≤ 3000) (by simp)
      (fun i n hi hI => by
        simp only [F34_b9]
        rw [if_pos (by omega), gd_pos (by omega), Int.toNat_natCast, getD_some hi]
        by_cases h : 3000 < (l[i].length : Int)
        · rw [if_pos h]; exact .inr ⟨_, rfl, .inr rfl⟩
        · rw [if_neg h, wrap_nat (i := i) (by omega)]
          refine .inl ⟨_, rfl, fun s hs => ?_⟩
          rw [List.take_succ_eq_append_getElem hi, List.mem_append] at hs
          rcases hs with hs | hs
          · exact hI s hs
          · simp at hs; subst hs; omega)
      (fun n hI => by
        simp only [F34_b9]
        rw [if_neg (by omega)]
        rw [List.take_length] at hI
        exact ⟨_, rfl, .inl ⟨n, rfl, hI⟩⟩)
    rw [h1]
    rcases h2 with ⟨n, rfl, h2⟩ | rfl
    · exact ⟨_, rfl, fun _ => ⟨by omega, h2⟩⟩
    · exact ⟨_, rfl, fun h => by cases h⟩

structure LightE (e : List S50) : Prop where
  len : e.length ≤ 30
  name : ∀ a, a ∈ e → a.fName.length ≤ 200
  vals : ∀ a, a ∈ e → a.fValues.length ≤ 20
  val : ∀ a, a ∈ e → ∀ s, s ∈ a.fValues → s.length ≤ 3000

theorem F11_ex (e : List S50) : ∃ b, F11 e = some b ∧ (b = true → LightE e) := by
  unfold F11
  by_cases h : (30 : Int) < (e.length : Int)
  · rw [if_pos h]; exact ⟨_, rfl, fun h => by cases h⟩
  · rw [if_neg h]
    obtain ⟨r, h1, h2⟩ := loopO_for2 (step := fun (s : Int × Int) => F11_b9 e s.1 s.2) (a := (0 : Int)) (Post := fun r => (∃ n, r = .inl n ∧ ∀ a, a ∈ e → a.fName.length ≤ 200 ∧ a.fValues.length ≤ 20 ∧ ∀ s, s ∈ a.fValues → s.length ≤ 3000) ∨ r = .inr false) e.length (fun i _ => ∀ a, a ∈ e.take i → a.fName.length ≤ 200 ∧ a.fValues.length ≤ 20 ∧ ∀ s, s ∈ a.fValues → s.length ≤ 3000) (by simp)
      (fun i n hi hI => by
        obtain ⟨q, g1, g2⟩ := F34_ex e[i].fValues
        simp only [F11_b9]
        rw [if_pos (by omega), gd_pos (by omega), Int.toNat_natCast, getD_some hi, g1]
        simp only [Option.bind_some]
        by_cases h : q.2 = true
        · rw [if_neg (by simp [h])]
          by_cases h' : 200 < (e[i].fName.length : Int)
          · rw [if_pos h']; exact .inr ⟨_, rfl, .inr rfl⟩
          · rw [if_neg h', wrap_nat (i := i) (by omega)]
            refine .inl ⟨_, rfl, fun a ha => ?_⟩
            rw [List.take_succ_eq_append_getElem hi, List.mem_append] at ha
            rcases ha with ha | ha
            · exact hI a ha
            · simp at ha; subst ha; exact ⟨by omega, g2 h⟩
        · rw [if_pos h]; exact .inr ⟨_, rfl, .inr rfl⟩)
      (fun n hI => by
        simp only [F11_b9]
        rw [if_neg (by omega)]
        rw [List.take_length] at hI
        exact ⟨_, rfl, .inl ⟨n, rfl, hI⟩⟩)
    rw [h1]
    rcases h2 with ⟨n, rfl, h2⟩ | rfl
    · exact ⟨_, rfl, fun _ => ⟨by omega, fun a ha => (h2 a ha).1, fun a ha => (h2 a ha).2.1, fun a ha => (h2 a ha).2.2⟩⟩
    · exact ⟨_, rfl, fun h => by cases h⟩

theorem LightE.sz {e : List S50} (h : LightE e) : SzO e := by
  refine ⟨by have := h.len; omega, fun a ha => by have := h.name a ha; omega, ?_⟩
  have h1 := tot_le h.vals
  have h2 := h.len
  have : e.length * 20 ≤ 30 * 20 := Nat.mul_le_mul_right _ h2
  omega

end Go.Idl

namespace Go.Idl

open Go Go.Proofs Go.Shelf

def kL : List S50 := [⟨[77, 97, 105, 108], [[98], [97]]⟩, ⟨[67, 78], [[120]]⟩]

def kE : List S50 := [⟨[99, 110], [[120]]⟩, ⟨[109, 97, 105, 108], [[97], [98]]⟩]

def kE1 : List S50 := [⟨[99, 110], [[120], [121]]⟩, ⟨[109, 97, 105, 108], [[97], [98]]⟩]

def kO : List S50 := [⟨[99, 110], [[121]]⟩, ⟨[109, 97, 105, 108], [[97], [98]]⟩]

def kM : List S48 := [⟨1, [99, 110], [[121]]⟩, ⟨2, [99, 110], [[120]]⟩]

theorem kE_right : rightB kE = true := by decide

theorem kO_right : rightB kO = true := by decide

theorem kL_ok : kL.all okR = true := by decide

theorem kL_sz : SzO kL := ⟨by decide, by decide, by decide⟩

theorem kL_tab : tabS kL = [([109, 97, 105, 108], [[98], [97]]), ([99, 110], [[120]])] := by decide

theorem U_ba : U [[98], [97]] = ([[97], [98]] : List Str) := rise_uniq (U_rise _) (by decide) fun x => by rw [U_mem]; simp [or_comm]

theorem kL_get (n : Str) : getE kE n = vT (tabS kL) n := by
  rw [kL_tab]
  simp only [kE, getE, vT, gT, mget]
  by_cases h1 : ([109, 97, 105, 108] : Str) = n
  · subst h1
    rw [if_neg (by decide), if_pos rfl, if_pos rfl]
    exact U_ba.symm
  · rw [if_neg h1, if_neg h1]
    by_cases h2 : ([99, 110] : Str) = n
    · subst h2
      rw [if_pos rfl, if_pos rfl]
      exact (U_of_rise (by decide)).symm
    · rw [if_neg h2, if_neg h2]
      exact U_nil.symm

theorem kL_ent : entT (tabS kL) = kE := srt_uniq (entT_srt _) ((right_iff kE).1 kE_right).srt fun n => by rw [entT_get, kL_get]

theorem kL_order : orderS kL = (kE, 0) := by
  unfold orderS
  rw [if_pos kL_ok]
  have hf : fitT (tabS kL) = true := (fitT_iff _).2 ⟨fun n => by
    have h1 := U_len_le (gT (tabS kL) n)
    have h2 := gT_le n kL
    have h3 : (kL.map (·.fValues)).flatten.length = 3 := by decide
    show (U (gT (tabS kL) n)).length ≤ 16
    omega, by rw [kL_ent]; decide⟩
  rw [if_pos hf, kL_ent]

theorem k_step1 : stepS kE ⟨1, [99, 110], [[121]]⟩ = .inl kE1 := by
  have h1 : chS 1 (getE kE (smallS [99, 110])) [[121]] = .inl [[120], [121]] := by decide
  have hU : U [[120], [121]] = ([[120], [121]] : List Str) := U_of_rise (by decide)
  have hS : setE kE (smallS [99, 110]) [[120], [121]] = kE1 := by decide
  unfold stepS
  simp only [h1, hU, hS]
  rw [if_pos ⟨by decide, by decide⟩]

theorem k_step2 : stepS kE1 ⟨2, [99, 110], [[120]]⟩ = .inl kO := by
  have h1 : chS 2 (getE kE1 (smallS [99, 110])) [[120]] = .inl [[121]] := by decide
  have hU : U [[121]] = ([[121]] : List Str) := U_of_rise (by decide)
  have hS : setE kE1 (smallS [99, 110]) [[121]] = kO := by decide
  unfold stepS
  simp only [h1, hU, hS]
  rw [if_pos ⟨by decide, by decide⟩]

theorem k_do : doS kE kM = (kO, 0) := by
  unfold doS
  rw [if_pos ⟨kE_right, by decide⟩]
  simp only [kM, runS, k_step1, k_step2]

theorem k_names : namesS kE kO = [[99, 110], [109, 97, 105, 108]] := rise_uniq (U_rise _) (by decide) fun x => by
  rw [namesS, U_mem]
  simp [kE, kO]
  constructor
  · rintro (h | h | h | h) <;> simp [h]
  · rintro (h | h) <;> simp [h]

theorem k_diff : diffS kE kO = [⟨3, [99, 110], [[121]]⟩] := by
  unfold diffS
  rw [k_names]
  decide

theorem k_text : entryT kO = [99, 110, 32, 49, 10, 49, 32, 121, 10, 109, 97, 105, 108, 32, 50, 10, 49, 32, 97, 10, 49, 32, 98, 10] := by
  have d1 : Lib.decDigits 1 = [49] := by unfold Lib.decDigits; rfl
  have d2 : Lib.decDigits 2 = [50] := by unfold Lib.decDigits; rfl
  simp [kO, entryT, attrT, headT, valT, d1, d2]

theorem F13_eq : F13 = some true := by
  have szE : ∀ {e : List S50}, rightB e = true → SzE e := fun h => ((right_iff _).1 h).sz.sz
  have h19 : F19 [⟨[77, 97, 105, 108], [[98], [97]]⟩, ⟨[67, 78], [[120]]⟩] = some (kE, 0) := by
    have := F19_eq kL kL_sz
    rw [kL_order] at this
    exact this
  have h14 : F14 kE [⟨1, [99, 110], [[121]]⟩, ⟨2, [99, 110], [[120]]⟩] = some (kO, 0) := by
    have := F14_eq kE kM (szE kE_right) ⟨by decide, by decide, by decide⟩
    rw [k_do] at this
    exact this
  have h24 : F24 kE kO = some ([⟨3, [99, 110], [[121]]⟩], 0) := by
    rw [F24_eq kE kO (szE kE_right) (szE kO_right), if_pos ⟨kE_right, kO_right⟩, k_diff]
  have h30 : F30 kO = some (entryT kO, 0) := by
    unfold F30
    rw [gd_pos ⟨by decide, by decide, by decide, by decide⟩, F17_eq kO (szE kO_right), if_pos kO_right]
    rfl
  unfold F13
  rw [h19]
  simp only [Option.bind_some]
  rw [h14]
  simp only [Option.bind_some]
  rw [h24]
  simp only [Option.bind_some]
  rw [h30]
  simp only [Option.bind_some, if_true, List.length_cons, List.length_nil, List.getD_cons_zero]
  rw [k_text]
  simp [gd]

end Go.Idl

namespace Go.Idl

open Go

end Go.Idl

namespace Go.Idl

open Go

end Go.Idl

namespace Go.Idl

open Go

theorem S48_eq {x y : S48} : x = y ↔ x.fKind = y.fKind ∧ x.fName = y.fName ∧ x.fValues = y.fValues := by cases x; cases y; simp

theorem F25_eq (a b : List S48) (ha : SzM a) : F25 a b = some (decide (a = b)) := by
  have hal := ha.len
  unfold F25
  by_cases hc : (a.length : Int) = b.length
  · rw [if_neg (by simpa using hc)]
    obtain ⟨r, q1, q2⟩ := loopO_allI (step := fun (s : Int) => F25_b8 a b s) 0 a.length (fun i => a.getD i S48.zero = b.getD i S48.zero) (.inr false) (.inl ()) (by omega)
      (fun i _ hi => by
        have hv := ha.vals _ (List.getElem_mem hi)
        simp only [F25_b8]
        rw [if_pos (by omega), gd_pos (by omega), gd_pos (by omega), Int.toNat_natCast]
        by_cases h0 : (a.getD i S48.zero).fKind = (b.getD i S48.zero).fKind
        · rw [if_neg (fun hh => hh h0)]
          by_cases h1 : (a.getD i S48.zero).fName = (b.getD i S48.zero).fName
          · rw [if_neg (fun hh => hh h1), F21_eq _ _ (by rw [getD_some hi]; exact hv)]
            simp only [Option.bind_some]
            by_cases h2 : (a.getD i S48.zero).fValues = (b.getD i S48.zero).fValues
            · rw [if_neg (by simp only [h2, decide_true, not_true, not_false_eq_true]), if_pos (S48_eq.2 ⟨h0, h1, h2⟩)]
            · rw [if_pos (by simp only [h2, decide_false, Bool.false_eq_true, not_false_eq_true]), if_neg (fun hh => h2 (S48_eq.1 hh).2.2)]
          · rw [if_pos h1, if_neg (fun hh => h1 (S48_eq.1 hh).2.1)]
        · rw [if_pos h0, if_neg (fun hh => h0 (S48_eq.1 hh).1)])
      (fun i hi => by simp only [F25_b8]; rw [if_neg (by omega)])
    rw [show ((0 : Nat) : Int) = 0 from rfl] at q1
    rw [q1]
    have he := eq_getD (a := a) (b := b) S48.zero (by omega)
    rcases q2 with ⟨h, rfl⟩ | ⟨h, rfl⟩
    · rw [← he] at h; simp [F25_k8, h]
    · rw [← he] at h; simp [h]
  · rw [if_pos hc]
    have : ¬ a = b := by rintro rfl; exact hc rfl
    simp [this]

theorem names_loop {step : List Str × Int → Option ((List Str × Int) ⊕ List Str)} (v : List Str) (e : List S50) (hv : Rise v) (hl : v.length + e.length ≤ 1000000)
    (hs : ∀ (i : Nat) (h : i < e.length) (a : List Str), step (a, (i : Int)) = (F54 a e[i].fName).bind fun x => some (.inl (x, IntKind.i64.wrap ((i : Int) + 1)))) (hf : ∀ a, step (a, (e.length : Int)) = some (.inr a)) : loopO step (v, 0) = some ((e.map (·.fName)).foldl insS v) := by
  refine fold_loop v (e.map (·.fName)) hv (by rw [List.length_map]; exact hl) (fun i h a => ?_) (fun a => by rw [List.length_map]; exact hf a)
  rw [List.length_map] at h
  rw [hs i h a, List.getElem_map]

theorem F26_eq {a b : List S50} (ra : RightE a) (rb : RightE b) : F26 a b = some (diffS a b) := by
  have hla := ra.len
  have hlb := rb.len
  unfold F26
  rw [names_loop [] a (by simp [Rise]) (by simp; omega) (fun i hi o => by
    simp only [F26_b5]
    rw [if_pos (by omega), gd_pos (by omega), Int.toNat_natCast, getD_some hi]) (fun o => by simp only [F26_b5]; rw [if_neg (by omega)])]
  have h1 : (a.map (·.fName)).foldl insS [] = U (a.map (·.fName)) := by
    have := U_fold (a.map (·.fName)) []
    rwa [U_nil, List.nil_append] at this
  simp only [Option.bind_some, F26_k5, h1]
  have hul := U_len_le (a.map (·.fName))
  rw [List.length_map] at hul
  rw [names_loop (U (a.map (·.fName))) b (U_rise _) (by omega) (fun i hi o => by
    simp only [F26_b11]
    rw [if_pos (by omega), gd_pos (by omega), Int.toNat_natCast, getD_some hi]) (fun o => by simp only [F26_b11]; rw [if_neg (by omega)])]
  have h2 : (b.map (·.fName)).foldl insS (U (a.map (·.fName))) = namesS a b := U_fold _ _
  simp only [Option.bind_some, F26_k11, h2]
  have hnl : (namesS a b).length ≤ 48 := by
    have h0 := U_len_le (a.map (·.fName) ++ b.map (·.fName))
    rw [List.length_append, List.length_map, List.length_map] at h0
    show (U (a.map (·.fName) ++ b.map (·.fName))).length ≤ 48
    omega
  rw [loopO_run (namesS a b) (fun _ (o : List S48) n => .inl (match dmS a b n with | none => o | some m => o ++ [m])) id (fun i o => o.length ≤ i) (by omega) (by simp)
    (fun i hi o hI => by
      obtain ⟨hs1, hs2, _⟩ := names_small ra rb (List.getElem_mem hi)
      simp only [F26_b18]
      rw [if_pos (by omega), gd_pos (by omega), Int.toNat_natCast, getD_some hi, F23_eq a _ (by omega) (by omega), F23_eq b _ (by omega) (by omega), hs1]
      simp only [Option.bind_some]
      have hga : (getE a (namesS a b)[i]).length ≤ 16 := getE_len (fun x hx => (ra.vals x hx).1) _
      rw [F21_eq _ _ (by omega)]
      simp only [Option.bind_some, dmS]
      by_cases g1 : getE a (namesS a b)[i] = getE b (namesS a b)[i]
      · rw [if_pos (by simp [g1]), if_pos g1]
      · rw [if_neg (by simp [g1]), if_neg g1]
        by_cases g2 : getE b (namesS a b)[i] = []
        · rw [if_pos (by simp [g2]), gd_pos (by simp only [List.length_cons, List.length_nil]; omega), if_pos g2]
        · rw [if_neg (by simpa using g2), if_neg g2]
          by_cases g3 : getE a (namesS a b)[i] = []
          · rw [if_pos (by simp [g3]), gd_pos (by simp only [List.length_cons, List.length_nil]; omega), if_pos g3]
          · rw [if_neg (by simpa using g3), gd_pos (by simp only [List.length_cons, List.length_nil]; omega), if_neg g3])
    (fun i hi o o' hI h => by
      simp only [Sum.inl.injEq] at h
      subst h
      split
      · omega
      · simp; omega)
    (fun o _ => by simp only [F26_b18]; rw [if_neg (by omega)]; rfl)]
  rw [runI_inl]
  have key : ∀ (l : List Str) (o : List S48), l.foldl (fun (o : List S48) n => match dmS a b n with | none => o | some m => o ++ [m]) o = o ++ l.filterMap (dmS a b) := by
    intro l
    induction l with
    | nil => intro o; simp
    | cons n l ih =>
      intro o
      rw [List.foldl_cons, ih, List.filterMap_cons]
      cases dmS a b n <;> simp
  rw [key]
  rfl

end Go.Idl

namespace Go.Idl

open Go

theorem step_del {o : List S50} (hr : RightE o) {n : Str} (hs : smallS n = n) (hn : getE o n ≠ []) : stepS o ⟨2, n, []⟩ = .inl (setE o n []) := by
  unfold stepS
  have hc : chS 2 (getE o (smallS n)) [] = .inl [] := by
    rw [chS_2, hs, if_neg]
    · simp
    · rintro (⟨_, h⟩ | h | h)
      · exact hn h
      · exact h List.nodup_nil
      · exact h (by simp)
  have hl : (setE o n []).length ≤ 24 := by
    unfold setE
    rw [if_pos rfl]
    exact Nat.le_trans (List.length_filter_le _ _) hr.len
  rw [hs] at hc
  simp only [hs, hc, U_nil]
  rw [if_pos ⟨by simp, hl⟩]

theorem step_put {o : List S50} {n : Str} {v : List Str} {k : Int} (hs : smallS n = n) (hv : Rise v) (hl : v.length ≤ 16) (hk : k = 3 ∨ (k = 1 ∧ getE o n = [])) (hlen : (setE o n v).length ≤ 24) : stepS o ⟨k, n, v⟩ = .inl (setE o n v) := by
  unfold stepS
  have hc : chS k (getE o (smallS n)) v = .inl v := by
    rcases hk with rfl | ⟨rfl, h⟩
    · exact chS_3 _ _
    · unfold chS
      rw [if_pos rfl, hs, h, List.nil_append, if_neg (fun h => h (rise_nodup hv))]
  rw [hs] at hc
  simp only [hs, hc, U_of_rise hv]
  rw [if_pos ⟨hl, hlen⟩]

theorem names_len {o b : List S50} (ho : SrtE o) (hb : SrtE b) (h : ∀ n, getE o n ≠ [] → getE b n ≠ []) : o.length ≤ b.length := by
  have := nodup_len (rise_nodup ho.names) (m := b.map (·.fName)) fun n hn => (mem_names hb n).2 (h n ((mem_names ho n).1 hn))
  simpa using this

theorem diff_mem {a b : List S50} {m : S48} (h : m ∈ diffS a b) : m.fName ∈ namesS a b ∧ getE a m.fName ≠ getE b m.fName ∧ m.fValues = getE b m.fName ∧ m.fKind = if getE b m.fName = [] then 2 else if getE a m.fName = [] then 1 else 3 := by
  obtain ⟨n, hn, h⟩ := List.mem_filterMap.1 h
  unfold dmS at h
  split at h
  · cases h
  · rename_i hne
    simp only [Option.some.injEq] at h
    subst h
    exact ⟨hn, hne, rfl, rfl⟩

theorem diff_has {a b : List S50} (ha : SrtE a) (hb : SrtE b) {n : Str} (h : getE a n ≠ getE b n) : ∃ m, m ∈ diffS a b ∧ m.fName = n := by
  have hn : n ∈ namesS a b := by
    rw [namesS, U_mem, List.mem_append, mem_names ha, mem_names hb]
    rcases Classical.em (getE a n = []) with h' | h'
    · exact .inr fun e => h (h'.trans e.symm)
    · exact .inl h'
  refine ⟨⟨if getE b n = [] then 2 else if getE a n = [] then 1 else 3, n, getE b n⟩, List.mem_filterMap.2 ⟨n, hn, ?_⟩, rfl⟩
  unfold dmS
  rw [if_neg h]

theorem diff_nodup (a b : List S50) : ((diffS a b).map (·.fName)).Nodup := by
  have h1 : ((diffS a b).map (·.fName)).Sublist (namesS a b) := by
    unfold diffS
    generalize namesS a b = l
    induction l with
    | nil => simp
    | cons n l ih =>
      rw [List.filterMap_cons]
      cases h : dmS a b n with
      | none => exact ih.cons _
      | some m =>
        have hm : m.fName = n := by
          unfold dmS at h
          split at h
          · cases h
          · simp only [Option.some.injEq] at h; subst h; rfl
        simp only [List.map_cons, hm]
        exact ih.cons_cons _
  exact (rise_nodup (U_rise _)).sublist h1

def goS (t : Bool) (o : List S50) (m : S48) : List S50 := if decide (m.fKind = 2) = t then setE o m.fName m.fValues else o

theorem goS_get (t : Bool) : ∀ (l : List S48) (o : List S50), SrtE o → (∀ m, m ∈ l → Rise m.fValues) → (l.map (·.fName)).Nodup → SrtE (l.foldl (goS t) o) ∧ ∀ n, (∀ m, m ∈ l → m.fName = n → decide (m.fKind = 2) = t → getE (l.foldl (goS t) o) n = m.fValues) ∧ ((∀ m, m ∈ l → m.fName = n → decide (m.fKind = 2) ≠ t) → getE (l.foldl (goS t) o) n = getE o n)
  | [], o, ho, _, _ => ⟨ho, fun n => ⟨by simp, fun _ => rfl⟩⟩
  | x :: l, o, ho, hv, hd => by
    rw [List.map_cons, List.nodup_cons] at hd
    have ho1 : SrtE (goS t o x) := by
      unfold goS
      split
      · exact setE_srt ho (hv x (by simp))
      · exact ho
    obtain ⟨i1, i2⟩ := goS_get t l (goS t o x) ho1 (fun m hm => hv m (by simp [hm])) hd.2
    refine ⟨i1, fun n => ⟨fun m hm hn hk => ?_, fun h => ?_⟩⟩
    · rcases List.mem_cons.1 hm with rfl | hm
      · have hno : ∀ m', m' ∈ l → m'.fName = n → decide (m'.fKind = 2) ≠ t := fun m' hm' e => absurd (List.mem_map.2 ⟨m', hm', e.trans hn.symm⟩) hd.1
        rw [List.foldl_cons, (i2 n).2 hno]
        unfold goS
        rw [if_pos hk, setE_get ho, if_pos hn.symm]
      · rw [List.foldl_cons]
        exact (i2 n).1 m hm hn hk
    · rw [List.foldl_cons, (i2 n).2 fun m hm => h m (by simp [hm])]
      unfold goS
      split
      · rename_i hk
        rw [setE_get ho, if_neg]
        rintro rfl
        exact h x (by simp) rfl hk
      · rfl

end Go.Idl

namespace Go.Idl

open Go

theorem diff_may {a b : List S50} (ra : RightE a) (rb : RightE b) {m : S48} (h : m ∈ diffS a b) : mayB m = true := by
  obtain ⟨h1, h2, h3, h4⟩ := diff_mem h
  obtain ⟨_, _, hn⟩ := names_small ra rb h1
  have hl : m.fValues.length ≤ 16 := by rw [h3]; exact getE_len (fun x hx => (rb.vals x hx).1) _
  have hv : m.fValues.all valB = true := by rw [h3]; exact getE_val rb _
  simp only [mayB, Bool.and_eq_true, decide_eq_true_eq, Bool.or_eq_true, Bool.not_eq_true', decide_eq_false_iff_not]
  refine ⟨⟨⟨⟨?_, hn⟩, hl⟩, hv⟩, ?_⟩
  · rw [h4]; split; omega; split <;> omega
  · by_cases hb : getE b m.fName = []
    · left
      rw [h4, if_pos hb]
      decide
    · right
      rw [h3]
      exact List.length_pos_iff.2 hb

theorem diff_kind {a b : List S50} {m : S48} (h : m ∈ diffS a b) : m.fKind = 2 ↔ getE b m.fName = [] := by
  obtain ⟨_, _, _, h4⟩ := diff_mem h
  rw [h4]
  split
  · simp [*]
  · rename_i hb
    split <;> simp [hb]

theorem turns_get {a b : List S50} (ra : RightE a) (rb : RightE b) (l : List S48) (hsub : l.Sublist (diffS a b)) : SrtE (l.foldl (goS false) ((diffS a b).foldl (goS true) a)) ∧
    ∀ n, getE (l.foldl (goS false) ((diffS a b).foldl (goS true) a)) n = if getE b n = [] ∨ (∃ m, m ∈ l ∧ m.fName = n ∧ m.fKind ≠ 2) then getE b n else getE a n := by
  have hr : ∀ m, m ∈ diffS a b → Rise m.fValues := fun m hm => by rw [(diff_mem hm).2.2.1]; exact getE_rise rb.srt _
  obtain ⟨s0, g0⟩ := goS_get true (diffS a b) a ra.srt hr (diff_nodup a b)
  obtain ⟨s1, g1⟩ := goS_get false l _ s0 (fun m hm => hr m (hsub.subset hm)) ((diff_nodup a b).sublist (hsub.map _))
  refine ⟨s1, fun n => ?_⟩
  have h0 : getE ((diffS a b).foldl (goS true) a) n = if getE b n = [] then [] else getE a n := by
    by_cases hb : getE b n = []
    · rw [if_pos hb]
      by_cases ha : getE a n = []
      · rw [(g0 n).2 fun m hm e => ?_]
        · exact ha
        · exact absurd ((e ▸ ha).trans (e ▸ hb).symm) (diff_mem hm).2.1
      · obtain ⟨m, hm, e⟩ := diff_has ra.srt rb.srt (n := n) (by rw [hb]; exact ha)
        rw [(g0 n).1 m hm e (by simp [(diff_kind hm).2 (e ▸ hb)]), (diff_mem hm).2.2.1, e, hb]
    · rw [if_neg hb]
      exact (g0 n).2 fun m hm e hk => hb (e ▸ (diff_kind hm).1 (by simpa using hk))
  by_cases hm : ∃ m, m ∈ l ∧ m.fName = n ∧ m.fKind ≠ 2
  · rw [if_pos (.inr hm)]
    obtain ⟨m, h1, h2, h3⟩ := hm
    rw [(g1 n).1 m h1 h2 (by simp [h3]), (diff_mem (hsub.subset h1)).2.2.1, h2]
  · rw [(g1 n).2 fun m h1 h2 h3 => hm ⟨m, h1, h2, by simpa using h3⟩, h0]
    by_cases hb : getE b n = []
    · rw [if_pos hb, if_pos (.inl hb), hb]
    · rw [if_neg hb, if_neg (by rintro (h | h); exact hb h; exact hm h)]

theorem turns_end {a b : List S50} (ra : RightE a) (rb : RightE b) : (diffS a b).foldl (goS false) ((diffS a b).foldl (goS true) a) = b := by
  obtain ⟨s, g⟩ := turns_get ra rb (diffS a b) (List.Sublist.refl _)
  refine srt_uniq s rb.srt fun n => ?_
  rw [g n]
  split
  · rfl
  · rename_i h
    rcases Classical.em (getE a n = getE b n) with e | e
    · exact e
    · obtain ⟨m, hm, hn⟩ := diff_has ra.srt rb.srt e
      exact absurd (.inr ⟨m, hm, hn, fun hk => h (.inl (hn ▸ (diff_kind hm).1 hk))⟩) h

end Go.Idl

namespace Go.Idl

open Go

theorem do_one {o o' : List S50} {m : S48} (hr : RightE o) (hm : mayB m = true) (h : stepS o m = .inl o') : F14 o [m] = some (o', 0) := by
  rw [F14_eq o [m] hr.sz.sz ⟨by simp, fun x hx => by simp at hx; subst hx; have := may_name hm; omega, fun x hx => by simp at hx; subst hx; have := may_vals hm; omega⟩]
  unfold doS
  rw [if_pos ⟨(right_iff o).2 hr, by simp [hm]⟩]
  simp [runS, h]

theorem turn0 {a b : List S50} (ra : RightE a) (rb : RightE b) (i : Nat) (hi : i < (diffS a b).length) (hr : RightE (((diffS a b).take i).foldl (goS true) a)) (hk : (diffS a b)[i].fKind = 2) :
    stepS (((diffS a b).take i).foldl (goS true) a) (diffS a b)[i] = .inl (goS true (((diffS a b).take i).foldl (goS true) a) (diffS a b)[i]) := by
  have hm : (diffS a b)[i] ∈ diffS a b := List.getElem_mem hi
  obtain ⟨q1, q2, q3, q4⟩ := diff_mem hm
  have hb := (diff_kind hm).1 hk
  have hrise : ∀ m, m ∈ diffS a b → Rise m.fValues := fun m hm => by rw [(diff_mem hm).2.2.1]; exact getE_rise rb.srt _
  obtain ⟨_, g⟩ := goS_get true ((diffS a b).take i) a ra.srt (fun m h => hrise m (List.mem_of_mem_take h)) ((diff_nodup a b).sublist ((List.take_sublist _ _).map _))
  have hno : ∀ m, m ∈ (diffS a b).take i → m.fName = (diffS a b)[i].fName → decide (m.fKind = 2) ≠ true := by
    intro m h1 h2
    obtain ⟨j, hj, e⟩ := List.getElem_of_mem h1
    rw [List.length_take] at hj
    rw [List.getElem_take] at e
    have hnd := List.nodup_iff_pairwise_ne.1 (diff_nodup a b)
    have := List.pairwise_iff_getElem.1 hnd j i (by rw [List.length_map]; omega) (by rw [List.length_map]; exact hi) (by omega)
    simp only [List.getElem_map] at this
    exact absurd (by rw [e]; exact h2) this
  have hg := (g (diffS a b)[i].fName).2 hno
  have hne : getE (((diffS a b).take i).foldl (goS true) a) (diffS a b)[i].fName ≠ [] := by
    rw [hg]
    intro h
    exact q2 (h.trans hb.symm)
  have hsm := (names_small ra rb q1).1
  have hst := step_del hr hsm hne
  have hform : (diffS a b)[i] = ⟨2, (diffS a b)[i].fName, []⟩ := S48_eq.2 ⟨hk, rfl, by rw [q3, hb]⟩
  generalize (diffS a b)[i] = m at *
  rw [hform]
  rw [hst]
  unfold goS
  simp

theorem turn1 {a b : List S50} (ra : RightE a) (rb : RightE b) (i : Nat) (hi : i < (diffS a b).length) (hk : ¬ (diffS a b)[i].fKind = 2) :
    stepS (((diffS a b).take i).foldl (goS false) ((diffS a b).foldl (goS true) a)) (diffS a b)[i] = .inl (goS false (((diffS a b).take i).foldl (goS false) ((diffS a b).foldl (goS true) a)) (diffS a b)[i]) := by
  have hm : (diffS a b)[i] ∈ diffS a b := List.getElem_mem hi
  obtain ⟨q1, q2, q3, q4⟩ := diff_mem hm
  have hb : getE b (diffS a b)[i].fName ≠ [] := fun h => hk ((diff_kind hm).2 h)
  obtain ⟨s, g⟩ := turns_get ra rb ((diffS a b).take i) (List.take_sublist _ _)
  have hno : ¬ ∃ m, m ∈ (diffS a b).take i ∧ m.fName = (diffS a b)[i].fName ∧ m.fKind ≠ 2 := by
    rintro ⟨m, h1, h2, _⟩
    obtain ⟨j, hj, e⟩ := List.getElem_of_mem h1
    rw [List.length_take] at hj
    rw [List.getElem_take] at e
    have hnd := List.nodup_iff_pairwise_ne.1 (diff_nodup a b)
    have := List.pairwise_iff_getElem.1 hnd j i (by rw [List.length_map]; omega) (by rw [List.length_map]; exact hi) (by omega)
    simp only [List.getElem_map] at this
    exact absurd (by rw [e]; exact h2) this
  have hga : getE (((diffS a b).take i).foldl (goS false) ((diffS a b).foldl (goS true) a)) (diffS a b)[i].fName = getE a (diffS a b)[i].fName := by
    rw [g, if_neg]
    rintro (h | h)
    · exact hb h
    · exact hno h
  have hsm := (names_small ra rb q1).1
  have hv : Rise (diffS a b)[i].fValues := by rw [q3]; exact getE_rise rb.srt _
  have hvl : (diffS a b)[i].fValues.length ≤ 16 := by rw [q3]; exact getE_len (fun x hx => (rb.vals x hx).1) _
  have hlen : (setE (((diffS a b).take i).foldl (goS false) ((diffS a b).foldl (goS true) a)) (diffS a b)[i].fName (diffS a b)[i].fValues).length ≤ 24 := by
    refine Nat.le_trans (names_len (setE_srt s hv) rb.srt fun n hn => ?_) rb.len
    rw [setE_get s] at hn
    by_cases e : n = (diffS a b)[i].fName
    · rw [e]; exact hb
    · rw [if_neg e, g n] at hn
      intro h
      rw [if_pos (.inl h)] at hn
      exact hn h
  have hkk : (diffS a b)[i].fKind = 3 ∨ ((diffS a b)[i].fKind = 1 ∧ getE (((diffS a b).take i).foldl (goS false) ((diffS a b).foldl (goS true) a)) (diffS a b)[i].fName = []) := by
    rw [hga, q4, if_neg hb]
    by_cases h : getE a (diffS a b)[i].fName = []
    · rw [if_pos h]; exact .inr ⟨rfl, h⟩
    · rw [if_neg h]; exact .inl rfl
  have hst := step_put hsm hv hvl hkk hlen
  have hgo : goS false (((diffS a b).take i).foldl (goS false) ((diffS a b).foldl (goS true) a)) (diffS a b)[i] = setE (((diffS a b).take i).foldl (goS false) ((diffS a b).foldl (goS true) a)) (diffS a b)[i].fName (diffS a b)[i].fValues := by
    unfold goS
    rw [if_pos (by simp [hk])]
  rw [hgo]
  exact hst

end Go.Idl

namespace Go.Idl

open Go

theorem goS_right0 {a b : List S50} (ra : RightE a) (rb : RightE b) : ∀ i, i ≤ (diffS a b).length → RightE (((diffS a b).take i).foldl (goS true) a)
  | 0, _ => by simpa using ra
  | i + 1, h => by
    have ih := goS_right0 ra rb i (by omega)
    rw [List.take_succ_eq_append_getElem (by omega : i < (diffS a b).length), List.foldl_append, List.foldl_cons, List.foldl_nil]
    by_cases hk : (diffS a b)[i].fKind = 2
    · exact stepS_right ih (diff_may ra rb (List.getElem_mem _)) (turn0 ra rb i (by omega) ih hk)
    · unfold goS
      rw [if_neg (by simp [hk])]
      exact ih

theorem goS_right1 {a b : List S50} (ra : RightE a) (rb : RightE b) : ∀ i, i ≤ (diffS a b).length → RightE (((diffS a b).take i).foldl (goS false) ((diffS a b).foldl (goS true) a))
  | 0, _ => by
    have := goS_right0 ra rb (diffS a b).length (Nat.le_refl _)
    rw [List.take_length] at this
    simpa using this
  | i + 1, h => by
    have ih := goS_right1 ra rb i (by omega)
    rw [List.take_succ_eq_append_getElem (by omega : i < (diffS a b).length), List.foldl_append, List.foldl_cons, List.foldl_nil]
    by_cases hk : (diffS a b)[i].fKind = 2
    · unfold goS
      rw [if_neg (by simp [hk])]
      exact ih
    · exact stepS_right ih (diff_may ra rb (List.getElem_mem _)) (turn1 ra rb i (by omega) hk)

theorem turn_loop {a b : List S50} (o0 : List S50) (t : Int) (ht : t = 0 ∨ t = 1) (hl : (diffS a b).length ≤ 1000)
    (hr : ∀ i, i ≤ (diffS a b).length → RightE (((diffS a b).take i).foldl (goS (decide (t = 0))) o0)) (hm : ∀ m, m ∈ diffS a b → mayB m = true)
    (hst : ∀ (i : Nat) (h : i < (diffS a b).length), decide ((diffS a b)[i].fKind = 2) = decide (t = 0) → stepS (((diffS a b).take i).foldl (goS (decide (t = 0))) o0) (diffS a b)[i] = .inl (goS (decide (t = 0)) (((diffS a b).take i).foldl (goS (decide (t = 0))) o0) (diffS a b)[i])) :
    loopO (fun (s : (List S50) × Int × Int) => F5_b54 (diffS a b, 0) t s.1 s.2.1 s.2.2) (o0, 0, 0) = some ((diffS a b).foldl (goS (decide (t = 0))) o0, 0) := by
  rw [loopO_run2 (diffS a b) (fun _ s m => .inl (goS (decide (t = 0)) s.1 m, 0)) id (fun i s => s.2 = 0 ∧ s.1 = ((diffS a b).take i).foldl (goS (decide (t = 0))) o0) (by omega) ⟨rfl, by simp⟩
    (fun i hi o f hI => by
      obtain ⟨h1, h2⟩ := hI
      simp only at h1 h2
      subst h1
      simp only [F5_b54]
      rw [if_pos (by omega), if_pos trivial, gd_pos (by omega), Int.toNat_natCast]
      simp only [getD_some hi]
      by_cases hk : decide ((diffS a b)[i].fKind = 2) = decide (t = 0)
      · rw [if_pos hk]
        have h3 := hst i hi hk
        rw [← h2] at h3
        rw [do_one (by rw [h2]; exact hr i (by omega)) (hm _ (List.getElem_mem _)) h3]
        rfl
      · rw [if_neg hk]
        have : goS (decide (t = 0)) o (diffS a b)[i] = o := by unfold goS; rw [if_neg hk]
        rw [this])
    (fun i hi s s' hI h => by
      obtain ⟨h1, h2⟩ := hI
      simp only [Sum.inl.injEq] at h
      subst h
      refine ⟨rfl, ?_⟩
      simp only
      rw [h2, List.take_succ_eq_append_getElem hi, List.foldl_append]
      rfl)
    (fun o f hI => by simp only [F5_b54]; rw [if_neg (by omega)]; rfl)]
  rw [runI_inl]
  have key : ∀ (l : List S48) (o : List S50), l.foldl (fun (s : List S50 × Int) m => (goS (decide (t = 0)) s.1 m, (0 : Int))) (o, 0) = (l.foldl (goS (decide (t = 0))) o, 0) := by
    intro l
    induction l with
    | nil => intro o; rfl
    | cons m l ih => intro o; rw [List.foldl_cons, List.foldl_cons]; exact ih _
  rw [key]
  rfl

theorem diff_len {a b : List S50} (ra : RightE a) (rb : RightE b) : (diffS a b).length ≤ 48 := by
  have h0 := U_len_le (a.map (·.fName) ++ b.map (·.fName))
  rw [List.length_append, List.length_map, List.length_map] at h0
  have h1 : (diffS a b).length ≤ (namesS a b).length := List.length_filterMap_le _ _
  have h2 : (namesS a b).length ≤ a.length + b.length := h0
  have := ra.len
  have := rb.len
  omega

theorem diff_nil {a b : List S50} (ra : RightE a) (rb : RightE b) : diffS a b = [] ↔ a = b := by
  constructor
  · intro h
    refine srt_uniq ra.srt rb.srt fun n => ?_
    rcases Classical.em (getE a n = getE b n) with e | e
    · exact e
    · obtain ⟨m, hm, _⟩ := diff_has ra.srt rb.srt e
      rw [h] at hm
      simp at hm
  · rintro rfl
    unfold diffS
    rw [List.filterMap_eq_nil_iff]
    intro n _
    simp [dmS]

theorem F5_eq (a b : List S50) : F5 a b = some true := by
  unfold F5
  obtain ⟨c, h1, h2⟩ := F11_ex a
  rw [h1, F13_eq]
  simp only [Option.bind_some]
  by_cases hc : c = true
  · rw [if_neg (by simp [hc])]
    obtain ⟨d, h3, h4⟩ := F11_ex b
    rw [h3]
    simp only [Option.bind_some]
    by_cases hd : d = true
    · rw [if_neg (by simp [hd])]
      have sa := (h2 hc).sz.sz
      have sb := (h4 hd).sz.sz
      rw [F24_eq a b sa sb, F18_eq a sa, F18_eq b sb]
      simp only [Option.bind_some]
      by_cases ha : rightB a = true
      · rw [if_neg (by simp [ha])]
        by_cases hb : rightB b = true
        · rw [if_neg (by simp [hb]), show (if rightB a = true ∧ rightB b = true then (diffS a b, (0 : Int)) else ([], 2)) = (diffS a b, 0) from if_pos ⟨ha, hb⟩]
          have ra := (right_iff a).1 ha
          have rb := (right_iff b).1 hb
          have hdl := diff_len ra rb
          rw [if_neg (by simp), F26_eq ra rb]
          simp only [Option.bind_some]
          rw [F25_eq _ _ ⟨by omega, fun m hm => by have := may_name (diff_may ra rb hm); omega, fun m hm => by have := may_vals (diff_may ra rb hm); omega⟩]
          simp only [Option.bind_some]
          rw [if_neg (by simp), F16_eq a b sa]
          simp only [Option.bind_some]
          have hdn : decide (((diffS a b).length : Int) = 0) = decide (a = b) := by
            rw [decide_eq_decide, ← diff_nil ra rb]
            constructor
            · intro h; exact List.eq_nil_of_length_eq_zero (by omega)
            · intro h; simp [h]
          rw [if_neg (by rw [hdn]; simp)]
          have t0 := turn_loop (a := a) (b := b) a 0 (.inl rfl) (by omega) (fun i hi => goS_right0 ra rb i hi) (fun m hm => diff_may ra rb hm) (fun i hi hk => turn0 ra rb i hi (goS_right0 ra rb i (by omega)) (by simpa using hk))
          have t1 := turn_loop (a := a) (b := b) ((diffS a b).foldl (goS true) a) 1 (.inr rfl) (by omega) (fun i hi => goS_right1 ra rb i hi) (fun m hm => diff_may ra rb hm) (fun i hi hk => turn1 ra rb i hi (by simpa using hk))
          have hloop : loopO (fun (s : (List S50) × Int × Int) => F5_b38 (diffS a b, 0) s.1 s.2.1 s.2.2) (a, 0, 0) = some (b, 0) := by
            rw [loopO_run2 [(), ()] (fun i s _ => .inl ((diffS a b).foldl (goS (decide ((i : Int) = 0))) s.1, 0)) id (fun i s => s.2 = 0 ∧ (i = 0 → s.1 = a) ∧ (i = 1 → s.1 = (diffS a b).foldl (goS true) a)) (by simp) ⟨rfl, fun _ => rfl, fun h => by omega⟩
              (fun i hi o f hI => by
                obtain ⟨q1, q2, q3⟩ := hI
                simp only at q1 q2 q3
                subst q1
                simp only [List.length_cons, List.length_nil] at hi
                simp only [F5_b38]
                rw [if_pos (by omega)]
                have : i = 0 ∨ i = 1 := by omega
                rcases this with rfl | rfl
                · rw [q2 rfl, show ((0 : Nat) : Int) = 0 from rfl, t0]
                  rfl
                · rw [q3 rfl, show ((1 : Nat) : Int) = 1 from rfl, t1]
                  rfl)
              (fun i hi s s' hI h => by
                obtain ⟨q1, q2, q3⟩ := hI
                simp only [Sum.inl.injEq] at h
                subst h
                refine ⟨rfl, fun h => by omega, fun h => ?_⟩
                have : i = 0 := by omega
                subst this
                simp only
                rw [q2 rfl]
                rfl)
              (fun o f hI => by simp only [F5_b38]; rw [if_neg (by simp)]; rfl)]
            have := turns_end ra rb
            show some ((diffS a b).foldl (goS (decide (((0 + 1 : Nat) : Int) = 0))) ((diffS a b).foldl (goS (decide (((0 : Nat) : Int) = 0))) a), (0 : Int)) = some (b, 0)
            rw [show decide (((0 + 1 : Nat) : Int) = 0) = false by decide, show decide (((0 : Nat) : Int) = 0) = true by decide, this]
          rw [hloop]
          simp only [Option.bind_some, F5_k38, if_true]
          rw [F16_eq b b sb, F13_eq]
          simp
        · rw [if_pos hb, show (if rightB a = true ∧ rightB b = true then (diffS a b, (0 : Int)) else ([], 2)) = ([], 2) from if_neg (fun h => hb h.2)]
          simp
      · rw [if_pos ha, show (if rightB a = true ∧ rightB b = true then (diffS a b, (0 : Int)) else ([], 2)) = ([], 2) from if_neg (fun h => ha h.1)]
        simp
    · rw [if_pos hd]
  · rw [if_pos hc]

end Go.Idl

namespace Go.Idl

open Go Go.RowKit Go.ChangeShapes Go.WideShapes

def g0 : Gs := { oth := fun _ => False, mu := fun _ => undef, sh := fun _ => none, nx := 0 }

def H0 : IHeap := { next := 0, obj := fun _ => none, sn := [] }

theorem ow0 (b : Nat) : ¬ g0.ow b := by
  rintro (h | ⟨k, h, _⟩)
  · exact h
  · cases h

theorem sim0 (w : World) : Sim w g0 H0 where
  nx := rfl
  sh := fun _ => rfl
  lt := fun k h => by cases h
  bk := fun k b h => by cases h
  inj := fun k k' b h => by cases h
  obj := fun k o h => by cases h
  old := fun b h => h.elim
  snap := fun p h => by cases h

theorem below_of_mono {w w' : World} {g' : Gs} (m : Mono w g0 w' g') : Below w.heap.size w w' :=
  ⟨m.os, m.tape, m.output, m.size, fun k hk => m.keep k hk fun ⟨i, h, _⟩ => by cases h⟩

variable {P : Program} {w : World} {Hh : Type} {enc : TypeId × Value → Hh}

def Rd (P : Program) (w : World) {Hh : Type} (enc : TypeId × Value → Hh) (t : TypeId) (S : List IV → Prop) : Prop :=
  ∀ (base : Nat) (spare : Nat → Bool) (held : Bool) (fuel : Nat) (cs : List Value) (x : DataW Hh × List MemPlace), DataW.trod enc P w base spare held fuel t cs = some x →
    ∃ is, S is ∧ is.length = cs.length ∧ ∀ (j : Nat) (c : Value) (i : IV), cs[j]? = some c → is[j]? = some i → c.oneCell' = true ∧ R w g0 c i

theorem rd_one {c : Value} {i : IV} (ho : c.oneCell' = true) (hr : R w g0 c i) : ∀ (j : Nat) (c' : Value) (i' : IV), [c][j]? = some c' → [i][j]? = some i' → c'.oneCell' = true ∧ R w g0 c' i' := by
  intro j c' i' h1 h2
  cases j with
  | zero => simp at h1 h2; subst h1; subst h2; exact ⟨ho, hr⟩
  | succ j => simp at h1

theorem Rd_string {t : TypeId} (hu : P.underlying t = some .string) : Rd P w enc t fun is => ∃ s : List UInt8, is = [.v (str s)] := by
  intro base spare held fuel cs x h
  obtain ⟨s, rfl, _, _⟩ := DataW.trod_string hu h
  refine ⟨_, ⟨bytes s, rfl⟩, rfl, rd_one rfl ?_⟩
  rw [show str (bytes s) = .string s by rw [str, mk_bytes]]
  exact .v _

theorem choose_list {E : Type} (Pr : Nat → E → Prop) : ∀ n : Nat, (∀ i, i < n → ∃ x, Pr i x) → ∃ l : List E, l.length = n ∧ ∀ (i : Nat) (x : E), l[i]? = some x → Pr i x
  | 0, _ => ⟨[], rfl, by simp⟩
  | n + 1, h => by
    obtain ⟨l, h1, h2⟩ := choose_list Pr n fun i hi => h i (by omega)
    obtain ⟨x, hx⟩ := h n (by omega)
    refine ⟨l ++ [x], by simp [h1], fun i y hy => ?_⟩
    rcases Nat.lt_or_ge i n with hi | hi
    · rw [List.getElem?_append_left (by omega)] at hy
      exact h2 i y hy
    · rw [List.getElem?_append_right (by omega)] at hy
      have e : i = n := by
        have := (List.getElem?_eq_some_iff.1 hy).1
        simp at this; omega
      subst e
      simp [h1] at hy
      subst hy
      exact hx

theorem cells_get {base : Nat} {a : Addr} : ∀ {n : Nat} {cs : List Value}, w.cells? base a n = some cs → cs.length = n ∧ ∀ j, j < n → w.cell? (a.add j) = cs[j]? := by
  intro n cs h
  unfold World.cells? at h
  split at h
  · refine ⟨?_, fun j hj => ?_⟩
    · have := mapM_some_length h
      simpa using this
    · exact mapM_some_get h j j (by simp [hj])
  · cases h

theorem Rd_slice {t e : TypeId} {E : Type} (cells : E → List IV) (hu : P.underlying t = some (.slice e)) (h0 : 0 < P.cellsOf e) (he : Rd P w enc e fun is => ∃ x : E, is = cells x) :
    Rd P w enc t fun is => ∃ l : List E, is = [.sl (P.cellsOf e) (l.map cells)] := by
  intro base spare held fuel cs x h
  rcases DataW.trod_slice hu h with ⟨rfl, _⟩ | ⟨a, len, cap, elems, rest, n, _, rfl, _, hb, hl, hm, hlen, hel, _, _⟩
  · exact ⟨_, ⟨[], rfl⟩, rfl, rd_one rfl (.sl0 _ _ _)⟩
  · obtain ⟨l, l1, l2⟩ := choose_list (fun i (y : E) => (cells y).length = P.cellsOf e ∧ ∀ (j : Nat) (i' : IV), (cells y)[j]? = some i' → ∃ c, w.cell? ((a.add (i * P.cellsOf e)).add j) = some c ∧ c.oneCell' = true ∧ R w g0 c i') len (fun i hi => by
      have hei := hel i hi
      have hne : elems[i]? = some elems[i] := List.getElem?_eq_getElem (by omega)
      rw [hne, Option.bind_eq_some_iff] at hei
      obtain ⟨ci, hc, ht⟩ := hei
      obtain ⟨q1, q2⟩ := cells_get hc
      obtain ⟨is, ⟨y, rfl⟩, q3, q4⟩ := he _ _ _ _ _ _ ht
      refine ⟨y, by rw [q3, q1], fun j i' hj => ?_⟩
      have hjl : j < ci.length := by rw [← q3]; exact (List.getElem?_eq_some_iff.1 hj).1
      have := q4 j ci[j] i' (List.getElem?_eq_getElem hjl) hj
      exact ⟨ci[j], by rw [q2 j (by omega)]; exact List.getElem?_eq_getElem hjl, this⟩)
    refine ⟨_, ⟨l, rfl⟩, rfl, rd_one rfl ?_⟩
    by_cases hz : len = 0
    · subst hz
      have : l = [] := List.eq_nil_of_length_eq_zero l1
      subst this
      exact .sl0 _ _ _
    · have hlm : (l.map cells).length = len := by simp [l1]
      have h0l : 0 < l.length := by omega
      obtain ⟨q1, q2⟩ := l2 0 l[0] (List.getElem?_eq_getElem h0l)
      have hpos : 0 < (cells l[0]).length := by omega
      obtain ⟨c0, q3, _⟩ := q2 0 _ (List.getElem?_eq_getElem hpos)
      obtain ⟨b, off, spot⟩ := a
      have hsp : spot = none ∧ b < w.heap.size := by
        have e0 : ((⟨b, off, spot⟩ : Addr).add (0 * P.cellsOf e)).add 0 = ⟨b, off, spot⟩ := by simp [Addr.add]
        rw [e0] at q3
        unfold World.cell? at q3
        split at q3
        · rename_i hh
          refine ⟨?_, (Array.getElem?_eq_some_iff.1 hh).1⟩
          split at q3
          · cases q3
          · rename_i hs
            simpa using hs
        · cases q3
      obtain ⟨rfl, hlt⟩ := hsp
      rw [← hlm]
      refine .sl b off cap _ _ (fun i j => (w.cell? ⟨b, off + i * P.cellsOf e + j, none⟩).getD undef) (ow0 b) hlt (by rw [hlm]; have hm' : cap ≤ 9223372036854775807 := hm; unfold maxN; omega) (by omega) ?_ ?_ ?_ ?_
      · intro c hc
        obtain ⟨y, hy, rfl⟩ := List.mem_map.1 hc
        obtain ⟨i, hi⟩ := List.getElem?_of_mem hy
        exact (l2 i y hi).1
      all_goals
        intro i ee j c h1 h2
        simp only [List.getElem?_map, Option.map_eq_some_iff] at h1
        obtain ⟨y, hy, rfl⟩ := h1
        obtain ⟨c', r1, r2, r3⟩ := (l2 i y hy).2 j c h2
        rw [addr_add, addr_add] at r1
        first | (rw [r1]; rfl) | (simp only [r1, Option.getD_some]; first | exact r2 | exact r3)

theorem Rd.one {t : TypeId} {v : Value} {d : DataW Hh} {ps : List MemPlace} {S : List IV → Prop} {base : Nat} {spare : Nat → Bool} {held : Bool} (h : Rd P w enc t S) (hv : v.cells = #[v]) (hd : DataW.Trod enc P w base spare held t v d ps) : ∃ i, S [i] ∧ R w g0 v i := by
  obtain ⟨fuel, hf⟩ := hd
  obtain ⟨is, h1, h2, h3⟩ := h _ _ _ _ _ _ hf
  rw [hv] at h2 h3
  match is, h2, h1, h3 with
  | [i], _, h1, h3 => exact ⟨i, h1, (h3 0 v i rfl rfl).2⟩

theorem Rd.agg {t : TypeId} {cs : Array Value} {d : DataW Hh} {ps : List MemPlace} {S : List IV → Prop} {base : Nat} {spare : Nat → Bool} {held : Bool} (h : Rd P w enc t S) (hd : DataW.Trod enc P w base spare held t (.agg cs) d ps) : ∃ is, S is ∧ R w g0 (.agg cs) (.ag is) := by
  obtain ⟨fuel, hf⟩ := hd
  obtain ⟨is, h1, h2, h3⟩ := h _ _ _ _ _ _ hf
  have hcs : (Value.agg cs).cells.toList = cs.toList := rfl
  rw [hcs] at h2 h3
  refine ⟨is, h1, .ag cs is (by simpa using h2.symm) (fun j x hx => ?_) fun j x c hx hc => (h3 j x c (by simpa using hx) hc).2⟩
  have hlt : j < is.length := by
    have := (Array.getElem?_eq_some_iff.1 hx).1
    rw [h2]; simpa using this
  exact (h3 j x is[j] (by simpa using hx) (List.getElem?_eq_getElem hlt)).1

end Go.Idl

namespace Go.Idl

open Go Go.RowKit Go.ChangeShapes Go.WideShapes

variable {P : Program} {w : World} {Hh : Type} {enc : TypeId × Value → Hh}

theorem Rd_struct2 {t : TypeId} {f0 f1 : Field} {A B : Type} (a : A → IV) (b : B → IV) (ht : P.underlying t = some (.struct #[f0, f1])) (hc : P.cellsOf t = 2) (o0 : f0.offset = 0) (o1 : f1.offset = 1) (c0 : P.cellsOf f0.type = 1) (c1 : P.cellsOf f1.type = 1)
    (h0 : Rd P w enc f0.type fun is => ∃ x : A, is = [a x]) (h1 : Rd P w enc f1.type fun is => ∃ x : B, is = [b x]) : Rd P w enc t fun is => ∃ (x : A) (y : B), is = [a x, b y] := by
  intro base spare held fuel cs x h
  obtain ⟨xs, n, _, rfl, hl, hlen, hf⟩ := DataW.trod_struct ht h
  rw [hc] at hl
  match cs, hl with
  | [u, v], _ =>
    have q0 := hf 0 f0 rfl
    have q1 := hf 1 f1 rfl
    rw [o0, c0] at q0
    rw [o1, c1] at q1
    simp only [List.drop_zero, List.drop_succ_cons, List.take_succ_cons, List.take_zero] at q0 q1
    match xs, hlen, q0, q1 with
    | [x0, x1], _, q0, q1 =>
      obtain ⟨is0, ⟨p, rfl⟩, _, r0⟩ := h0 _ _ _ _ _ _ (by simpa using q0)
      obtain ⟨is1, ⟨q, rfl⟩, _, r1⟩ := h1 _ _ _ _ _ _ (by simpa using q1)
      refine ⟨_, ⟨p, q, rfl⟩, rfl, fun j c i e1 e2 => ?_⟩
      match j, e1, e2 with
      | 0, e1, e2 => exact r0 0 c i (by simpa using e1) (by simpa using e2)
      | 1, e1, e2 => exact r1 0 c i (by simpa using e1) (by simpa using e2)
      | j + 2, e1, e2 => simp at e1

end Go.Idl

namespace Go.Proofs.YtolkpoeioagibaaGreatDoor

open Go Go.ChangeShapes Go.WideShapes Go.ChangeAt Go.RowKit Go.Idl

theorem ownNone : ownKnob Tryz.prog.godebug = none := by kernel_rfl

theorem laidOutAll : laidOutB Tryz.prog = true := by kernel_rfl

def laidE : List (String × DataW Unit) := Rows.entryDoesRow.laid

theorem door_met (os : Os) (args : Array Value) : laidMetH Tryz.prog laidE ((World.doorLaid Tryz.prog 400 os).forCall (fun _ _ => 0) ⟨#[], args, []⟩).memory :=
  laidMetH_of_parts3 (fuel := 8) (laidMet_of_run' 8 (by kernel_rfl) (by kernel_rfl)) (by kernel_rfl) (by kernel_rfl)

section

variable {w : World} {Hh : Type} {enc : TypeId × Value → Hh}

theorem rd9 : Rd Tryz.prog w enc 9 fun is => ∃ s : List UInt8, is = [.v (str s)] := Rd_string Tryz.underlying9

theorem rd40 : Rd Tryz.prog w enc 40 fun is => ∃ l : List (List UInt8), is = [.sl 1 (l.map fun x => [.v (str x)])] := by
  have h := Rd_slice (w := w) (enc := enc) (fun s : List UInt8 => [IV.v (str s)]) Tryz.underlying40 (Nat.lt_of_lt_of_eq Nat.one_pos cells9.symm) rd9
  rw [cells9] at h
  exact h

theorem rd51 : Rd Tryz.prog w enc 51 fun is => ∃ x : S50, is = [.v (str x.fName), .sl 1 (x.fValues.map fun x => [.v (str x)])] := by
  intro base spare held fuel cs x h
  obtain ⟨is, ⟨n, l, rfl⟩, h1, h2⟩ := Rd_struct2 (fun s : List UInt8 => IV.v (str s)) (fun l : List (List UInt8) => IV.sl 1 (l.map fun x => [.v (str x)])) Tryz.underlying51 cells51 rfl rfl cells9 cells40 rd9 rd40 base spare held fuel cs x h
  exact ⟨_, ⟨⟨n, l⟩, rfl⟩, h1, h2⟩

theorem rd23 : Rd Tryz.prog w enc 23 fun is => ∃ l : List S50, is = [eS l] := by
  have h := Rd_slice (w := w) (enc := enc) (fun x : S50 => [IV.v (str x.fName), .sl 1 (x.fValues.map fun x => [.v (str x)])]) Tryz.underlying23 (Nat.lt_of_lt_of_eq (by decide : 0 < 2) cells51.symm) rd51
  rw [cells51] at h
  exact h

end

end Go.Proofs.YtolkpoeioagibaaGreatDoor

namespace Go.Proofs.YtolkpoeioagibaaGreatDoor

open Go Go.ChangeShapes Go.WideShapes Go.ChangeAt Go.RowKit Go.Idl

set_option maxRecDepth 100000 in
theorem entryDiffs_lifted (os : Os) (started : os.Started) (H : Type) (enc : TypeId × Value → H) :
    ReturnsInHanded {} Tryz.checked os 5 .any (fun w args => (Rows.entryDiffsSpec.pre enc Tryz.prog Tryz.f5 [] false w args ∧ laidMetH Tryz.prog laidE w) ∧ sizedMet enc Tryz.prog Tryz.f5 (OpenSpec.ofChange Rows.entryDiffsSpec) false w args)
      (Rows.entryDiffsSpec.post enc Tryz.prog Tryz.f5 false true false false) := by
  refine returnsInHanded_of_change_and (C := Tryz.checked) (X := fun w _ => laidMetH Tryz.prog laidE w) (fun _ _ _ hh h => h.of_heap hh) ownNone started (by kernel_rfl) Tryz.func5
    (ChangeSpec.witness_shaped (enc := enc) (C := Tryz.checked) (os := os) (X := fun w _ => laidMetH Tryz.prog laidE w) false (World.doorLaid Tryz.prog 400 os) #[.slice none 0 0, .slice none 0 0] 8 rfl (World.shaped_of_RefB (by kernel_rfl) (by kernel_rfl)) (by kernel_rfl) (by kernel_rfl) (by kernel_rfl) (door_met os _)) ?_
  intro W base args ds gs before hval0 hW _ hwt hL _
  have hval : ∀ (j : Nat) t v, Tryz.f5.params[j]? = some t → args[j]? = some v → Value.okWide Tryz.prog W .any base t v := hval0
  have hW' := hW
  obtain ⟨p, q, hA0, hV, rfl, hfz, hnd⟩ := hW
  have hA : DataW.TrodAll enc Tryz.prog W 0 (fun _ => true) true Tryz.f5.params.toList args.toList ds p := hA0
  rw [Tryz.params5] at hA hval
  obtain ⟨v0, v1, d0, d1, p0, p1, rfl, rfl, rfl, h0, h1⟩ := trodAll_two hA
  obtain ⟨rfl, rfl⟩ := trodVars_none hV
  simp only [List.append_nil] at hW'
  have hlt := hW'.lt
  obtain ⟨a0, len0, cap0, rfl⟩ := okWide_slice Tryz.underlying23 (hval 0 23 v0 rfl rfl)
  obtain ⟨a1, len1, cap1, rfl⟩ := okWide_slice Tryz.underlying23 (hval 1 23 v1 rfl rfl)
  obtain ⟨i0, ⟨x0, e0⟩, r0⟩ := rd23.one rfl h0
  simp only [List.cons.injEq, and_true] at e0
  subst e0
  obtain ⟨i1, ⟨x1, e1⟩, r1⟩ := rd23.one rfl h1
  simp only [List.cons.injEq, and_true] at e1
  subst e1
  have hcall := (F5_ok (H := H0) (K := fun e _ => e = .ret (.v (.bool true))) x0 x1 (F5_eq x0 x1) rfl).run W g0 #[.slice a0 len0 cap0, .slice a1 len1 cap1] (sim0 W) ⟨rfl, fun j x i hx hi => by
    match j, hx, hi with
    | 0, hx, hi => simp at hx hi; subst hx; subst hi; exact r0
    | 1, hx, hi => simp at hx hi; subst hx; subst hi; exact r1
    | j + 2, hx, hi => simp at hx⟩
  refine hcall.mono ?_
  rintro e W' ⟨ie, g', H', hm, _, hre, rfl⟩
  have hb := below_of_mono hm
  obtain ⟨rfl⟩ : e = .returned (.bool true) := by
    cases hre with
    | ret x i h => rw [h.v_eq]
  refine ⟨_, rfl, ?_⟩
  refine ⟨_, _, _, [], p0 ++ p1, [], hW', trodAll_mk1 (shut_bool Tryz.underlying4 _), ?_, ?_, hb.frame _, fun h => by cases h⟩
  · have hl0 : ∀ x ∈ p0, x.block < W.heap.size := fun x hx => hlt x (by simp [hx])
    have hl1 : ∀ x ∈ p1, x.block < W.heap.size := fun x hx => hlt x (by simp [hx])
    have k0 := Below.trod laidOutAll (by kernel_rfl) (of_decide_eq_true (by kernel_rfl)) h0 hb hl0
    have k1 := Below.trod laidOutAll (by kernel_rfl) (of_decide_eq_true (by kernel_rfl)) h1 hb hl1
    exact ⟨p0, p1, k0, ⟨p1, [], k1, rfl, by simp⟩, by simp⟩
  · rfl

theorem entryDiffs_row : Rows.EntryDiffsSaid :=
  OpenClaim.holds_of_wide 5 Tryz.f5 rfl rfl rfl rfl rfl rfl rfl ⟨rfl, rfl, rfl, rfl, rfl⟩ rfl rfl rfl rfl rfl (by kernel_rfl) Tryz.func5 (by kernel_rfl)
    (of_decide_eq_true (by kernel_rfl)) (by unfold Func.isWrapper; first | (rw [if_pos (by decide +kernel)]; kernel_rfl) | (rw [if_neg (by decide +kernel)]; exact ⟨rfl, rfl⟩))
    (fun os started H enc _ => entryDiffs_lifted os started H enc)

theorem entryDiffs_holds : Rows.EntryDiffsCardSaid :=
  Claim7.holds_tied_plain_at .later [] [.data, .data, .data] true (true, "50e4754251813c10f565251bd7064b64b9978502f0b8e6034c86890fe2975e00") true
    entryDiffs_row (fun _ h => by cases h) (by kernel_rfl) (fun _ h => by cases h) entryDiffs_row_tie rfl ⟨rfl, rfl⟩ (by kernel_rfl) rfl
    (fun f fn hf hfn => by
      obtain rfl : f = 5 := Option.some.inj ((show Tryz.prog.funcNamed "cardcase/cardcaselaw07.EntryDiffs" = some 5 by kernel_rfl).symm.trans hf) |>.symm
      obtain rfl : fn = Tryz.f5 := (Option.some.inj (Tryz.func5.symm.trans hfn)).symm
      exact ⟨by kernel_rfl, fun j t ht => by
        rw [Tryz.params5] at ht
        have hm : t ∈ [23, 23] := by simpa using Array.mem_of_getElem? ht
        have hall : ([23, 23].all fun u => !Tryz.prog.wantsStandIn u) = true := by kernel_rfl
        exact (show Tryz.prog.wantsStandIn t = false by simpa using List.all_eq_true.1 hall t hm)⟩)
    (by kernel_rfl)

end Go.Proofs.YtolkpoeioagibaaGreatDoor
