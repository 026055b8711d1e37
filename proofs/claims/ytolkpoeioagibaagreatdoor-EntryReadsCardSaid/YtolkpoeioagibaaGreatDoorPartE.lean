/- The entry of any text, or that it is of none. Part 5. Conditions: none. -/
import Derived.Test.YtolkpoeioagibaaGreatDoorPartD
import Derived.WalkSpells
import Derived.WalkLawsBesides
import Derived.Shelf.Strconv.Itoa3
set_option linter.unusedSimpArgs false
set_option linter.unusedVariables false

namespace Go.Proofs

open Go.Shelf Go.Sort Go.RowKit

theorem Tryz.bldExtra : Builder.Extra Tryz.prog Tryz.lays169_ren where
  sizeBuilder := by kernel_rfl
  liesBuilder := by kernel_rfl
  t5 := Tryz.underlying5
  a5 := Tryz.isAgg5
  z5 := Tryz.sizeOf5
  v5 := Tryz.zeroValue5
  infoByte := by kernel_rfl
  cellsByte := by kernel_rfl
  sizeByte := by kernel_rfl
  neB5 := by decide

set_option maxHeartbeats 1000000 in
set_option maxRecDepth 100000 in
theorem Tryz.copyUsed (b : Nat) (w : World) (h0 : w.cell? ⟨b, 0, none⟩ = some (.pointer (some ⟨b, 0, none⟩))) :
    Calls Tryz.prog 94 #[.pointer (some ⟨b, 0, none⟩)] w fun e w' => e = .returned (.tuple #[]) ∧ w' = w := by
  obtain ⟨j, hj, _⟩ := Option.map_eq_some_iff.1 Tryz.bldExtra.sizeBuilder
  go_enter Tryz.func94, Tryz.ntmps94
  go_wp2
  rw [Lib.run_neq_ptr_same w _ Tryz.underlying88 hj]
  go_wp2
  go_end0
  exact ⟨rfl, rfl⟩

set_option maxHeartbeats 1000000 in
set_option maxRecDepth 100000 in
theorem Tryz.copyFresh (b : Nat) (w : World) (h0 : w.cell? ⟨b, 0, none⟩ = some (.pointer none)) (hsh : w.shape? b = some (91, 2)) (hfz : w.frozen? ⟨b, 0, none⟩ = false) :
    Calls Tryz.prog 94 #[.pointer (some ⟨b, 0, none⟩)] w fun e w' => e = .returned (.tuple #[]) ∧ w' = w.setCell ⟨b, 0, none⟩ (.pointer (some ⟨b, 0, none⟩)) := by
  obtain ⟨j, hj, hjs⟩ := Option.map_eq_some_iff.1 Tryz.bldExtra.sizeBuilder
  go_enter Tryz.func94, Tryz.ntmps94
  go_wp2
  rw [Lib.run_to_unsafe w ⟨b, 0, none⟩ Tryz.underlying88 Tryz.underlying128 hj (by rw [hjs]; decide) hsh (Nat.zero_lt_succ 1)]
  simp only [Result.andThen]
  rw [Oper.upon_value]
  go_wp2
  rw [run_callFunc_extern Tryz.func108 (by kernel_rfl) (by kernel_rfl) (by kernel_rfl) (e := Extern.AbiNoEscape.same) (by kernel_rfl)]
  rw [Lib.run_noEscape]
  simp only [Result.andThen]
  rw [Oper.upon_value]
  go_wp2
  rw [Lib.run_from_unsafe w ⟨b, 0, none⟩ Tryz.underlying128 Tryz.underlying88 hj hsh Tryz.bldExtra.liesBuilder]
  simp only [Result.andThen]
  rw [Oper.upon_value]
  go_wp2
  go_end0
  exact ⟨rfl, rfl⟩

end Go.Proofs

namespace Go.Idl

open Go Go.Proofs.Tryz Go.RowKit Go.Proofs Go.Shelf

theorem copy42 {H : IHeap} {K : IEnd → IHeap → Prop} (k : Nat) (a buf : IV) (ho : H.obj k = some (.ty 91 (.cells [a, buf])))
    (ha : a = .v (.pointer none) ∨ a = .p k 0) (hK : K (.ret (.tu [])) (H.set k (.ty 91 (.cells [.p k 0, buf])))) : ICalls prog 94 [.p k 0] H K :=
  ICalls_copyCheck (by kernel_rfl) Tryz.copyFresh Tryz.copyUsed k a buf ho ha hK

theorem string31 {H : IHeap} {K : IEnd → IHeap → Prop} (n0 k : Nat) (l : List UInt8) (hB : Bld 91 5 H n0 k l)
    (hK : ∀ J, BStep H J n0 k → K (.ret (.v (str l))) J) : ICalls prog 67 [.p k 0] H K :=
  ICalls_BString Tryz.lays169 Tryz.bldExtra rfl (by kernel_rfl) n0 k l hB hK

set_option pp.deepTerms false in
set_option maxRecDepth 4000 in
theorem wstr28 {H : IHeap} {K : IEnd → IHeap → Prop} (n0 k : Nat) (l s : List UInt8) (hB : Bld 91 5 H n0 k l) (hn : n0 ≤ H.next) (hl : l.length + s.length ≤ 140737488355328)
    (hK : ∀ J, BStep H J n0 k → Bld 91 5 J n0 k (l ++ s) → K (.ret (.tu [.v (.int .i64 s.length), .v .nilIface])) J) : ICalls prog 65 [.p k 0, .v (str s)] H K := by
  obtain ⟨hk0, a, buf, ho, ha, hbuf⟩ := hB
  refine ICalls_vc (N := 19) func65 (by kernel_rfl) rfl (by kernel_rfl) (by kernel_rfl) fun hw hbd hnb => ?_
  have hkn : k < H.next := by
    rcases Nat.lt_or_ge k H.next with h | h
    · exact h
    · rw [hw k h] at ho; cases ho
  simp (maxSteps := 1000000) (disch := omega) [go_sem]
  refine copy42 k a buf ho ha ?_
  rcases hbuf with ⟨rfl, rfl⟩ | ⟨kb, hkb, hne, rfl, hob⟩
  · have e1 : ¬ k = H.next := by omega
    simp (maxSteps := 1000000) (disch := omega) [go_sem, e1]
    have e2 : ¬ H.next = k := by omega
    refine ⟨by simpa [Side, byt_length] using hl, retG_all (hK _ ⟨by simp [go_sem], fun i o hi hik ht => ?_, rfl⟩ ⟨hk0, .p k 0, .os H.next (byt s).length, by simp [go_sem], .inr rfl, .inr ⟨H.next, hn, e2, by simp [byt_length], by simp [go_sem, e2]⟩⟩)⟩
    have hin : i < H.next := by
      rcases Nat.lt_or_ge i H.next with h | h
      · exact h
      · rw [hw i h] at hi; cases hi
    have e3 : ¬ i = H.next := by omega
    simp [go_sem, hik, e3, hi]
  · have hkb' : kb < H.next := by
      rcases Nat.lt_or_ge kb H.next with h | h
      · exact h
      · rw [hw kb h] at hob; cases hob
    simp (maxSteps := 1000000) (disch := omega) [go_sem, hob, hne]
    refine ⟨⟨by simp [Side, byt_length], by simpa [Side, byt_length] using hl⟩, retG_all (hK _ ⟨by simp [go_sem], fun i o hi hik ht => ?_, rfl⟩ ⟨hk0, .p k 0, .os kb ((byt l).length + (byt s).length), by simp [go_sem], .inr rfl, .inr ⟨kb, hkb, hne, by simp [byt_length], by simp [go_sem, hne, byt]⟩⟩)⟩
    have e3 : ¬ i = kb := by
      rintro rfl
      rw [hob] at hi
      cases hi
      rcases ht with ht | ht
      · omega
      · cases ht
    simp [go_sem, hik, e3, hi]

theorem Ext.bstep {H H' J : IHeap} {n0 k : Nat} (he : Ext H H') (hn : n0 = H.next) (hk : n0 ≤ k) (hb : BStep H' J n0 k) : Ext H J := by
  refine ⟨he.wf, Nat.le_trans he.le hb.le, fun i o hi => ?_, hb.sn.trans he.sn⟩
  have hin : i < H.next := by
    rcases Nat.lt_or_ge i H.next with h | h
    · exact h
    · rw [he.wf i h] at hi; cases hi
  exact hb.keep i o (he.sub i o hi) (by omega) (.inl (by omega))

theorem Bld.fresh {H' : IHeap} {n0 k : Nat} (h : H'.obj k = some (.ty 91 (.cells [.v (.pointer none), .v (.slice none 0 0)]))) (hk : n0 ≤ k) : Bld 91 5 H' n0 k [] := ⟨hk, _, _, h, .inl rfl, .inl ⟨rfl, rfl⟩⟩

end Go.Idl

namespace Go.Idl

open Go Go.Proofs.Tryz Go.RowKit Go.Proofs Go.Shelf

variable {H : IHeap} {K : IEnd → IHeap → Prop}

theorem IWp_wf {P : Program} {N : Nat} {c : Code} {Q : Exit → Tm → IHeap → Prop} {tm : Tm} (h : H.Wf → IWp P N c Q tm H) : IWp P N c Q tm H := ⟨fun rr B w g a s r hN hB hm => (h s.wf).run rr B w g a s r hN hB hm⟩

theorem itoa66 (n : Nat) (hn : n < 100) (hK : K (.ret (.v (str (Lib.decDigits n)))) H) : ICalls prog 66 [.v (.int .i64 n)] H K := by
  refine ⟨by kernel_rfl, fun w g vs s rl => ?_⟩
  obtain ⟨x, rfl, hx⟩ := args1 rl
  rw [hx.v_eq]
  refine (Any.strconv_Itoa_small Go.Proofs.Tryz.lays171 n hn w).mono ?_
  rintro e w' ⟨rfl, rfl⟩
  exact ⟨_, g, H, .refl _ _, s, .ret _ _ (.v _), hK⟩

set_option pp.deepTerms false in
theorem line64 (n0 k : Nat) (l a b : List UInt8) (hB : Bld 91 5 H n0 k l) (hn : n0 ≤ H.next) (hl : l.length + a.length + b.length ≤ 140737488355000)
    (hK : ∀ J, BStep H J n0 k → Bld 91 5 J n0 k (l ++ (a ++ 32 :: b ++ [10])) → K (.ret (.tu [])) J) : ICalls prog 64 [.v (str a), .v (str b), .p k 0] H K := by
  refine ICalls_vc (N := 11) func64 (by kernel_rfl) rfl (by kernel_rfl) (by kernel_rfl) fun hw hbd hnb => ?_
  simp (maxSteps := 1000000) (disch := omega) [go_sem]
  refine wstr28 n0 k l _ hB hn (by simp; omega) fun J hJ hB' => ?_
  simp (maxSteps := 1000000) (disch := omega) [go_sem]
  exact retG_all (hK J hJ (by simpa using hB'))

theorem Bld.mono {T e : TypeId} {J : IHeap} {n0 k : Nat} {l : List UInt8} (hB : Bld T e H n0 k l) (h : ∀ i o, H.obj i = some o → J.obj i = some o) : Bld T e J n0 k l := by
  obtain ⟨h1, a, buf, h2, h3, h4⟩ := hB
  refine ⟨h1, a, buf, h _ _ h2, h3, ?_⟩
  rcases h4 with h4 | ⟨kb, h5, h6, h7, h8⟩
  · exact .inl h4
  · exact .inr ⟨kb, h5, h6, h7, h _ _ h8⟩

def valT (v : Str) : Str := Lib.decDigits v.length ++ 32 :: v ++ [10]

def headT (a : S50) : Str := a.fName ++ 32 :: Lib.decDigits a.fValues.length ++ [10]

def attrT (a : S50) : Str := headT a ++ a.fValues.flatMap valT

def entryT (l : List S50) : Str := l.flatMap attrT

theorem dec_len (n : Nat) : (Lib.decDigits n).length ≤ n + 1 := by
  induction n using Nat.strongRecOn with
  | _ n ih =>
    unfold Lib.decDigits
    split
    · simp
    · have := ih (n / 10) (by omega)
      simp only [List.length_append, List.length_cons, List.length_nil]
      omega

theorem valsT_len (l : List Str) (h : ∀ s, s ∈ l → s.length ≤ 1000000) : (l.flatMap valT).length ≤ l.length * 2000003 := by
  induction l with
  | nil => simp
  | cons s l ih =>
    have h1 := h s (by simp)
    have h2 := ih fun s hs => h s (by simp [hs])
    have h3 := dec_len s.length
    simp only [List.flatMap_cons, List.length_append, List.length_cons, List.length_nil, valT]
    omega

structure SmallE (l : List S50) : Prop where
  len : l.length ≤ 1000
  name : ∀ a, a ∈ l → a.fName.length ≤ 1000000
  vals : ∀ a, a ∈ l → a.fValues.length ≤ 1000
  val : ∀ a, a ∈ l → ∀ v, v ∈ a.fValues → v.length ≤ 1000000

theorem preE_succ (l : List S50) (i : Nat) (h : i < l.length) : entryT (l.take (i + 1)) = entryT (l.take i) ++ attrT l[i] := by
  unfold entryT
  rw [List.take_succ_eq_append_getElem h, List.flatMap_append]
  simp

theorem headT_len (a : S50) (h1 : a.fName.length ≤ 1000000) (h2 : a.fValues.length ≤ 1000) : (headT a).length ≤ 1001003 := by
  have := dec_len a.fValues.length
  simp only [headT, List.length_append, List.length_cons, List.length_nil]
  omega

theorem preE_len (l : List S50) (h : SmallE l) (i : Nat) : (entryT (l.take i)).length ≤ i * 2002000000 := by
  induction i with
  | zero => simp [entryT]
  | succ i ih =>
    rcases Nat.lt_or_ge i l.length with hi | hi
    · rw [preE_succ l i hi, List.length_append]
      have hm := List.getElem_mem hi
      have h2 := headT_len l[i] (h.name _ hm) (h.vals _ hm)
      have h3 := valsT_len l[i].fValues (h.val _ hm)
      have h4 := h.vals _ hm
      simp only [attrT, List.length_append]
      omega
    · rw [List.take_of_length_le (by omega)]
      rw [List.take_of_length_le hi] at ih
      exact Nat.le_trans ih (Nat.mul_le_mul_right _ (Nat.le_succ _))

set_option pp.deepTerms false in
set_option maxRecDepth 8000 in
set_option maxHeartbeats 2000000 in
theorem text30 (l : List S50) (c : Int) (hc : F17 l = some c) (hs : SmallE l) (B : Nat) (hI : ∀ (n : Nat), n ≤ B → ∀ (J : IHeap) (K : IEnd → IHeap → Prop), J.sn = H.sn → K (.ret (.v (str (Lib.decDigits n)))) J → ICalls prog 66 [.v (.int .i64 n)] J K)
    (hB1 : ∀ a, a ∈ l → a.fValues.length ≤ B) (hB2 : ∀ a, a ∈ l → ∀ v, v ∈ a.fValues → v.length ≤ B)
    (hK : K (.ret (.tu [.v (str (if c = 0 then entryT l else [])), .v (.int .i64 (if c = 0 then 0 else 2))])) H) : ICalls prog 30 [eS l] H K := by
  refine ICalls_vc (N := 44) func30 (by kernel_rfl) rfl (by kernel_rfl) (by kernel_rfl) fun hw hbd hnb => ?_
  simp (maxSteps := 1000000) (disch := omega) [go_sem]
  refine F17_ok l hc ?_
  simp (maxSteps := 1000000) (disch := omega) [go_sem]
  refine condB ?_ ?_ <;> intro g1 <;> (try simp at g1)
  · simp (maxSteps := 1000000) (disch := omega) [go_sem]
    rw [if_neg g1, if_neg g1] at hK
    exact retG_pure (.refl hw) (NB_tuL (NBL.cons (.v _) (NBL.cons (.v _) NBL.nil))) hK
  · simp (maxSteps := 1000000) (disch := omega) [go_sem]
    subst g1
    refine vcLoop_mk (fun tm' H' => ∃ i : Nat, tm' 4 = .p H.next 0 ∧ tm' 5 = .fn (.func 64) [] [.p H.next 0] ∧ tm' 14 = eS l ∧ tm' 15 = .v (.int .i64 l.length) ∧ tm' 16 = .v (.int .i64 i) ∧ i ≤ l.length ∧ Ext H H' ∧ H.next < H'.next ∧ Bld 91 5 H' H.next H.next (entryT (l.take i))) (fun tm' _ => l.length - (intOf (tm' 16)).toNat) (.same ?_) ?_
    · exact ⟨0, by simp [go_sem], by simp [go_sem], by simp [go_sem], by simp [go_sem], by simp [go_sem], by omega, (Ext.refl hw).new _, by simp [go_sem], Bld.fresh (by simp [go_sem]) (Nat.le_refl _)⟩
    rintro I' μ' hI' hμ tm' H' ⟨i, h4, h5, h14, h15, h16, hi, he, hn, hB⟩
    refine IWp_wf fun hw' => ?_
    refine vc_sound _ (by kernel_rfl) _ _ _ ?_
    simp (maxSteps := 1000000) (disch := omega) [go_sem, h4, h5, h14, h15, h16]
    refine condB ?_ ?_ <;> intro hc1 <;> (try simp at hc1)
    · have hm := List.getElem_mem hc1
      have hpl := preE_len l hs i
      have hhl := headT_len l[i] (hs.name _ hm) (hs.vals _ hm)
      have hi1 := hs.len
      simp (maxSteps := 1000000) (disch := omega) [go_sem, h4, h5, h14, h15, h16]
      refine IWp_draw [0, 1, 2, 3, 4, 5, 6, 7] (by kernel_rfl) (by kernel_rfl) (fun _ _ _ _ h => h) ?_
      simp (maxSteps := 1000000) (disch := omega) [go_sem, h4, h5, h14, h15, h16]
      refine hI l[i].fValues.length (hB1 _ hm) _ _ (by exact he.sn) ?_
      simp (maxSteps := 1000000) (disch := omega) [go_sem, h4, h5, h14, h15, h16]
      have hd := dec_len l[i].fValues.length
      refine line64 H.next H.next _ _ _ (hB.mono ?_) (by simp [go_sem]; omega) (by have := hs.name _ hm; have := hs.vals _ hm; omega) fun J hJ hB4 => ?_
      · intro q o hq
        have : ¬ q = H'.next := by rintro rfl; rw [hw' _ (Nat.le_refl _)] at hq; cases hq
        simp [go_sem, this, hq]
      have hx2 := hJ.keep H'.next (.cells [.v (str l[i].fName), .sl 1 (l[i].fValues.map fun x => [.v (str x)])]) (by simp [go_sem]) (by omega) (.inr rfl)
      simp (maxSteps := 1000000) (disch := omega) [go_sem, h4, h5, h14, h15, h16, hx2]
      have heJ : Ext H J := ((he.new _).set (by omega) _).bstep rfl (Nat.le_refl _) hJ
      have hnJ : H.next < J.next := by have := hJ.le; simp [go_sem] at this; omega
      clear hx2
      refine vcLoop_mk (fun tm2 H2 => ∃ j : Nat, tm2 4 = .p H.next 0 ∧ tm2 5 = .fn (.func 64) [] [.p H.next 0] ∧ tm2 14 = eS l ∧ tm2 15 = .v (.int .i64 l.length) ∧ tm2 16 = .v (.int .i64 i) ∧ tm2 29 = .sl 1 (l[i].fValues.map fun x => [.v (str x)]) ∧ tm2 30 = .v (.int .i64 l[i].fValues.length) ∧ tm2 31 = .v (.int .i64 j) ∧
        j ≤ l[i].fValues.length ∧ Ext H H2 ∧ H.next < H2.next ∧ Bld 91 5 H2 H.next H.next (entryT (l.take i) ++ headT l[i] ++ (l[i].fValues.take j).flatMap valT)) (fun tm2 _ => l[i].fValues.length - (intOf (tm2 31)).toNat) (.same ?_) ?_
      · refine ⟨0, by simp [go_sem, h4], by simp [go_sem, h5], by simp [go_sem, h14], by simp [go_sem, h15], by simp [go_sem, h16], by simp [go_sem], by simp [go_sem], by simp [go_sem], by omega, heJ, hnJ, ?_⟩
        simpa [headT] using hB4
      rintro I2 μ2 hI2 hμ2 tm2 H2 ⟨j, q4, q5, q14, q15, q16, q29, q30, q31, hj, he2, hn2, hB2'⟩
      refine vc_sound _ (by kernel_rfl) _ _ _ ?_
      simp (maxSteps := 1000000) (disch := omega) [go_sem, q4, q5, q14, q15, q16, q29, q30, q31]
      refine condB ?_ ?_ <;> intro hc2 <;> (try simp at hc2)
      · have hmv := List.getElem_mem hc2
        have hlv := hs.val _ hm _ hmv
        have hvl := valsT_len (l[i].fValues.take j) (fun s hs' => hs.val _ hm s (List.mem_of_mem_take hs'))
        have hv1 := hs.vals _ hm
        have htk : (l[i].fValues.take j).length ≤ 1000 := by rw [List.length_take]; omega
        simp (maxSteps := 1000000) (disch := omega) [go_sem, q4, q5, q14, q15, q16, q29, q30, q31]
        refine hI l[i].fValues[j].length (hB2 _ hm _ hmv) _ _ he2.sn ?_
        simp (maxSteps := 1000000) (disch := omega) [go_sem, q4, q5, q14, q15, q16, q29, q30, q31]
        have hd2 := dec_len l[i].fValues[j].length
        refine line64 H.next H.next _ _ _ hB2' (by omega) (by simp only [List.length_append]; omega) fun J2 hJ2 hB5 => ?_
        simp (maxSteps := 1000000) (disch := omega) [go_sem, q4, q5, q14, q15, q16, q29, q30, q31]
        refine .of hI2 hμ2 ⟨j + 1, by simp [go_sem, q4], by simp [go_sem, q5], by simp [go_sem, q14], by simp [go_sem, q15], by simp [go_sem, q16], by simp [go_sem, q29], by simp [go_sem, q30], by simp [go_sem], by omega, he2.bstep rfl (Nat.le_refl _) hJ2, Nat.lt_of_lt_of_le hn2 hJ2.le, ?_⟩ (by simp [go_sem, q31]; omega)
        rw [List.take_succ_eq_append_getElem hc2, List.flatMap_append]
        simpa [valT] using hB5
      · simp (maxSteps := 1000000) (disch := omega) [go_sem, q4, q5, q14, q15, q16, q29, q30, q31]
        have e : j = l[i].fValues.length := by omega
        subst e
        rw [List.take_length] at hB2'
        refine .of hI' hμ ⟨i + 1, by simp [go_sem, q4], by simp [go_sem, q5], by simp [go_sem, q14], by simp [go_sem, q15], by simp [go_sem], by omega, he2, hn2, ?_⟩ (by simp [go_sem, h16]; omega)
        rw [preE_succ l i hc1, attrT, ← List.append_assoc]
        exact hB2'
    · simp (maxSteps := 1000000) (disch := omega) [go_sem, h4, h5, h14, h15, h16]
      have e : i = l.length := by omega
      subst e
      rw [List.take_length] at hB
      refine string31 H.next H.next _ hB fun J hJ => ?_
      simp (maxSteps := 1000000) (disch := omega) [go_sem]
      rw [if_pos rfl, if_pos rfl] at hK
      exact retG_pure (he.bstep rfl (Nat.le_refl _) hJ) (NB_tuL (NBL.cons (.v _) (NBL.cons (.v _) NBL.nil))) hK

noncomputable def F30 (l : List S50) : Option (Str × Int) := gd ((l.length : Int) ≤ 1000 ∧ (∀ a, a ∈ l → (a.fName.length : Int) ≤ 1000000) ∧ (∀ a, a ∈ l → (a.fValues.length : Int) < 100) ∧ (∀ a, a ∈ l → ∀ v, v ∈ a.fValues → (v.length : Int) < 100)) ((F17 l).bind fun c => some (if c = 0 then entryT l else [], if c = 0 then 0 else 2))

theorem F30_ok (l : List S50) {r : Str × Int} (h : F30 l = some r) (hK : K (.ret (.tu [.v (str r.1), .v (.int .i64 r.2)])) H) : ICalls prog 30 [eS l] H K := by
  obtain ⟨⟨h1, h2, h3, h4⟩, h⟩ := gd_some.1 h
  obtain ⟨c, hc, h⟩ := bind_some' h
  cases h
  exact text30 l c hc ⟨by omega, fun a ha => by have := h2 a ha; omega, fun a ha => by have := h3 a ha; omega, fun a ha v hv => by have := h4 a ha v hv; omega⟩ 99 (fun n hn J K _ hK => itoa66 n (by omega) hK)
    (fun a ha => by have := h3 a ha; omega) (fun a ha v hv => by have := h4 a ha v hv; omega) hK

end Go.Idl

namespace Go.Idl

open Go Go.Proofs.Tryz

/-! cardcase/cardcaselaw07.texts -/

/-! cardcase/cardcaselaw07.light -/

/-! cardcase/entry.Order$1 -/

noncomputable def F53 (a0 : S50) : Option Bool :=
 (F45 a0.fName).bind fun (x3 : Bool) => if x3 = true then ((F46 a0.fValues).bind fun (x4 : Bool) => some x4) else (some false)

set_option maxHeartbeats 8000000 in
set_option pp.deepTerms false in
set_option maxRecDepth 60000 in
theorem F53_ok {H : IHeap} {K : IEnd → IHeap → Prop} (a0 : S50) {r : Bool} (h : F53 a0 = some r) (hK : K (.ret (.v (.bool r))) H) : ICalls prog 53 [.ag ([.v (str a0.fName), .sl 1 (a0.fValues.map fun x => [.v (str x)])])] H K := by
 refine ICalls_iwp (N := 11) func53 (by kernel_rfl) rfl (by kernel_rfl) (by kernel_rfl) fun cb hcb hw hbd hnb => ?_
 clear hbd hnb
 subst hcb
 unfold F53 at h
 refine IWp_seqF fun cb hc1 => ?_
 refine vcK ?_
 try simp -implicitDefEqProofs (maxSteps := 1000000) (disch := omega) [go_sem]
 subst hc1
 refine IWp_seqF fun cb hc2 => ?_
 refine vcK ?_
 try simp -implicitDefEqProofs (maxSteps := 1000000) (disch := omega) [go_sem]
 obtain ⟨x3, hx3, h⟩ := bind_some' h
 refine ICalls.eqA (args' := [.v (str a0.fName)]) (by first | with_reducible rfl | (simp -implicitDefEqProofs (maxSteps := 1000000) (disch := omega) [go_sem] <;> omega)) (F45_ok a0.fName hx3 ?_)
 try simp -implicitDefEqProofs (maxSteps := 1000000) (disch := omega) [go_sem]
 refine splitG_f h (by first | with_reducible rfl | (simp -implicitDefEqProofs (maxSteps := 1000000) (disch := omega) [go_sem] <;> omega)) ?_ ?_
 ·intro c5 h
  try simp -implicitDefEqProofs (disch := omega) at c5
  try simp -implicitDefEqProofs (maxSteps := 1000000) (disch := omega) [go_sem]
  obtain ⟨x4, hx4, h⟩ := bind_some' h
  refine ICalls.eqA (args' := [.sl 1 (a0.fValues.map fun x => [.v (str x)]), .v (.func (.func 47) #[] #[])]) (by first | with_reducible rfl | (simp -implicitDefEqProofs (maxSteps := 1000000) (disch := omega) [go_sem] <;> omega)) (F46_ok a0.fValues hx4 ?_)
  try simp -implicitDefEqProofs (maxSteps := 1000000) (disch := omega) [go_sem]
  subst hc2
  refine vcK ?_
  simp -implicitDefEqProofs only [go_sem]
  have er := Option.some.inj h
  subst er
  try simp -implicitDefEqProofs (maxSteps := 1000000) (disch := omega) [go_sem]
  refine retG_pureA (Ext.refl hw) hK (e := by first | with_reducible rfl | (simp -implicitDefEqProofs (maxSteps := 1000000) (disch := omega) [go_sem] <;> omega))
 ·intro c5 h
  try simp -implicitDefEqProofs (disch := omega) at c5
  try simp -implicitDefEqProofs (maxSteps := 1000000) (disch := omega) [go_sem]
  subst hc2
  refine vcK ?_
  simp -implicitDefEqProofs only [go_sem]
  have er := Option.some.inj h
  subst er
  try simp -implicitDefEqProofs (maxSteps := 1000000) (disch := omega) [go_sem]
  refine retG_pureA (Ext.refl hw) hK (e := by first | with_reducible rfl | (simp -implicitDefEqProofs (maxSteps := 1000000) (disch := omega) [go_sem] <;> omega))

/-! cardcase/entry.all[cardcase/api.Attr]$1 -/

noncomputable def F89 (a0 : S50) : Option Bool :=
 (F53 a0).bind fun (x3 : Bool) => some (!x3)

set_option maxHeartbeats 8000000 in
set_option pp.deepTerms false in
set_option maxRecDepth 60000 in
theorem F89_ok {H : IHeap} {K : IEnd → IHeap → Prop} (a0 : S50) (ka1 : Nat) (oka1 : H.obj ka1 = some (.cells ([.v (.func (.func 53) #[] #[])]))) {r : Bool} (h : F89 a0 = some r) (hK : K (.ret (.v (.bool r))) H) : ICalls prog 89 [.ag ([.v (str a0.fName), .sl 1 (a0.fValues.map fun x => [.v (str x)])]), .p ka1 0] H K := by
 refine ICalls_iwp (N := 8) func89 (by kernel_rfl) rfl (by kernel_rfl) (by kernel_rfl) fun cb hcb hw hbd hnb => ?_
 clear hbd hnb
 subst hcb
 unfold F89 at h
 have hka1 : ka1 < H.next := Nat.lt_of_not_le fun q => by rw [hw _ q] at oka1; cases oka1
 refine IWp_seqF fun cb hc1 => ?_
 refine vcK ?_
 try simp -implicitDefEqProofs (maxSteps := 1000000) (disch := omega) [go_sem, oka1]
 subst hc1
 refine IWp_seqF fun cb hc2 => ?_
 refine vcK ?_
 try simp -implicitDefEqProofs (maxSteps := 1000000) (disch := omega) [go_sem, oka1]
 obtain ⟨x3, hx3, h⟩ := bind_some' h
 refine ICalls.eqA (args' := [.ag ([.v (str a0.fName), .sl 1 (a0.fValues.map fun x => [.v (str x)])])]) (by first | with_reducible rfl | (simp -implicitDefEqProofs (maxSteps := 1000000) (disch := omega) [go_sem, oka1] <;> omega)) (F53_ok a0 hx3 ?_)
 try simp -implicitDefEqProofs (maxSteps := 1000000) (disch := omega) [go_sem, oka1]
 subst hc2
 refine vcK ?_
 simp -implicitDefEqProofs only [go_sem]
 have er := Option.some.inj h
 subst er
 try simp -implicitDefEqProofs (maxSteps := 1000000) (disch := omega) [go_sem, oka1]
 refine retG_pureA (Ext.refl hw) hK (e := by first | with_reducible rfl | (simp -implicitDefEqProofs (maxSteps := 1000000) (disch := omega) [go_sem, oka1] <;> omega))

/-! slices.IndexFunc[[]cardcase/api.Attr,cardcase/api.Attr] -/

noncomputable def F105_k4  : Option Int :=
 some (-1)

noncomputable def F105_b4 (a0 : List S50) (v5 : Int) : Option (Int ⊕ (Unit ⊕ Int)) :=
 if v5 < (a0.length : Int) then (gd (0 ≤ v5 ∧ v5 < a0.length) ((F89 (a0.getD v5.toNat S50.zero)).bind fun (x14 : Bool) => if x14 = true then (some (.inr (.inr v5))) else (some (.inl (IntKind.i64.wrap (v5 + 1)))))) else (some (.inr (.inl ())))

noncomputable def F105 (a0 : List S50) : Option Int :=
 (loopO (fun (s : Int) => F105_b4 a0 s) 0).bind fun y => Sum.elim (fun (e : Unit) => F105_k4) (fun (q : Int) => some q) y

set_option maxHeartbeats 8000000 in
set_option pp.deepTerms false in
set_option maxRecDepth 60000 in
theorem F105_ok {H : IHeap} {K : IEnd → IHeap → Prop} (a0 : List S50) (ka1_0 : Nat) (oka1_0 : H.obj ka1_0 = some (.cells ([.v (.func (.func 53) #[] #[])]))) {r : Int} (h : F105 a0 = some r) (hK : K (.ret (.v (.int .i64 r))) H) : ICalls prog 105 [.sl 2 (a0.map fun x => [.v (str x.fName), .sl 1 (x.fValues.map fun x => [.v (str x)])]), .fn (.func 89) [] [.p ka1_0 0]] H K := by
 refine ICalls_iwp (N := 19) func105 (by kernel_rfl) rfl (by kernel_rfl) (by kernel_rfl) fun cb hcb hw hbd hnb => ?_
 clear hbd hnb
 subst hcb
 unfold F105 at h
 have hka1_0 : ka1_0 < H.next := Nat.lt_of_not_le fun q => by rw [hw _ q] at oka1_0; cases oka1_0
 refine IWp_seqF fun cb hc1 => ?_
 refine vcK ?_
 try simp -implicitDefEqProofs (maxSteps := 1000000) (disch := omega) [go_sem, oka1_0]
 subst hc1
 refine IWp_seqF fun cb hc2 => ?_
 refine IWp_seqF fun cb hc3 => ?_
 refine vcK ?_
 try simp -implicitDefEqProofs (maxSteps := 1000000) (disch := omega) [go_sem, oka1_0]
 subst hc3
 obtain ⟨y4, hl4q, hk4⟩ := bind_some' h
 refine IWp_tailC (fun tm' H' => .inl () = y4 ∧ H = H') ?_ fun cb hc4 => ?_
 ·rintro tm4e H4e ⟨rfl, rfl⟩
  have h : F105_k4 = some r := hk4
  unfold F105_k4 at h
  simp -implicitDefEqProofs only [go_sem]
  subst hc2
  refine IWp_seqF fun cb hc6 => ?_
  refine vcK ?_
  try simp -implicitDefEqProofs (maxSteps := 1000000) (disch := omega) [go_sem, oka1_0]
  subst hc6
  refine vcK ?_
  simp -implicitDefEqProofs only [go_sem]
  have er := Option.some.inj h
  subst er
  try simp -implicitDefEqProofs (maxSteps := 1000000) (disch := omega) [go_sem, oka1_0]
  refine retG_pureA (Ext.refl hw) hK (e := by first | with_reducible rfl | (simp -implicitDefEqProofs (maxSteps := 1000000) (disch := omega) [go_sem, oka1_0] <;> omega))
 ·refine IWp_block ?_
  refine IWp_loopF (fun (s : Int) tm' H' => H = H' ∧ tm' 0 = .sl 2 (a0.map fun x => [.v (str x.fName), .sl 1 (x.fValues.map fun x => [.v (str x)])]) ∧ tm' 1 = .fn (.func 89) [] [.p ka1_0 0] ∧ tm' 7 = .v (.int .i64 (a0.length : Int)) ∧ tm' 8 = .v (.int .i64 s)) hl4q ?_ ?_
  ·refine .same ⟨rfl, ?_, ?_, ?_, ?_⟩ <;> first | with_reducible rfl | with_reducible assumption | (simp -implicitDefEqProofs (maxSteps := 1000000) (disch := omega) [go_sem, oka1_0] <;> omega)
  ·rintro I4 hI4 v5 x4 tm4 H4 ⟨rfl, t0_4, t1_4, t7_4, t8_4⟩ h hret4
   replace h : F105_b4 a0 v5 = some x4 := h
   unfold F105_b4 at h
   refine IWp_seqF fun cb hc7 => ?_
   refine vcK ?_
   try simp -implicitDefEqProofs (maxSteps := 1000000) (disch := omega) [go_sem, t0_4, t1_4, t7_4, t8_4, oka1_0]
   subst hc7
   refine IWp_seqF fun cb hc8 => ?_
   refine IWp_cond_i h (by first | with_reducible rfl | (simp -implicitDefEqProofs (maxSteps := 1000000) (disch := omega) [go_sem, t0_4, t1_4, t7_4, t8_4, oka1_0] <;> omega)) rfl ?_ ?_
   ·intro c9 h
    try simp -implicitDefEqProofs (disch := omega) at c9
    refine vcK ?_
    simp -implicitDefEqProofs only [go_sem]
    subst hc8
    refine IWp_seqF fun cb hc10 => ?_
    refine IWp_block ?_
    refine IWp_seqF fun cb hc11 => ?_
    refine vcK ?_
    try simp -implicitDefEqProofs (maxSteps := 1000000) (disch := omega) [go_sem, t0_4, t1_4, t7_4, t8_4, oka1_0]
    subst hc11
    refine IWp_seqF fun cb hc12 => ?_
    refine vcK ?_
    obtain ⟨g13, h⟩ := gd_some.1 h
    try simp -implicitDefEqProofs (disch := omega) at g13
    try simp -implicitDefEqProofs (maxSteps := 1000000) (disch := omega) [go_sem, t0_4, t1_4, t7_4, t8_4, oka1_0]
    obtain ⟨x14, hx14, h⟩ := bind_some' h
    refine ICalls.eqA (args' := [.ag ([.v (str ((a0.getD v5.toNat S50.zero).fName)), .sl 1 (((a0.getD v5.toNat S50.zero).fValues).map fun x => [.v (str x)])]), .p ka1_0 0]) (by first | with_reducible rfl | (simp -implicitDefEqProofs (maxSteps := 1000000) (disch := omega) [go_sem, t0_4, t1_4, t7_4, t8_4, oka1_0] <;> omega)) (F89_ok (a0.getD v5.toNat S50.zero) ka1_0 (by first | with_reducible assumption | simp -implicitDefEqProofs (maxSteps := 1000000) (disch := omega) [go_sem, t0_4, t1_4, t7_4, t8_4, oka1_0]) hx14 ?_)
    try simp -implicitDefEqProofs (maxSteps := 1000000) (disch := omega) [go_sem, t0_4, t1_4, t7_4, t8_4, oka1_0]
    subst hc12
    refine IWp_cond_i h (by first | with_reducible rfl | (simp -implicitDefEqProofs (maxSteps := 1000000) (disch := omega) [go_sem, t0_4, t1_4, t7_4, t8_4, oka1_0] <;> omega)) rfl ?_ ?_
    ·intro c15 h
     try simp -implicitDefEqProofs (disch := omega) at c15
     refine IWp_seqF fun cb hc16 => ?_
     refine vcK ?_
     try simp -implicitDefEqProofs (maxSteps := 1000000) (disch := omega) [go_sem, t0_4, t1_4, t7_4, t8_4, oka1_0]
     subst hc16
     refine vcK ?_
     simp -implicitDefEqProofs only [go_sem]
     have e4 := Option.some.inj h
     subst e4
     have e4 := hret4 _ rfl
     subst e4
     replace h : some v5 = some r := hk4
     have er := Option.some.inj h
     subst er
     try simp -implicitDefEqProofs (maxSteps := 1000000) (disch := omega) [go_sem, t0_4, t1_4, t7_4, t8_4, oka1_0]
     refine retG_pureA (Ext.refl hw) hK (e := by first | with_reducible rfl | (simp -implicitDefEqProofs (maxSteps := 1000000) (disch := omega) [go_sem, t0_4, t1_4, t7_4, t8_4, oka1_0] <;> omega))
    ·intro c15 h
     try simp -implicitDefEqProofs (disch := omega) at c15
     refine vcK ?_
     simp -implicitDefEqProofs only [go_sem]
     subst hc10
     refine vcK ?_
     try simp -implicitDefEqProofs (maxSteps := 1000000) (disch := omega) [go_sem, t0_4, t1_4, t7_4, t8_4, oka1_0]
     have e4 := Option.some.inj h
     subst e4
     refine loopN_mk hI4 (IntKind.i64.wrap (v5 + 1)) ?_
     refine .same ⟨rfl, ?_, ?_, ?_, ?_⟩ <;> first | with_reducible rfl | with_reducible assumption | (simp -implicitDefEqProofs (maxSteps := 1000000) (disch := omega) [go_sem, t0_4, t1_4, t7_4, t8_4, oka1_0] <;> omega)
   ·intro c9 h
    try simp -implicitDefEqProofs (disch := omega) at c9
    refine vcK ?_
    simp -implicitDefEqProofs only [go_sem]
    have e4 := Option.some.inj h
    subst e4
    have hy4 := hret4 _ rfl
    refine hc4 _ _ ?_
    refine .same ⟨hy4, rfl⟩

/-! slices.ContainsFunc[[]cardcase/api.Attr,cardcase/api.Attr] -/

noncomputable def F88 (a0 : List S50) : Option Bool :=
 (F105 a0).bind fun (x3 : Int) => some (decide (0 ≤ x3))

set_option maxHeartbeats 8000000 in
set_option pp.deepTerms false in
set_option maxRecDepth 60000 in
theorem F88_ok {H : IHeap} {K : IEnd → IHeap → Prop} (a0 : List S50) (ka1_0 : Nat) (oka1_0 : H.obj ka1_0 = some (.cells ([.v (.func (.func 53) #[] #[])]))) {r : Bool} (h : F88 a0 = some r) (hK : K (.ret (.v (.bool r))) H) : ICalls prog 88 [.sl 2 (a0.map fun x => [.v (str x.fName), .sl 1 (x.fValues.map fun x => [.v (str x)])]), .fn (.func 89) [] [.p ka1_0 0]] H K := by
 refine ICalls_iwp (N := 9) func88 (by kernel_rfl) rfl (by kernel_rfl) (by kernel_rfl) fun cb hcb hw hbd hnb => ?_
 clear hbd hnb
 subst hcb
 unfold F88 at h
 have hka1_0 : ka1_0 < H.next := Nat.lt_of_not_le fun q => by rw [hw _ q] at oka1_0; cases oka1_0
 refine IWp_seqF fun cb hc1 => ?_
 refine vcK ?_
 try simp -implicitDefEqProofs (maxSteps := 1000000) (disch := omega) [go_sem, oka1_0]
 subst hc1
 refine IWp_seqF fun cb hc2 => ?_
 refine vcK ?_
 try simp -implicitDefEqProofs (maxSteps := 1000000) (disch := omega) [go_sem, oka1_0]
 obtain ⟨x3, hx3, h⟩ := bind_some' h
 refine ICalls.eqA (args' := [.sl 2 (a0.map fun x => [.v (str x.fName), .sl 1 (x.fValues.map fun x => [.v (str x)])]), .fn (.func 89) [] [.p ka1_0 0]]) (by first | with_reducible rfl | (simp -implicitDefEqProofs (maxSteps := 1000000) (disch := omega) [go_sem, oka1_0] <;> omega)) (F105_ok a0 ka1_0 (by first | with_reducible assumption | simp -implicitDefEqProofs (maxSteps := 1000000) (disch := omega) [go_sem, oka1_0]) hx3 ?_)
 try simp -implicitDefEqProofs (maxSteps := 1000000) (disch := omega) [go_sem, oka1_0]
 subst hc2
 refine vcK ?_
 simp -implicitDefEqProofs only [go_sem]
 have er := Option.some.inj h
 subst er
 try simp -implicitDefEqProofs (maxSteps := 1000000) (disch := omega) [go_sem, oka1_0]
 refine retG_pureA (Ext.refl hw) hK (e := by first | with_reducible rfl | (simp -implicitDefEqProofs (maxSteps := 1000000) (disch := omega) [go_sem, oka1_0] <;> omega))

/-! cardcase/entry.all[cardcase/api.Attr] -/

noncomputable def F52 (a0 : List S50) : Option Bool :=
 (F88 a0).bind fun (x3 : Bool) => some (!x3)

set_option maxHeartbeats 8000000 in
set_option pp.deepTerms false in
set_option maxRecDepth 60000 in
theorem F52_ok {H : IHeap} {K : IEnd → IHeap → Prop} (a0 : List S50) {r : Bool} (h : F52 a0 = some r) (hK : K (.ret (.v (.bool r))) H) : ICalls prog 52 [.sl 2 (a0.map fun x => [.v (str x.fName), .sl 1 (x.fValues.map fun x => [.v (str x)])]), .v (.func (.func 53) #[] #[])] H K := by
 refine ICalls_iwp (N := 9) func52 (by kernel_rfl) rfl (by kernel_rfl) (by kernel_rfl) fun cb hcb hw hbd hnb => ?_
 clear hbd hnb
 subst hcb
 unfold F52 at h
 refine IWp_seqF fun cb hc1 => ?_
 refine vcK ?_
 try simp -implicitDefEqProofs (maxSteps := 1000000) (disch := omega) [go_sem]
 subst hc1
 refine IWp_seqF fun cb hc2 => ?_
 refine vcK ?_
 try simp -implicitDefEqProofs (maxSteps := 1000000) (disch := omega) [go_sem]
 obtain ⟨x3, hx3, h⟩ := bind_some' h
 refine ICalls.eqA (args' := [.sl 2 (a0.map fun x => [.v (str x.fName), .sl 1 (x.fValues.map fun x => [.v (str x)])]), .fn (.func 89) [] [.p H.next 0]]) (by first | with_reducible rfl | (simp -implicitDefEqProofs (maxSteps := 1000000) (disch := omega) [go_sem] <;> omega)) (F88_ok a0 H.next (by first | with_reducible assumption | simp -implicitDefEqProofs (maxSteps := 1000000) (disch := omega) [go_sem]) hx3 ?_)
 try simp -implicitDefEqProofs (maxSteps := 1000000) (disch := omega) [go_sem]
 subst hc2
 refine vcK ?_
 simp -implicitDefEqProofs only [go_sem]
 have er := Option.some.inj h
 subst er
 try simp -implicitDefEqProofs (maxSteps := 1000000) (disch := omega) [go_sem]
 refine retG_pureA (Ext.refl hw) hK (e := by first | with_reducible rfl | (simp -implicitDefEqProofs (maxSteps := 1000000) (disch := omega) [go_sem] <;> omega))

/-! cardcase/entry.entry -/

noncomputable def F42_k7 (v11 : List S50) : Option ((List S50) × Int) :=
 if 24 < (v11.length : Int) then (some ([], 3)) else (some (v11, 0))

noncomputable def F42_b7 (a0 : List (List UInt8 × (List (List UInt8)))) (x6 : (List (List UInt8))) (v8 : List S50) (v10 : Int) : Option (((List S50) × Int) ⊕ ((List S50) ⊕ ((List S50) × Int))) :=
 if v10 < (x6.length : Int) then (gd (0 ≤ v10 ∧ v10 < x6.length) ((F58v ((mget a0 (x6.getD v10.toNat [])).getD [])).bind fun (x28 : (List (List UInt8))) => if 16 < (x28.length : Int) then (some (.inr (.inr ([], 3)))) else (if 0 < (x28.length : Int) then (gd ((v8.length + ([(⟨x6.getD v10.toNat [], x28⟩ : S50)]).length) * 40 ≤ 140737488355328) (some (.inl ((v8 ++ ([(⟨x6.getD v10.toNat [], x28⟩ : S50)]), IntKind.i64.wrap (v10 + 1)))))) else (some (.inl ((v8, IntKind.i64.wrap (v10 + 1)))))))) else (some (.inr (.inl v8)))

noncomputable def F42 (a0 : List (List UInt8 × (List (List UInt8)))) : Option ((List S50) × Int) :=
 (F58k a0).bind fun (x6 : (List (List UInt8))) => (loopO (fun (s : (List S50) × Int) => F42_b7 a0 x6 s.1 s.2) ([], 0)).bind fun y => Sum.elim (fun (e : (List S50)) => F42_k7 e) (fun (q : (List S50) × Int) => some q) y

set_option maxHeartbeats 8000000 in
set_option pp.deepTerms false in
set_option maxRecDepth 60000 in
theorem F42_ok {H : IHeap} {K : IEnd → IHeap → Prop} (a0 : List (List UInt8 × (List (List UInt8)))) (ka0 : Nat) (oka0 : H.obj ka0 = some (.map (mE (fun (x : List (List UInt8)) => .sl 1 (x.map fun x => [.v (str x)])) a0))) {r : (List S50) × Int} (h : F42 a0 = some r) (hK : K (.ret (.tu [.sl 2 (r.1.map fun x => [.v (str x.fName), .sl 1 (x.fValues.map fun x => [.v (str x)])]), .v (.int .i64 r.2)])) H) : ICalls prog 42 [.mp ka0] H K := by
 refine ICalls_iwp (N := 37) func42 (by kernel_rfl) rfl (by kernel_rfl) (by kernel_rfl) fun cb hcb hw hbd hnb => ?_
 clear hbd hnb
 subst hcb
 unfold F42 at h
 have hka0 : ka0 < H.next := Nat.lt_of_not_le fun q => by rw [hw _ q] at oka0; cases oka0
 refine IWp_seqF fun cb hc1 => ?_
 refine vcK ?_
 try simp -implicitDefEqProofs (maxSteps := 1000000) (disch := omega) [go_sem, bdP, oka0]
 subst hc1
 refine IWp_scopeF 0 rfl fun cb hc2 => ?_
 refine IWp_seqF fun cb hc3 => ?_
 refine IWp_seqF fun cb hc4 => ?_
 refine vcK ?_
 try simp -implicitDefEqProofs (maxSteps := 1000000) (disch := omega) [go_sem, bdP, oka0]
 refine ICalls.eqA (args' := [.mp ka0]) (by first | with_reducible rfl | (simp -implicitDefEqProofs (maxSteps := 1000000) (disch := omega) [go_sem, bdP, oka0] <;> omega)) (keys59_ok a0 ka0 (by first | with_reducible assumption | simp -implicitDefEqProofs (maxSteps := 1000000) (disch := omega) [go_sem, bdP, oka0]) ?_)
 try simp -implicitDefEqProofs (maxSteps := 1000000) (disch := omega) [go_sem, bdP, oka0]
 obtain ⟨x6, hx6, h⟩ := bind_some' h
 refine ICalls.eqA (args' := [.fn (.func 93) [] [.p H.next 0]]) (by first | with_reducible rfl | (simp -implicitDefEqProofs (maxSteps := 1000000) (disch := omega) [go_sem, bdP, oka0] <;> omega)) (F58k_ok a0 H.next ka0 (by first | with_reducible assumption | simp -implicitDefEqProofs (maxSteps := 1000000) (disch := omega) [go_sem, bdP, oka0]) (by first | with_reducible assumption | simp -implicitDefEqProofs (maxSteps := 1000000) (disch := omega) [go_sem, bdP, oka0]) hx6 ?_)
 try simp -implicitDefEqProofs (maxSteps := 1000000) (disch := omega) [go_sem, bdP, oka0]
 subst hc4
 obtain ⟨y7, hl7q, hk7⟩ := bind_some' h
 refine IWp_tailC (fun tm' H' => ∃ n12 : Nat, ∃ v11 : List S50, .inl v11 = y7 ∧ Ext H H' ∧ H.next + 1 ≤ H'.next ∧ H.next ≤ n12 ∧ n12 < H'.next ∧ ¬ ka0 = n12 ∧ ¬ H.next = n12 ∧ tm' 2 = .os n12 v11.length ∧ H'.obj ka0 = some (.map (mE (fun (x : List (List UInt8)) => .sl 1 (x.map fun x => [.v (str x)])) a0)) ∧ H'.obj H.next = some (.cells [.mp ka0]) ∧ H'.obj n12 = some (.row 2 (v11.map fun x => [.v (str x.fName), .sl 1 (x.fValues.map fun x => [.v (str x)])]))) ?_ fun cb hc7 => ?_
 ·rintro tm7e H7e ⟨n12, v11, rfl, he7e, hl7e, hr0_7e, hs0_7e, hq37, hq38, t2_7e, ob0_7e, ob1_7e, or0_7e⟩
  have h : F42_k7 v11 = some r := hk7
  unfold F42_k7 at h
  simp -implicitDefEqProofs only [go_sem]
  subst hc3
  refine IWp_seqF fun cb hc13 => ?_
  refine IWp_seqF fun cb hc14 => ?_
  refine vcK ?_
  try simp -implicitDefEqProofs (maxSteps := 1000000) (disch := omega) [go_sem, bdP, t2_7e, ob0_7e, ob1_7e, or0_7e]
  subst hc14
  refine IWp_cond_i h (by first | with_reducible rfl | (simp -implicitDefEqProofs (maxSteps := 1000000) (disch := omega) [go_sem, bdP, t2_7e, ob0_7e, ob1_7e, or0_7e] <;> omega)) rfl ?_ ?_
  ·intro c15 h
   try simp -implicitDefEqProofs (disch := omega) at c15
   refine vcK ?_
   simp -implicitDefEqProofs only [go_sem]
   subst hc2
   refine IWp_seqF fun cb hc16 => ?_
   refine vcK ?_
   simp -implicitDefEqProofs only [go_sem]
   subst hc16
   refine IWp_seqF fun cb hc17 => ?_
   refine vcK ?_
   try simp -implicitDefEqProofs (maxSteps := 1000000) (disch := omega) [go_sem, bdP, t2_7e, ob0_7e, ob1_7e, or0_7e]
   subst hc17
   refine IWp.gh (Gh.slotN 2 2 (by simp -implicitDefEqProofs (maxSteps := 1000000) (disch := omega) [go_sem, bdP, t2_7e, ob0_7e, ob1_7e, or0_7e])) ?_
   refine vcK ?_
   simp -implicitDefEqProofs only [go_sem]
   have er := Option.some.inj h
   subst er
   try simp -implicitDefEqProofs (maxSteps := 1000000) (disch := omega) [go_sem, bdP, t2_7e, ob0_7e, ob1_7e, or0_7e]
   refine retG_pureA he7e hK (e := by first | with_reducible rfl | (simp -implicitDefEqProofs (maxSteps := 1000000) (disch := omega) [go_sem, bdP, t2_7e, ob0_7e, ob1_7e, or0_7e] <;> omega))
  ·intro c15 h
   try simp -implicitDefEqProofs (disch := omega) at c15
   refine vcK ?_
   simp -implicitDefEqProofs only [go_sem]
   subst hc13
   refine IWp_seqF fun cb hc18 => ?_
   refine IWp_seqF fun cb hc19 => ?_
   refine vcK ?_
   try simp -implicitDefEqProofs (maxSteps := 1000000) (disch := omega) [go_sem, bdP, t2_7e, ob0_7e, ob1_7e, or0_7e]
   subst hc19
   refine IWp.gh (Gh.freeze (d := 2) (k := n12) (sz := 2) (es := v11.map fun x => [.v (str x.fName), .sl 1 (x.fValues.map fun x => [.v (str x)])]) (by simp -implicitDefEqProofs (maxSteps := 1000000) (disch := omega) [go_sem, bdP, t2_7e, ob0_7e, ob1_7e, or0_7e]) (by simp -implicitDefEqProofs (maxSteps := 1000000) (disch := omega) [go_sem, bdP, t2_7e, ob0_7e, ob1_7e, or0_7e])) ?_
   refine vcK ?_
   simp -implicitDefEqProofs only [go_sem]
   have er := Option.some.inj h
   subst er
   try simp -implicitDefEqProofs (maxSteps := 1000000) (disch := omega) [go_sem, bdP, t2_7e, ob0_7e, ob1_7e, or0_7e]
   refine retG_pureA he7e hK (e := by first | with_reducible rfl | (simp -implicitDefEqProofs (maxSteps := 1000000) (disch := omega) [go_sem, bdP, t2_7e, ob0_7e, ob1_7e, or0_7e] <;> omega))
 ·refine IWp_block ?_
  refine IWp_loopF (fun (s : (List S50) × Int) tm' H' => ∃ n9 : Nat, Ext H H' ∧ H.next + 1 ≤ H'.next ∧ H.next ≤ n9 ∧ n9 < H'.next ∧ ¬ ka0 = n9 ∧ ¬ H.next = n9 ∧ tm' 0 = .mp ka0 ∧ tm' 2 = .os n9 s.1.length ∧ tm' 9 = .sl 1 (x6.map fun x => [.v (str x)]) ∧ tm' 10 = .v (.int .i64 (x6.length : Int)) ∧ tm' 11 = .v (.int .i64 s.2) ∧ H'.obj ka0 = some (.map (mE (fun (x : List (List UInt8)) => .sl 1 (x.map fun x => [.v (str x)])) a0)) ∧ H'.obj H.next = some (.cells [.mp ka0]) ∧ H'.obj n9 = some (.row 2 (s.1.map fun x => [.v (str x.fName), .sl 1 (x.fValues.map fun x => [.v (str x)])]))) hl7q ?_ ?_
  ·refine UpI.gh (Gh.nilrow (d := 2) (sz := 2) (by omega) (by (simp -implicitDefEqProofs (maxSteps := 1000000) (disch := omega) [go_sem, bdP, oka0] <;> omega))) ?_
   refine .same ⟨H.next + 1, by repeat (first | exact (Ext.refl hw) | refine Ext.new ?_ _ | refine Ext.set ?_ (by first | omega | (simp [go_sem]; done) | (simp [go_sem]; omega)) _ | refine Ext.del ?_ (by first | omega | (simp [go_sem]; done) | (simp [go_sem]; omega))), by first | with_reducible rfl | with_reducible assumption | omega | (simp -implicitDefEqProofs (maxSteps := 1000000) (disch := omega) [go_sem, bdP, oka0] <;> omega), by first | with_reducible rfl | with_reducible assumption | omega | (simp -implicitDefEqProofs (maxSteps := 1000000) (disch := omega) [go_sem, bdP, oka0] <;> omega), by first | with_reducible rfl | with_reducible assumption | omega | (simp -implicitDefEqProofs (maxSteps := 1000000) (disch := omega) [go_sem, bdP, oka0] <;> omega), by first | with_reducible rfl | with_reducible assumption | omega | (simp -implicitDefEqProofs (maxSteps := 1000000) (disch := omega) [go_sem, bdP, oka0] <;> omega), by first | with_reducible rfl | with_reducible assumption | omega | (simp -implicitDefEqProofs (maxSteps := 1000000) (disch := omega) [go_sem, bdP, oka0] <;> omega), by first | with_reducible rfl | with_reducible assumption | (simp -implicitDefEqProofs (maxSteps := 1000000) (disch := omega) [go_sem, bdP, oka0] <;> omega), by first | with_reducible rfl | with_reducible assumption | (simp -implicitDefEqProofs (maxSteps := 1000000) (disch := omega) [go_sem, bdP, oka0] <;> omega), by first | with_reducible rfl | with_reducible assumption | (simp -implicitDefEqProofs (maxSteps := 1000000) (disch := omega) [go_sem, bdP, oka0] <;> omega), by first | with_reducible rfl | with_reducible assumption | (simp -implicitDefEqProofs (maxSteps := 1000000) (disch := omega) [go_sem, bdP, oka0] <;> omega), by first | with_reducible rfl | with_reducible assumption | (simp -implicitDefEqProofs (maxSteps := 1000000) (disch := omega) [go_sem, bdP, oka0] <;> omega), by first | with_reducible rfl | with_reducible assumption | (simp -implicitDefEqProofs (maxSteps := 1000000) (disch := omega) [go_sem, bdP, oka0] <;> omega), by first | with_reducible rfl | with_reducible assumption | (simp -implicitDefEqProofs (maxSteps := 1000000) (disch := omega) [go_sem, bdP, oka0] <;> omega), by first | with_reducible rfl | with_reducible assumption | (simp -implicitDefEqProofs (maxSteps := 1000000) (disch := omega) [go_sem, bdP, oka0] <;> omega)⟩
  ·rintro I7 hI7 ⟨v8, v10⟩ x7 tm7 H7 ⟨n9, he7, hl7, hr0_7, hs0_7, hq39, hq40, t0_7, t2_7, t9_7, t10_7, t11_7, ob0_7, ob1_7, or0_7⟩ h hret7
   replace h : F42_b7 a0 x6 v8 v10 = some x7 := h
   unfold F42_b7 at h
   refine IWp_seqF fun cb hc20 => ?_
   refine vcK ?_
   try simp -implicitDefEqProofs (maxSteps := 1000000) (disch := omega) [go_sem, bdP, t0_7, t2_7, t9_7, t10_7, t11_7, ob0_7, ob1_7, or0_7]
   subst hc20
   refine IWp_seqF fun cb hc21 => ?_
   refine IWp_cond_i h (by first | with_reducible rfl | (simp -implicitDefEqProofs (maxSteps := 1000000) (disch := omega) [go_sem, bdP, t0_7, t2_7, t9_7, t10_7, t11_7, ob0_7, ob1_7, or0_7] <;> omega)) rfl ?_ ?_
   ·intro c22 h
    try simp -implicitDefEqProofs (disch := omega) at c22
    refine vcK ?_
    simp -implicitDefEqProofs only [go_sem]
    subst hc21
    refine IWp_seqF fun cb hc23 => ?_
    refine IWp_block ?_
    refine IWp_seqF fun cb hc24 => ?_
    refine vcK ?_
    obtain ⟨g25, h⟩ := gd_some.1 h
    try simp -implicitDefEqProofs (disch := omega) at g25
    try simp -implicitDefEqProofs (maxSteps := 1000000) (disch := omega) [go_sem, bdP, t0_7, t2_7, t9_7, t10_7, t11_7, ob0_7, ob1_7, or0_7]
    subst hc24
    refine IWp_seqF fun cb hc26 => ?_
    refine vcK ?_
    have hmL69 := @lkI_mE _ (fun (x : List (List UInt8)) => .sl 1 (x.map fun x => [.v (str x)]))
    try dsimp only at hmL69
    have hmF69 := fun o => okI_f (fun (x : List (List UInt8)) => .sl 1 (x.map fun x => [.v (str x)])) ([] : List (List UInt8)) (z := .sl 1 []) (o := o) (by first | rfl | simp [go_sem])
    try dsimp only at hmF69
    try simp -implicitDefEqProofs (maxSteps := 1000000) (disch := omega) [go_sem, bdP, t0_7, t2_7, t9_7, t10_7, t11_7, ob0_7, ob1_7, or0_7, hmL69, hmF69]
    refine ICalls.eqA (args' := [.sl 1 (((mget a0 (x6.getD v10.toNat [])).getD []).map fun x => [.v (str x)])]) (by first | with_reducible rfl | (simp -implicitDefEqProofs (maxSteps := 1000000) (disch := omega) [go_sem, bdP, t0_7, t2_7, t9_7, t10_7, t11_7, ob0_7, ob1_7, or0_7, hmL69, hmF69] <;> omega)) (vals81_ok ((mget a0 (x6.getD v10.toNat [])).getD []) ?_)
    try simp -implicitDefEqProofs (maxSteps := 1000000) (disch := omega) [go_sem, bdP, t0_7, t2_7, t9_7, t10_7, t11_7, ob0_7, ob1_7, or0_7, hmL69, hmF69]
    obtain ⟨x28, hx28, h⟩ := bind_some' h
    refine ICalls.eqA (args' := [.fn (.func 101) [] [.cp [.sl 1 (((mget a0 (x6.getD v10.toNat [])).getD []).map fun x => [.v (str x)])]]]) (by first | with_reducible rfl | (simp -implicitDefEqProofs (maxSteps := 1000000) (disch := omega) [go_sem, bdP, t0_7, t2_7, t9_7, t10_7, t11_7, ob0_7, ob1_7, or0_7, hmL69, hmF69] <;> omega)) (F58v_ok ((mget a0 (x6.getD v10.toNat [])).getD []) hx28 ?_)
    try simp -implicitDefEqProofs (maxSteps := 1000000) (disch := omega) [go_sem, bdP, t0_7, t2_7, t9_7, t10_7, t11_7, ob0_7, ob1_7, or0_7, hmL69, hmF69]
    subst hc26
    refine IWp_seqF fun cb hc29 => ?_
    refine IWp_seqF fun cb hc30 => ?_
    refine vcK ?_
    try simp -implicitDefEqProofs (maxSteps := 1000000) (disch := omega) [go_sem, bdP, t0_7, t2_7, t9_7, t10_7, t11_7, ob0_7, ob1_7, or0_7, hmL69, hmF69]
    subst hc30
    refine IWp_cond_i h (by first | with_reducible rfl | (simp -implicitDefEqProofs (maxSteps := 1000000) (disch := omega) [go_sem, bdP, t0_7, t2_7, t9_7, t10_7, t11_7, ob0_7, ob1_7, or0_7, hmL69, hmF69] <;> omega)) rfl ?_ ?_
    ·intro c31 h
     try simp -implicitDefEqProofs (disch := omega) at c31
     refine vcK ?_
     simp -implicitDefEqProofs only [go_sem]
     subst hc2
     refine IWp_seqF fun cb hc32 => ?_
     refine vcK ?_
     simp -implicitDefEqProofs only [go_sem]
     subst hc32
     refine IWp_seqF fun cb hc33 => ?_
     refine vcK ?_
     try simp -implicitDefEqProofs (maxSteps := 1000000) (disch := omega) [go_sem, bdP, t0_7, t2_7, t9_7, t10_7, t11_7, ob0_7, ob1_7, or0_7, hmL69, hmF69]
     subst hc33
     refine IWp.gh (Gh.slotN 2 2 (by simp -implicitDefEqProofs (maxSteps := 1000000) (disch := omega) [go_sem, bdP, t0_7, t2_7, t9_7, t10_7, t11_7, ob0_7, ob1_7, or0_7, hmL69, hmF69])) ?_
     refine vcK ?_
     simp -implicitDefEqProofs only [go_sem]
     have e7 := Option.some.inj h
     subst e7
     have e7 := hret7 _ rfl
     subst e7
     replace h : some ([], 3) = some r := hk7
     have er := Option.some.inj h
     subst er
     try simp -implicitDefEqProofs (maxSteps := 1000000) (disch := omega) [go_sem, bdP, t0_7, t2_7, t9_7, t10_7, t11_7, ob0_7, ob1_7, or0_7, hmL69, hmF69]
     refine retG_pureA he7 hK (e := by first | with_reducible rfl | (simp -implicitDefEqProofs (maxSteps := 1000000) (disch := omega) [go_sem, bdP, t0_7, t2_7, t9_7, t10_7, t11_7, ob0_7, ob1_7, or0_7, hmL69, hmF69] <;> omega))
    ·intro c31 h
     try simp -implicitDefEqProofs (disch := omega) at c31
     refine vcK ?_
     simp -implicitDefEqProofs only [go_sem]
     subst hc29
     refine IWp_seqF fun cb hc34 => ?_
     refine vcK ?_
     try simp -implicitDefEqProofs (maxSteps := 1000000) (disch := omega) [go_sem, bdP, t0_7, t2_7, t9_7, t10_7, t11_7, ob0_7, ob1_7, or0_7, hmL69, hmF69]
     subst hc34
     refine IWp_cond_i h (by first | with_reducible rfl | (simp -implicitDefEqProofs (maxSteps := 1000000) (disch := omega) [go_sem, bdP, t0_7, t2_7, t9_7, t10_7, t11_7, ob0_7, ob1_7, or0_7, hmL69, hmF69] <;> omega)) rfl ?_ ?_
     ·intro c35 h
      try simp -implicitDefEqProofs (disch := omega) at c35
      refine vcK ?_
      obtain ⟨g36, h⟩ := gd_some.1 h
      try simp -implicitDefEqProofs (disch := omega) at g36
      try simp -implicitDefEqProofs (maxSteps := 1000000) (disch := omega) [go_sem, bdP, t0_7, t2_7, t9_7, t10_7, t11_7, ob0_7, ob1_7, or0_7, hmL69, hmF69]
      subst hc23
      refine vcK ?_
      try simp -implicitDefEqProofs (maxSteps := 1000000) (disch := omega) [go_sem, bdP, t0_7, t2_7, t9_7, t10_7, t11_7, ob0_7, ob1_7, or0_7, hmL69, hmF69]
      have e7 := Option.some.inj h
      subst e7
      refine loopN_mk hI7 ((v8 ++ ([(⟨x6.getD v10.toNat [], x28⟩ : S50)]), IntKind.i64.wrap (v10 + 1))) ?_
      refine .same ⟨n9, by repeat (first | exact he7 | refine Ext.new ?_ _ | refine Ext.set ?_ (by first | omega | (simp [go_sem]; done) | (simp [go_sem]; omega)) _ | refine Ext.del ?_ (by first | omega | (simp [go_sem]; done) | (simp [go_sem]; omega))), by first | with_reducible rfl | with_reducible assumption | omega | (simp -implicitDefEqProofs (maxSteps := 1000000) (disch := omega) [go_sem, bdP, t0_7, t2_7, t9_7, t10_7, t11_7, ob0_7, ob1_7, or0_7, hmL69, hmF69] <;> omega), by first | with_reducible rfl | with_reducible assumption | omega | (simp -implicitDefEqProofs (maxSteps := 1000000) (disch := omega) [go_sem, bdP, t0_7, t2_7, t9_7, t10_7, t11_7, ob0_7, ob1_7, or0_7, hmL69, hmF69] <;> omega), by first | with_reducible rfl | with_reducible assumption | omega | (simp -implicitDefEqProofs (maxSteps := 1000000) (disch := omega) [go_sem, bdP, t0_7, t2_7, t9_7, t10_7, t11_7, ob0_7, ob1_7, or0_7, hmL69, hmF69] <;> omega), by first | with_reducible rfl | with_reducible assumption | omega | (simp -implicitDefEqProofs (maxSteps := 1000000) (disch := omega) [go_sem, bdP, t0_7, t2_7, t9_7, t10_7, t11_7, ob0_7, ob1_7, or0_7, hmL69, hmF69] <;> omega), by first | with_reducible rfl | with_reducible assumption | omega | (simp -implicitDefEqProofs (maxSteps := 1000000) (disch := omega) [go_sem, bdP, t0_7, t2_7, t9_7, t10_7, t11_7, ob0_7, ob1_7, or0_7, hmL69, hmF69] <;> omega), by first | with_reducible rfl | with_reducible assumption | (simp -implicitDefEqProofs (maxSteps := 1000000) (disch := omega) [go_sem, bdP, t0_7, t2_7, t9_7, t10_7, t11_7, ob0_7, ob1_7, or0_7, hmL69, hmF69] <;> omega), by first | with_reducible rfl | with_reducible assumption | (simp -implicitDefEqProofs (maxSteps := 1000000) (disch := omega) [go_sem, bdP, t0_7, t2_7, t9_7, t10_7, t11_7, ob0_7, ob1_7, or0_7, hmL69, hmF69] <;> omega), by first | with_reducible rfl | with_reducible assumption | (simp -implicitDefEqProofs (maxSteps := 1000000) (disch := omega) [go_sem, bdP, t0_7, t2_7, t9_7, t10_7, t11_7, ob0_7, ob1_7, or0_7, hmL69, hmF69] <;> omega), by first | with_reducible rfl | with_reducible assumption | (simp -implicitDefEqProofs (maxSteps := 1000000) (disch := omega) [go_sem, bdP, t0_7, t2_7, t9_7, t10_7, t11_7, ob0_7, ob1_7, or0_7, hmL69, hmF69] <;> omega), by first | with_reducible rfl | with_reducible assumption | (simp -implicitDefEqProofs (maxSteps := 1000000) (disch := omega) [go_sem, bdP, t0_7, t2_7, t9_7, t10_7, t11_7, ob0_7, ob1_7, or0_7, hmL69, hmF69] <;> omega), by first | with_reducible rfl | with_reducible assumption | (simp -implicitDefEqProofs (maxSteps := 1000000) (disch := omega) [go_sem, bdP, t0_7, t2_7, t9_7, t10_7, t11_7, ob0_7, ob1_7, or0_7, hmL69, hmF69] <;> omega), by first | with_reducible rfl | with_reducible assumption | (simp -implicitDefEqProofs (maxSteps := 1000000) (disch := omega) [go_sem, bdP, t0_7, t2_7, t9_7, t10_7, t11_7, ob0_7, ob1_7, or0_7, hmL69, hmF69] <;> omega), by first | with_reducible rfl | with_reducible assumption | (simp -implicitDefEqProofs (maxSteps := 1000000) (disch := omega) [go_sem, bdP, t0_7, t2_7, t9_7, t10_7, t11_7, ob0_7, ob1_7, or0_7, hmL69, hmF69] <;> omega)⟩
     ·intro c35 h
      try simp -implicitDefEqProofs (disch := omega) at c35
      refine vcK ?_
      simp -implicitDefEqProofs only [go_sem]
      subst hc23
      refine vcK ?_
      try simp -implicitDefEqProofs (maxSteps := 1000000) (disch := omega) [go_sem, bdP, t0_7, t2_7, t9_7, t10_7, t11_7, ob0_7, ob1_7, or0_7, hmL69, hmF69]
      have e7 := Option.some.inj h
      subst e7
      refine loopN_mk hI7 ((v8, IntKind.i64.wrap (v10 + 1))) ?_
      refine .same ⟨n9, by repeat (first | exact he7 | refine Ext.new ?_ _ | refine Ext.set ?_ (by first | omega | (simp [go_sem]; done) | (simp [go_sem]; omega)) _ | refine Ext.del ?_ (by first | omega | (simp [go_sem]; done) | (simp [go_sem]; omega))), by first | with_reducible rfl | with_reducible assumption | omega | (simp -implicitDefEqProofs (maxSteps := 1000000) (disch := omega) [go_sem, bdP, t0_7, t2_7, t9_7, t10_7, t11_7, ob0_7, ob1_7, or0_7, hmL69, hmF69] <;> omega), by first | with_reducible rfl | with_reducible assumption | omega | (simp -implicitDefEqProofs (maxSteps := 1000000) (disch := omega) [go_sem, bdP, t0_7, t2_7, t9_7, t10_7, t11_7, ob0_7, ob1_7, or0_7, hmL69, hmF69] <;> omega), by first | with_reducible rfl | with_reducible assumption | omega | (simp -implicitDefEqProofs (maxSteps := 1000000) (disch := omega) [go_sem, bdP, t0_7, t2_7, t9_7, t10_7, t11_7, ob0_7, ob1_7, or0_7, hmL69, hmF69] <;> omega), by first | with_reducible rfl | with_reducible assumption | omega | (simp -implicitDefEqProofs (maxSteps := 1000000) (disch := omega) [go_sem, bdP, t0_7, t2_7, t9_7, t10_7, t11_7, ob0_7, ob1_7, or0_7, hmL69, hmF69] <;> omega), by first | with_reducible rfl | with_reducible assumption | omega | (simp -implicitDefEqProofs (maxSteps := 1000000) (disch := omega) [go_sem, bdP, t0_7, t2_7, t9_7, t10_7, t11_7, ob0_7, ob1_7, or0_7, hmL69, hmF69] <;> omega), by first | with_reducible rfl | with_reducible assumption | (simp -implicitDefEqProofs (maxSteps := 1000000) (disch := omega) [go_sem, bdP, t0_7, t2_7, t9_7, t10_7, t11_7, ob0_7, ob1_7, or0_7, hmL69, hmF69] <;> omega), by first | with_reducible rfl | with_reducible assumption | (simp -implicitDefEqProofs (maxSteps := 1000000) (disch := omega) [go_sem, bdP, t0_7, t2_7, t9_7, t10_7, t11_7, ob0_7, ob1_7, or0_7, hmL69, hmF69] <;> omega), by first | with_reducible rfl | with_reducible assumption | (simp -implicitDefEqProofs (maxSteps := 1000000) (disch := omega) [go_sem, bdP, t0_7, t2_7, t9_7, t10_7, t11_7, ob0_7, ob1_7, or0_7, hmL69, hmF69] <;> omega), by first | with_reducible rfl | with_reducible assumption | (simp -implicitDefEqProofs (maxSteps := 1000000) (disch := omega) [go_sem, bdP, t0_7, t2_7, t9_7, t10_7, t11_7, ob0_7, ob1_7, or0_7, hmL69, hmF69] <;> omega), by first | with_reducible rfl | with_reducible assumption | (simp -implicitDefEqProofs (maxSteps := 1000000) (disch := omega) [go_sem, bdP, t0_7, t2_7, t9_7, t10_7, t11_7, ob0_7, ob1_7, or0_7, hmL69, hmF69] <;> omega), by first | with_reducible rfl | with_reducible assumption | (simp -implicitDefEqProofs (maxSteps := 1000000) (disch := omega) [go_sem, bdP, t0_7, t2_7, t9_7, t10_7, t11_7, ob0_7, ob1_7, or0_7, hmL69, hmF69] <;> omega), by first | with_reducible rfl | with_reducible assumption | (simp -implicitDefEqProofs (maxSteps := 1000000) (disch := omega) [go_sem, bdP, t0_7, t2_7, t9_7, t10_7, t11_7, ob0_7, ob1_7, or0_7, hmL69, hmF69] <;> omega), by first | with_reducible rfl | with_reducible assumption | (simp -implicitDefEqProofs (maxSteps := 1000000) (disch := omega) [go_sem, bdP, t0_7, t2_7, t9_7, t10_7, t11_7, ob0_7, ob1_7, or0_7, hmL69, hmF69] <;> omega)⟩
   ·intro c22 h
    try simp -implicitDefEqProofs (disch := omega) at c22
    refine vcK ?_
    simp -implicitDefEqProofs only [go_sem]
    have e7 := Option.some.inj h
    subst e7
    have hy7 := hret7 _ rfl
    refine hc7 _ _ ?_
    refine .same ⟨n9, v8, hy7, by repeat (first | exact he7 | refine Ext.new ?_ _ | refine Ext.set ?_ (by first | omega | (simp [go_sem]; done) | (simp [go_sem]; omega)) _ | refine Ext.del ?_ (by first | omega | (simp [go_sem]; done) | (simp [go_sem]; omega))), by first | with_reducible rfl | with_reducible assumption | omega | (simp -implicitDefEqProofs (maxSteps := 1000000) (disch := omega) [go_sem, bdP, t0_7, t2_7, t9_7, t10_7, t11_7, ob0_7, ob1_7, or0_7] <;> omega), by first | with_reducible rfl | with_reducible assumption | omega | (simp -implicitDefEqProofs (maxSteps := 1000000) (disch := omega) [go_sem, bdP, t0_7, t2_7, t9_7, t10_7, t11_7, ob0_7, ob1_7, or0_7] <;> omega), by first | with_reducible rfl | with_reducible assumption | omega | (simp -implicitDefEqProofs (maxSteps := 1000000) (disch := omega) [go_sem, bdP, t0_7, t2_7, t9_7, t10_7, t11_7, ob0_7, ob1_7, or0_7] <;> omega), by first | with_reducible rfl | with_reducible assumption | omega | (simp -implicitDefEqProofs (maxSteps := 1000000) (disch := omega) [go_sem, bdP, t0_7, t2_7, t9_7, t10_7, t11_7, ob0_7, ob1_7, or0_7] <;> omega), by first | with_reducible rfl | with_reducible assumption | omega | (simp -implicitDefEqProofs (maxSteps := 1000000) (disch := omega) [go_sem, bdP, t0_7, t2_7, t9_7, t10_7, t11_7, ob0_7, ob1_7, or0_7] <;> omega), by first | with_reducible rfl | with_reducible assumption | (simp -implicitDefEqProofs (maxSteps := 1000000) (disch := omega) [go_sem, bdP, t0_7, t2_7, t9_7, t10_7, t11_7, ob0_7, ob1_7, or0_7] <;> omega), by first | with_reducible rfl | with_reducible assumption | (simp -implicitDefEqProofs (maxSteps := 1000000) (disch := omega) [go_sem, bdP, t0_7, t2_7, t9_7, t10_7, t11_7, ob0_7, ob1_7, or0_7] <;> omega), by first | with_reducible rfl | with_reducible assumption | (simp -implicitDefEqProofs (maxSteps := 1000000) (disch := omega) [go_sem, bdP, t0_7, t2_7, t9_7, t10_7, t11_7, ob0_7, ob1_7, or0_7] <;> omega), by first | with_reducible rfl | with_reducible assumption | (simp -implicitDefEqProofs (maxSteps := 1000000) (disch := omega) [go_sem, bdP, t0_7, t2_7, t9_7, t10_7, t11_7, ob0_7, ob1_7, or0_7] <;> omega)⟩

/-! cardcase/entry.Order -/

noncomputable def F19 (a0 : List S50) : Option ((List S50) × Int) :=
 (F52 a0).bind fun (x4 : Bool) => if ¬ (x4 = true) then (some ([], 2)) else ((F40 a0).bind fun (x8 : (List (List UInt8 × (List (List UInt8))))) => (F42 x8).bind fun (x9 : (List S50) × Int) => some (x9.1, x9.2))

set_option maxHeartbeats 8000000 in
set_option pp.deepTerms false in
set_option maxRecDepth 60000 in
theorem F19_ok {H : IHeap} {K : IEnd → IHeap → Prop} (a0 : List S50) {r : (List S50) × Int} (h : F19 a0 = some r) (hK : K (.ret (.tu [.sl 2 (r.1.map fun x => [.v (str x.fName), .sl 1 (x.fValues.map fun x => [.v (str x)])]), .v (.int .i64 r.2)])) H) : ICalls prog 19 [.sl 2 (a0.map fun x => [.v (str x.fName), .sl 1 (x.fValues.map fun x => [.v (str x)])])] H K := by
 refine ICalls_iwp (N := 12) func19 (by kernel_rfl) rfl (by kernel_rfl) (by kernel_rfl) fun cb hcb hw hbd hnb => ?_
 clear hbd hnb
 subst hcb
 unfold F19 at h
 refine IWp_seqF fun cb hc1 => ?_
 refine vcK ?_
 try simp -implicitDefEqProofs (maxSteps := 1000000) (disch := omega) [go_sem]
 subst hc1
 refine IWp_seqF fun cb hc2 => ?_
 refine IWp_seqF fun cb hc3 => ?_
 refine vcK ?_
 try simp -implicitDefEqProofs (maxSteps := 1000000) (disch := omega) [go_sem]
 obtain ⟨x4, hx4, h⟩ := bind_some' h
 refine ICalls.eqA (args' := [.sl 2 (a0.map fun x => [.v (str x.fName), .sl 1 (x.fValues.map fun x => [.v (str x)])]), .v (.func (.func 53) #[] #[])]) (by first | with_reducible rfl | (simp -implicitDefEqProofs (maxSteps := 1000000) (disch := omega) [go_sem] <;> omega)) (F52_ok a0 hx4 ?_)
 try simp -implicitDefEqProofs (maxSteps := 1000000) (disch := omega) [go_sem]
 subst hc3
 refine IWp_cond_i h (by first | with_reducible rfl | (simp -implicitDefEqProofs (maxSteps := 1000000) (disch := omega) [go_sem] <;> omega)) rfl ?_ ?_
 ·intro c5 h
  try simp -implicitDefEqProofs (disch := omega) at c5
  refine IWp_seqF fun cb hc6 => ?_
  refine vcK ?_
  try simp -implicitDefEqProofs (maxSteps := 1000000) (disch := omega) [go_sem]
  subst hc6
  refine IWp.gh (Gh.slotN 2 2 (by simp -implicitDefEqProofs (maxSteps := 1000000) (disch := omega) [go_sem])) ?_
  refine vcK ?_
  simp -implicitDefEqProofs only [go_sem]
  have er := Option.some.inj h
  subst er
  try simp -implicitDefEqProofs (maxSteps := 1000000) (disch := omega) [go_sem]
  refine retG_pureA (Ext.refl hw) hK (e := by first | with_reducible rfl | (simp -implicitDefEqProofs (maxSteps := 1000000) (disch := omega) [go_sem] <;> omega))
 ·intro c5 h
  try simp -implicitDefEqProofs (disch := omega) at c5
  refine vcK ?_
  simp -implicitDefEqProofs only [go_sem]
  subst hc2
  refine IWp_seqF fun cb hc7 => ?_
  refine vcK ?_
  try simp -implicitDefEqProofs (maxSteps := 1000000) (disch := omega) [go_sem]
  obtain ⟨x8, hx8, h⟩ := bind_some' h
  refine ICalls.eqA (args' := [.sl 2 (a0.map fun x => [.v (str x.fName), .sl 1 (x.fValues.map fun x => [.v (str x)])])]) (by first | with_reducible rfl | (simp -implicitDefEqProofs (maxSteps := 1000000) (disch := omega) [go_sem] <;> omega)) (F40_ok a0 hx8 ?_)
  try simp -implicitDefEqProofs (maxSteps := 1000000) (disch := omega) [go_sem]
  obtain ⟨x9, hx9, h⟩ := bind_some' h
  refine ICalls.eqA (args' := [.mp H.next]) (by first | with_reducible rfl | (simp -implicitDefEqProofs (maxSteps := 1000000) (disch := omega) [go_sem] <;> omega)) (F42_ok x8 H.next (by first | with_reducible assumption | simp -implicitDefEqProofs (maxSteps := 1000000) (disch := omega) [go_sem]) hx9 ?_)
  try simp -implicitDefEqProofs (maxSteps := 1000000) (disch := omega) [go_sem]
  subst hc7
  refine vcK ?_
  simp -implicitDefEqProofs only [go_sem]
  have er := Option.some.inj h
  subst er
  try simp -implicitDefEqProofs (maxSteps := 1000000) (disch := omega) [go_sem]
  refine retG_pureA (Ext.refl hw) hK (e := by first | with_reducible rfl | (simp -implicitDefEqProofs (maxSteps := 1000000) (disch := omega) [go_sem] <;> omega))

/-! cardcase/entry.may -/

noncomputable def F36 (a0 : S48) : Option Bool :=
 if 1 ≤ a0.fKind then (if a0.fKind ≤ 3 then ((F45 a0.fName).bind fun (x3 : Bool) => if x3 = true then (if (a0.fValues.length : Int) ≤ 16 then ((F46 a0.fValues).bind fun (x4 : Bool) => if x4 = true then (if ¬ a0.fKind = 1 then (some true) else (some (decide (0 < (a0.fValues.length : Int))))) else (some false)) else (some false)) else (some false)) else (some false)) else (some false)

set_option maxHeartbeats 8000000 in
set_option pp.deepTerms false in
set_option maxRecDepth 60000 in
theorem F36_ok {H : IHeap} {K : IEnd → IHeap → Prop} (a0 : S48) {r : Bool} (h : F36 a0 = some r) (hK : K (.ret (.v (.bool r))) H) : ICalls prog 36 [.ag ([.v (.int .i64 a0.fKind), .v (str a0.fName), .sl 1 (a0.fValues.map fun x => [.v (str x)])])] H K := by
 refine ICalls_iwp (N := 38) func36 (by kernel_rfl) rfl (by kernel_rfl) (by kernel_rfl) fun cb hcb hw hbd hnb => ?_
 clear hbd hnb
 subst hcb
 unfold F36 at h
 refine IWp_seqF fun cb hc1 => ?_
 refine vcK ?_
 try simp -implicitDefEqProofs (maxSteps := 1000000) (disch := omega) [go_sem]
 subst hc1
 refine IWp_seqF fun cb hc2 => ?_
 refine vcK ?_
 try simp -implicitDefEqProofs (maxSteps := 1000000) (disch := omega) [go_sem]
 refine splitG_f h (by first | with_reducible rfl | (simp -implicitDefEqProofs (maxSteps := 1000000) (disch := omega) [go_sem] <;> omega)) ?_ ?_
 ·intro c10 h
  try simp -implicitDefEqProofs (disch := omega) at c10
  try simp -implicitDefEqProofs (maxSteps := 1000000) (disch := omega) [go_sem]
  refine splitG_f h (by first | with_reducible rfl | (simp -implicitDefEqProofs (maxSteps := 1000000) (disch := omega) [go_sem] <;> omega)) ?_ ?_
  ·intro c9 h
   try simp -implicitDefEqProofs (disch := omega) at c9
   try simp -implicitDefEqProofs (maxSteps := 1000000) (disch := omega) [go_sem]
   obtain ⟨x3, hx3, h⟩ := bind_some' h
   refine ICalls.eqA (args' := [.v (str a0.fName)]) (by first | with_reducible rfl | (simp -implicitDefEqProofs (maxSteps := 1000000) (disch := omega) [go_sem] <;> omega)) (F45_ok a0.fName hx3 ?_)
   try simp -implicitDefEqProofs (maxSteps := 1000000) (disch := omega) [go_sem]
   refine splitG_f h (by first | with_reducible rfl | (simp -implicitDefEqProofs (maxSteps := 1000000) (disch := omega) [go_sem] <;> omega)) ?_ ?_
   ·intro c8 h
    try simp -implicitDefEqProofs (disch := omega) at c8
    try simp -implicitDefEqProofs (maxSteps := 1000000) (disch := omega) [go_sem]
    refine splitG_f h (by first | with_reducible rfl | (simp -implicitDefEqProofs (maxSteps := 1000000) (disch := omega) [go_sem] <;> omega)) ?_ ?_
    ·intro c7 h
     try simp -implicitDefEqProofs (disch := omega) at c7
     try simp -implicitDefEqProofs (maxSteps := 1000000) (disch := omega) [go_sem]
     obtain ⟨x4, hx4, h⟩ := bind_some' h
     refine ICalls.eqA (args' := [.sl 1 (a0.fValues.map fun x => [.v (str x)]), .v (.func (.func 47) #[] #[])]) (by first | with_reducible rfl | (simp -implicitDefEqProofs (maxSteps := 1000000) (disch := omega) [go_sem] <;> omega)) (F46_ok a0.fValues hx4 ?_)
     try simp -implicitDefEqProofs (maxSteps := 1000000) (disch := omega) [go_sem]
     refine splitG_f h (by first | with_reducible rfl | (simp -implicitDefEqProofs (maxSteps := 1000000) (disch := omega) [go_sem] <;> omega)) ?_ ?_
     ·intro c6 h
      try simp -implicitDefEqProofs (disch := omega) at c6
      try simp -implicitDefEqProofs (maxSteps := 1000000) (disch := omega) [go_sem]
      refine splitG_f h (by first | with_reducible rfl | (simp -implicitDefEqProofs (maxSteps := 1000000) (disch := omega) [go_sem] <;> omega)) ?_ ?_
      ·intro c5 h
       try simp -implicitDefEqProofs (disch := omega) at c5
       try simp -implicitDefEqProofs (maxSteps := 1000000) (disch := omega) [go_sem]
       subst hc2
       refine vcK ?_
       simp -implicitDefEqProofs only [go_sem]
       have er := Option.some.inj h
       subst er
       try simp -implicitDefEqProofs (maxSteps := 1000000) (disch := omega) [go_sem]
       refine retG_pureA (Ext.refl hw) hK (e := by first | with_reducible rfl | (simp -implicitDefEqProofs (maxSteps := 1000000) (disch := omega) [go_sem] <;> omega))
      ·intro c5 h
       try simp -implicitDefEqProofs (disch := omega) at c5
       try simp -implicitDefEqProofs (maxSteps := 1000000) (disch := omega) [go_sem]
       subst hc2
       refine vcK ?_
       simp -implicitDefEqProofs only [go_sem]
       have er := Option.some.inj h
       subst er
       try simp -implicitDefEqProofs (maxSteps := 1000000) (disch := omega) [go_sem]
       refine retG_pureA (Ext.refl hw) hK (e := by first | with_reducible rfl | (simp -implicitDefEqProofs (maxSteps := 1000000) (disch := omega) [go_sem] <;> omega))
     ·intro c6 h
      try simp -implicitDefEqProofs (disch := omega) at c6
      try simp -implicitDefEqProofs (maxSteps := 1000000) (disch := omega) [go_sem]
      subst hc2
      refine vcK ?_
      simp -implicitDefEqProofs only [go_sem]
      have er := Option.some.inj h
      subst er
      try simp -implicitDefEqProofs (maxSteps := 1000000) (disch := omega) [go_sem]
      refine retG_pureA (Ext.refl hw) hK (e := by first | with_reducible rfl | (simp -implicitDefEqProofs (maxSteps := 1000000) (disch := omega) [go_sem] <;> omega))
    ·intro c7 h
     try simp -implicitDefEqProofs (disch := omega) at c7
     try simp -implicitDefEqProofs (maxSteps := 1000000) (disch := omega) [go_sem]
     subst hc2
     refine vcK ?_
     simp -implicitDefEqProofs only [go_sem]
     have er := Option.some.inj h
     subst er
     try simp -implicitDefEqProofs (maxSteps := 1000000) (disch := omega) [go_sem]
     refine retG_pureA (Ext.refl hw) hK (e := by first | with_reducible rfl | (simp -implicitDefEqProofs (maxSteps := 1000000) (disch := omega) [go_sem] <;> omega))
   ·intro c8 h
    try simp -implicitDefEqProofs (disch := omega) at c8
    try simp -implicitDefEqProofs (maxSteps := 1000000) (disch := omega) [go_sem]
    subst hc2
    refine vcK ?_
    simp -implicitDefEqProofs only [go_sem]
    have er := Option.some.inj h
    subst er
    try simp -implicitDefEqProofs (maxSteps := 1000000) (disch := omega) [go_sem]
    refine retG_pureA (Ext.refl hw) hK (e := by first | with_reducible rfl | (simp -implicitDefEqProofs (maxSteps := 1000000) (disch := omega) [go_sem] <;> omega))
  ·intro c9 h
   try simp -implicitDefEqProofs (disch := omega) at c9
   try simp -implicitDefEqProofs (maxSteps := 1000000) (disch := omega) [go_sem]
   subst hc2
   refine vcK ?_
   simp -implicitDefEqProofs only [go_sem]
   have er := Option.some.inj h
   subst er
   try simp -implicitDefEqProofs (maxSteps := 1000000) (disch := omega) [go_sem]
   refine retG_pureA (Ext.refl hw) hK (e := by first | with_reducible rfl | (simp -implicitDefEqProofs (maxSteps := 1000000) (disch := omega) [go_sem] <;> omega))
 ·intro c10 h
  try simp -implicitDefEqProofs (disch := omega) at c10
  try simp -implicitDefEqProofs (maxSteps := 1000000) (disch := omega) [go_sem]
  subst hc2
  refine vcK ?_
  simp -implicitDefEqProofs only [go_sem]
  have er := Option.some.inj h
  subst er
  try simp -implicitDefEqProofs (maxSteps := 1000000) (disch := omega) [go_sem]
  refine retG_pureA (Ext.refl hw) hK (e := by first | with_reducible rfl | (simp -implicitDefEqProofs (maxSteps := 1000000) (disch := omega) [go_sem] <;> omega))

/-! cardcase/entry.all[cardcase/api.Mod]$1 -/

noncomputable def F75 (a0 : S48) : Option Bool :=
 (F36 a0).bind fun (x3 : Bool) => some (!x3)

set_option maxHeartbeats 8000000 in
set_option pp.deepTerms false in
set_option maxRecDepth 60000 in
theorem F75_ok {H : IHeap} {K : IEnd → IHeap → Prop} (a0 : S48) (ka1 : Nat) (oka1 : H.obj ka1 = some (.cells ([.v (.func (.func 36) #[] #[])]))) {r : Bool} (h : F75 a0 = some r) (hK : K (.ret (.v (.bool r))) H) : ICalls prog 75 [.ag ([.v (.int .i64 a0.fKind), .v (str a0.fName), .sl 1 (a0.fValues.map fun x => [.v (str x)])]), .p ka1 0] H K := by
 refine ICalls_iwp (N := 8) func75 (by kernel_rfl) rfl (by kernel_rfl) (by kernel_rfl) fun cb hcb hw hbd hnb => ?_
 clear hbd hnb
 subst hcb
 unfold F75 at h
 have hka1 : ka1 < H.next := Nat.lt_of_not_le fun q => by rw [hw _ q] at oka1; cases oka1
 refine IWp_seqF fun cb hc1 => ?_
 refine vcK ?_
 try simp -implicitDefEqProofs (maxSteps := 1000000) (disch := omega) [go_sem, oka1]
 subst hc1
 refine IWp_seqF fun cb hc2 => ?_
 refine vcK ?_
 try simp -implicitDefEqProofs (maxSteps := 1000000) (disch := omega) [go_sem, oka1]
 obtain ⟨x3, hx3, h⟩ := bind_some' h
 refine ICalls.eqA (args' := [.ag ([.v (.int .i64 a0.fKind), .v (str a0.fName), .sl 1 (a0.fValues.map fun x => [.v (str x)])])]) (by first | with_reducible rfl | (simp -implicitDefEqProofs (maxSteps := 1000000) (disch := omega) [go_sem, oka1] <;> omega)) (F36_ok a0 hx3 ?_)
 try simp -implicitDefEqProofs (maxSteps := 1000000) (disch := omega) [go_sem, oka1]
 subst hc2
 refine vcK ?_
 simp -implicitDefEqProofs only [go_sem]
 have er := Option.some.inj h
 subst er
 try simp -implicitDefEqProofs (maxSteps := 1000000) (disch := omega) [go_sem, oka1]
 refine retG_pureA (Ext.refl hw) hK (e := by first | with_reducible rfl | (simp -implicitDefEqProofs (maxSteps := 1000000) (disch := omega) [go_sem, oka1] <;> omega))

/-! slices.IndexFunc[[]cardcase/api.Mod,cardcase/api.Mod] -/

noncomputable def F98_k4  : Option Int :=
 some (-1)

noncomputable def F98_b4 (a0 : List S48) (v5 : Int) : Option (Int ⊕ (Unit ⊕ Int)) :=
 if v5 < (a0.length : Int) then (gd (0 ≤ v5 ∧ v5 < a0.length) ((F75 (a0.getD v5.toNat S48.zero)).bind fun (x14 : Bool) => if x14 = true then (some (.inr (.inr v5))) else (some (.inl (IntKind.i64.wrap (v5 + 1)))))) else (some (.inr (.inl ())))

noncomputable def F98 (a0 : List S48) : Option Int :=
 (loopO (fun (s : Int) => F98_b4 a0 s) 0).bind fun y => Sum.elim (fun (e : Unit) => F98_k4) (fun (q : Int) => some q) y

set_option maxHeartbeats 8000000 in
set_option pp.deepTerms false in
set_option maxRecDepth 60000 in
theorem F98_ok {H : IHeap} {K : IEnd → IHeap → Prop} (a0 : List S48) (ka1_0 : Nat) (oka1_0 : H.obj ka1_0 = some (.cells ([.v (.func (.func 36) #[] #[])]))) {r : Int} (h : F98 a0 = some r) (hK : K (.ret (.v (.int .i64 r))) H) : ICalls prog 98 [.sl 3 (a0.map fun x => [.v (.int .i64 x.fKind), .v (str x.fName), .sl 1 (x.fValues.map fun x => [.v (str x)])]), .fn (.func 75) [] [.p ka1_0 0]] H K := by
 refine ICalls_iwp (N := 19) func98 (by kernel_rfl) rfl (by kernel_rfl) (by kernel_rfl) fun cb hcb hw hbd hnb => ?_
 clear hbd hnb
 subst hcb
 unfold F98 at h
 have hka1_0 : ka1_0 < H.next := Nat.lt_of_not_le fun q => by rw [hw _ q] at oka1_0; cases oka1_0
 refine IWp_seqF fun cb hc1 => ?_
 refine vcK ?_
 try simp -implicitDefEqProofs (maxSteps := 1000000) (disch := omega) [go_sem, oka1_0]
 subst hc1
 refine IWp_seqF fun cb hc2 => ?_
 refine IWp_seqF fun cb hc3 => ?_
 refine vcK ?_
 try simp -implicitDefEqProofs (maxSteps := 1000000) (disch := omega) [go_sem, oka1_0]
 subst hc3
 obtain ⟨y4, hl4q, hk4⟩ := bind_some' h
 refine IWp_tailC (fun tm' H' => .inl () = y4 ∧ H = H') ?_ fun cb hc4 => ?_
 ·rintro tm4e H4e ⟨rfl, rfl⟩
  have h : F98_k4 = some r := hk4
  unfold F98_k4 at h
  simp -implicitDefEqProofs only [go_sem]
  subst hc2
  refine IWp_seqF fun cb hc6 => ?_
  refine vcK ?_
  try simp -implicitDefEqProofs (maxSteps := 1000000) (disch := omega) [go_sem, oka1_0]
  subst hc6
  refine vcK ?_
  simp -implicitDefEqProofs only [go_sem]
  have er := Option.some.inj h
  subst er
  try simp -implicitDefEqProofs (maxSteps := 1000000) (disch := omega) [go_sem, oka1_0]
  refine retG_pureA (Ext.refl hw) hK (e := by first | with_reducible rfl | (simp -implicitDefEqProofs (maxSteps := 1000000) (disch := omega) [go_sem, oka1_0] <;> omega))
 ·refine IWp_block ?_
  refine IWp_loopF (fun (s : Int) tm' H' => H = H' ∧ tm' 0 = .sl 3 (a0.map fun x => [.v (.int .i64 x.fKind), .v (str x.fName), .sl 1 (x.fValues.map fun x => [.v (str x)])]) ∧ tm' 1 = .fn (.func 75) [] [.p ka1_0 0] ∧ tm' 7 = .v (.int .i64 (a0.length : Int)) ∧ tm' 8 = .v (.int .i64 s)) hl4q ?_ ?_
  ·refine .same ⟨rfl, ?_, ?_, ?_, ?_⟩ <;> first | with_reducible rfl | with_reducible assumption | (simp -implicitDefEqProofs (maxSteps := 1000000) (disch := omega) [go_sem, oka1_0] <;> omega)
  ·rintro I4 hI4 v5 x4 tm4 H4 ⟨rfl, t0_4, t1_4, t7_4, t8_4⟩ h hret4
   replace h : F98_b4 a0 v5 = some x4 := h
   unfold F98_b4 at h
   refine IWp_seqF fun cb hc7 => ?_
   refine vcK ?_
   try simp -implicitDefEqProofs (maxSteps := 1000000) (disch := omega) [go_sem, t0_4, t1_4, t7_4, t8_4, oka1_0]
   subst hc7
   refine IWp_seqF fun cb hc8 => ?_
   refine IWp_cond_i h (by first | with_reducible rfl | (simp -implicitDefEqProofs (maxSteps := 1000000) (disch := omega) [go_sem, t0_4, t1_4, t7_4, t8_4, oka1_0] <;> omega)) rfl ?_ ?_
   ·intro c9 h
    try simp -implicitDefEqProofs (disch := omega) at c9
    refine vcK ?_
    simp -implicitDefEqProofs only [go_sem]
    subst hc8
    refine IWp_seqF fun cb hc10 => ?_
    refine IWp_block ?_
    refine IWp_seqF fun cb hc11 => ?_
    refine vcK ?_
    try simp -implicitDefEqProofs (maxSteps := 1000000) (disch := omega) [go_sem, t0_4, t1_4, t7_4, t8_4, oka1_0]
    subst hc11
    refine IWp_seqF fun cb hc12 => ?_
    refine vcK ?_
    obtain ⟨g13, h⟩ := gd_some.1 h
    try simp -implicitDefEqProofs (disch := omega) at g13
    try simp -implicitDefEqProofs (maxSteps := 1000000) (disch := omega) [go_sem, t0_4, t1_4, t7_4, t8_4, oka1_0]
    obtain ⟨x14, hx14, h⟩ := bind_some' h
    refine ICalls.eqA (args' := [.ag ([.v (.int .i64 ((a0.getD v5.toNat S48.zero).fKind)), .v (str ((a0.getD v5.toNat S48.zero).fName)), .sl 1 (((a0.getD v5.toNat S48.zero).fValues).map fun x => [.v (str x)])]), .p ka1_0 0]) (by first | with_reducible rfl | (simp -implicitDefEqProofs (maxSteps := 1000000) (disch := omega) [go_sem, t0_4, t1_4, t7_4, t8_4, oka1_0] <;> omega)) (F75_ok (a0.getD v5.toNat S48.zero) ka1_0 (by first | with_reducible assumption | simp -implicitDefEqProofs (maxSteps := 1000000) (disch := omega) [go_sem, t0_4, t1_4, t7_4, t8_4, oka1_0]) hx14 ?_)
    try simp -implicitDefEqProofs (maxSteps := 1000000) (disch := omega) [go_sem, t0_4, t1_4, t7_4, t8_4, oka1_0]
    subst hc12
    refine IWp_cond_i h (by first | with_reducible rfl | (simp -implicitDefEqProofs (maxSteps := 1000000) (disch := omega) [go_sem, t0_4, t1_4, t7_4, t8_4, oka1_0] <;> omega)) rfl ?_ ?_
    ·intro c15 h
     try simp -implicitDefEqProofs (disch := omega) at c15
     refine IWp_seqF fun cb hc16 => ?_
     refine vcK ?_
     try simp -implicitDefEqProofs (maxSteps := 1000000) (disch := omega) [go_sem, t0_4, t1_4, t7_4, t8_4, oka1_0]
     subst hc16
     refine vcK ?_
     simp -implicitDefEqProofs only [go_sem]
     have e4 := Option.some.inj h
     subst e4
     have e4 := hret4 _ rfl
     subst e4
     replace h : some v5 = some r := hk4
     have er := Option.some.inj h
     subst er
     try simp -implicitDefEqProofs (maxSteps := 1000000) (disch := omega) [go_sem, t0_4, t1_4, t7_4, t8_4, oka1_0]
     refine retG_pureA (Ext.refl hw) hK (e := by first | with_reducible rfl | (simp -implicitDefEqProofs (maxSteps := 1000000) (disch := omega) [go_sem, t0_4, t1_4, t7_4, t8_4, oka1_0] <;> omega))
    ·intro c15 h
     try simp -implicitDefEqProofs (disch := omega) at c15
     refine vcK ?_
     simp -implicitDefEqProofs only [go_sem]
     subst hc10
     refine vcK ?_
     try simp -implicitDefEqProofs (maxSteps := 1000000) (disch := omega) [go_sem, t0_4, t1_4, t7_4, t8_4, oka1_0]
     have e4 := Option.some.inj h
     subst e4
     refine loopN_mk hI4 (IntKind.i64.wrap (v5 + 1)) ?_
     refine .same ⟨rfl, ?_, ?_, ?_, ?_⟩ <;> first | with_reducible rfl | with_reducible assumption | (simp -implicitDefEqProofs (maxSteps := 1000000) (disch := omega) [go_sem, t0_4, t1_4, t7_4, t8_4, oka1_0] <;> omega)
   ·intro c9 h
    try simp -implicitDefEqProofs (disch := omega) at c9
    refine vcK ?_
    simp -implicitDefEqProofs only [go_sem]
    have e4 := Option.some.inj h
    subst e4
    have hy4 := hret4 _ rfl
    refine hc4 _ _ ?_
    refine .same ⟨hy4, rfl⟩

/-! slices.ContainsFunc[[]cardcase/api.Mod,cardcase/api.Mod] -/

noncomputable def F74 (a0 : List S48) : Option Bool :=
 (F98 a0).bind fun (x3 : Int) => some (decide (0 ≤ x3))

set_option maxHeartbeats 8000000 in
set_option pp.deepTerms false in
set_option maxRecDepth 60000 in
theorem F74_ok {H : IHeap} {K : IEnd → IHeap → Prop} (a0 : List S48) (ka1_0 : Nat) (oka1_0 : H.obj ka1_0 = some (.cells ([.v (.func (.func 36) #[] #[])]))) {r : Bool} (h : F74 a0 = some r) (hK : K (.ret (.v (.bool r))) H) : ICalls prog 74 [.sl 3 (a0.map fun x => [.v (.int .i64 x.fKind), .v (str x.fName), .sl 1 (x.fValues.map fun x => [.v (str x)])]), .fn (.func 75) [] [.p ka1_0 0]] H K := by
 refine ICalls_iwp (N := 9) func74 (by kernel_rfl) rfl (by kernel_rfl) (by kernel_rfl) fun cb hcb hw hbd hnb => ?_
 clear hbd hnb
 subst hcb
 unfold F74 at h
 have hka1_0 : ka1_0 < H.next := Nat.lt_of_not_le fun q => by rw [hw _ q] at oka1_0; cases oka1_0
 refine IWp_seqF fun cb hc1 => ?_
 refine vcK ?_
 try simp -implicitDefEqProofs (maxSteps := 1000000) (disch := omega) [go_sem, oka1_0]
 subst hc1
 refine IWp_seqF fun cb hc2 => ?_
 refine vcK ?_
 try simp -implicitDefEqProofs (maxSteps := 1000000) (disch := omega) [go_sem, oka1_0]
 obtain ⟨x3, hx3, h⟩ := bind_some' h
 refine ICalls.eqA (args' := [.sl 3 (a0.map fun x => [.v (.int .i64 x.fKind), .v (str x.fName), .sl 1 (x.fValues.map fun x => [.v (str x)])]), .fn (.func 75) [] [.p ka1_0 0]]) (by first | with_reducible rfl | (simp -implicitDefEqProofs (maxSteps := 1000000) (disch := omega) [go_sem, oka1_0] <;> omega)) (F98_ok a0 ka1_0 (by first | with_reducible assumption | simp -implicitDefEqProofs (maxSteps := 1000000) (disch := omega) [go_sem, oka1_0]) hx3 ?_)
 try simp -implicitDefEqProofs (maxSteps := 1000000) (disch := omega) [go_sem, oka1_0]
 subst hc2
 refine vcK ?_
 simp -implicitDefEqProofs only [go_sem]
 have er := Option.some.inj h
 subst er
 try simp -implicitDefEqProofs (maxSteps := 1000000) (disch := omega) [go_sem, oka1_0]
 refine retG_pureA (Ext.refl hw) hK (e := by first | with_reducible rfl | (simp -implicitDefEqProofs (maxSteps := 1000000) (disch := omega) [go_sem, oka1_0] <;> omega))

/-! cardcase/entry.all[cardcase/api.Mod] -/

noncomputable def F35 (a0 : List S48) : Option Bool :=
 (F74 a0).bind fun (x3 : Bool) => some (!x3)

set_option maxHeartbeats 8000000 in
set_option pp.deepTerms false in
set_option maxRecDepth 60000 in
theorem F35_ok {H : IHeap} {K : IEnd → IHeap → Prop} (a0 : List S48) {r : Bool} (h : F35 a0 = some r) (hK : K (.ret (.v (.bool r))) H) : ICalls prog 35 [.sl 3 (a0.map fun x => [.v (.int .i64 x.fKind), .v (str x.fName), .sl 1 (x.fValues.map fun x => [.v (str x)])]), .v (.func (.func 36) #[] #[])] H K := by
 refine ICalls_iwp (N := 9) func35 (by kernel_rfl) rfl (by kernel_rfl) (by kernel_rfl) fun cb hcb hw hbd hnb => ?_
 clear hbd hnb
 subst hcb
 unfold F35 at h
 refine IWp_seqF fun cb hc1 => ?_
 refine vcK ?_
 try simp -implicitDefEqProofs (maxSteps := 1000000) (disch := omega) [go_sem]
 subst hc1
 refine IWp_seqF fun cb hc2 => ?_
 refine vcK ?_
 try simp -implicitDefEqProofs (maxSteps := 1000000) (disch := omega) [go_sem]
 obtain ⟨x3, hx3, h⟩ := bind_some' h
 refine ICalls.eqA (args' := [.sl 3 (a0.map fun x => [.v (.int .i64 x.fKind), .v (str x.fName), .sl 1 (x.fValues.map fun x => [.v (str x)])]), .fn (.func 75) [] [.p H.next 0]]) (by first | with_reducible rfl | (simp -implicitDefEqProofs (maxSteps := 1000000) (disch := omega) [go_sem] <;> omega)) (F74_ok a0 H.next (by first | with_reducible assumption | simp -implicitDefEqProofs (maxSteps := 1000000) (disch := omega) [go_sem]) hx3 ?_)
 try simp -implicitDefEqProofs (maxSteps := 1000000) (disch := omega) [go_sem]
 subst hc2
 refine vcK ?_
 simp -implicitDefEqProofs only [go_sem]
 have er := Option.some.inj h
 subst er
 try simp -implicitDefEqProofs (maxSteps := 1000000) (disch := omega) [go_sem]
 refine retG_pureA (Ext.refl hw) hK (e := by first | with_reducible rfl | (simp -implicitDefEqProofs (maxSteps := 1000000) (disch := omega) [go_sem] <;> omega))

/-! cardcase/entry.twice -/

noncomputable def F76 (a0 : List (List UInt8)) : Option Bool :=
 (F58v a0).bind fun (x4 : (List (List UInt8))) => some (decide ((x4.length : Int) < (a0.length : Int)))

set_option maxHeartbeats 8000000 in
set_option pp.deepTerms false in
set_option maxRecDepth 60000 in
theorem F76_ok {H : IHeap} {K : IEnd → IHeap → Prop} (a0 : List (List UInt8)) {r : Bool} (h : F76 a0 = some r) (hK : K (.ret (.v (.bool r))) H) : ICalls prog 76 [.sl 1 (a0.map fun x => [.v (str x)])] H K := by
 refine ICalls_iwp (N := 10) func76 (by kernel_rfl) rfl (by kernel_rfl) (by kernel_rfl) fun cb hcb hw hbd hnb => ?_
 clear hbd hnb
 subst hcb
 unfold F76 at h
 refine IWp_seqF fun cb hc1 => ?_
 refine vcK ?_
 try simp -implicitDefEqProofs (maxSteps := 1000000) (disch := omega) [go_sem]
 subst hc1
 refine IWp_seqF fun cb hc2 => ?_
 refine vcK ?_
 try simp -implicitDefEqProofs (maxSteps := 1000000) (disch := omega) [go_sem]
 refine ICalls.eqA (args' := [.sl 1 (a0.map fun x => [.v (str x)])]) (by first | with_reducible rfl | (simp -implicitDefEqProofs (maxSteps := 1000000) (disch := omega) [go_sem] <;> omega)) (vals81_ok a0 ?_)
 try simp -implicitDefEqProofs (maxSteps := 1000000) (disch := omega) [go_sem]
 obtain ⟨x4, hx4, h⟩ := bind_some' h
 refine ICalls.eqA (args' := [.fn (.func 101) [] [.cp [.sl 1 (a0.map fun x => [.v (str x)])]]]) (by first | with_reducible rfl | (simp -implicitDefEqProofs (maxSteps := 1000000) (disch := omega) [go_sem] <;> omega)) (F58v_ok a0 hx4 ?_)
 try simp -implicitDefEqProofs (maxSteps := 1000000) (disch := omega) [go_sem]
 subst hc2
 refine vcK ?_
 simp -implicitDefEqProofs only [go_sem]
 have er := Option.some.inj h
 subst er
 try simp -implicitDefEqProofs (maxSteps := 1000000) (disch := omega) [go_sem]
 refine retG_pureA (Ext.refl hw) hK (e := by first | with_reducible rfl | (simp -implicitDefEqProofs (maxSteps := 1000000) (disch := omega) [go_sem] <;> omega))

end Go.Idl

namespace Go.Idl

open Go Go.Proofs.Tryz

/-! cardcase/entry.add -/

noncomputable def F37 (a0 : List (List UInt8 × (List (List UInt8)))) (a1 : List UInt8) (a2 : List (List UInt8)) : Option (Int × (List (List UInt8 × (List (List UInt8))))) :=
 (F56 ((mget a0 a1).getD [])).bind fun (x4 : (List (List UInt8))) => gd ((x4.length + a2.length) * 16 ≤ 140737488355328) ((F76 (x4 ++ a2)).bind fun (x7 : Bool) => if x7 = true then (some (170, a0)) else ((F56 ((mget a0 a1).getD [])).bind fun (x11 : (List (List UInt8))) => gd ((x11.length + a2.length) * 16 ≤ 140737488355328) (some ((0, mset a0 a1 (x11 ++ a2))))))

set_option maxHeartbeats 8000000 in
set_option pp.deepTerms false in
set_option maxRecDepth 60000 in
theorem F37_ok {H : IHeap} {K : IEnd → IHeap → Prop} (a0 : List (List UInt8 × (List (List UInt8)))) (a1 : List UInt8) (a2 : List (List UInt8)) (ka0 : Nat) (oka0 : H.obj ka0 = some (.map (mE (fun (x : List (List UInt8)) => .sl 1 (x.map fun x => [.v (str x)])) a0))) {r : Int × (List (List UInt8 × (List (List UInt8))))} (h : F37 a0 a1 a2 = some r) (hK : K (.ret (.v (.int .i64 r.1))) (setL H [(ka0, .map (mE (fun (x : List (List UInt8)) => .sl 1 (x.map fun x => [.v (str x)])) r.2))])) : ICalls prog 37 [.mp ka0, .v (str a1), .sl 1 (a2.map fun x => [.v (str x)])] H K := by
 refine ICalls_iwp (N := 22) func37 (by kernel_rfl) rfl (by kernel_rfl) (by kernel_rfl) fun cb hcb hw hbd hnb => ?_
 clear hbd hnb
 subst hcb
 unfold F37 at h
 have hka0 : ka0 < H.next := Nat.lt_of_not_le fun q => by rw [hw _ q] at oka0; cases oka0
 refine IWp_seqF fun cb hc1 => ?_
 refine vcK ?_
 try simp -implicitDefEqProofs (maxSteps := 1000000) (disch := omega) [go_sem, oka0]
 subst hc1
 refine IWp_seqF fun cb hc2 => ?_
 refine IWp_seqF fun cb hc3 => ?_
 refine vcK ?_
 have hmL69 := @lkI_mE _ (fun (x : List (List UInt8)) => .sl 1 (x.map fun x => [.v (str x)]))
 try dsimp only at hmL69
 have hmF69 := fun o => okI_f (fun (x : List (List UInt8)) => .sl 1 (x.map fun x => [.v (str x)])) ([] : List (List UInt8)) (z := .sl 1 []) (o := o) (by first | rfl | simp [go_sem])
 try dsimp only at hmF69
 try simp -implicitDefEqProofs (maxSteps := 1000000) (disch := omega) [go_sem, oka0, hmL69, hmF69]
 obtain ⟨x4, hx4, h⟩ := bind_some' h
 refine ICalls.eqA (args' := [.sl 1 (((mget a0 a1).getD []).map fun x => [.v (str x)])]) (by first | with_reducible rfl | (simp -implicitDefEqProofs (maxSteps := 1000000) (disch := omega) [go_sem, oka0, hmL69, hmF69] <;> omega)) (F56r_ok ((mget a0 a1).getD []) hx4 ?_)
 obtain ⟨g6, h⟩ := gd_some.1 h
 try simp -implicitDefEqProofs (disch := omega) at g6
 try simp -implicitDefEqProofs (maxSteps := 1000000) (disch := omega) [go_sem, oka0, hmL69, hmF69]
 refine ICalls.fz (k := H.next) (args' := [.sl 1 ((x4 ++ a2).map fun x => [.v (str x)])]) (by repeat (first | exact FzKL.nil | refine FzKL.cons ?_ ?_ | exact FzK.row _ _ _ (by simp -implicitDefEqProofs (maxSteps := 1000000) (disch := omega) [go_sem, oka0, hmL69, hmF69]) (by simp) | exact FzK.same _)) ?_
 obtain ⟨x7, hx7, h⟩ := bind_some' h
 refine ICalls.eqA (args' := [.sl 1 ((x4 ++ a2).map fun x => [.v (str x)])]) (by first | with_reducible rfl | (simp -implicitDefEqProofs (maxSteps := 1000000) (disch := omega) [go_sem, oka0, hmL69, hmF69] <;> omega)) (F76_ok (x4 ++ a2) hx7 ?_)
 try simp -implicitDefEqProofs (maxSteps := 1000000) (disch := omega) [go_sem, oka0, hmL69, hmF69]
 subst hc3
 refine IWp_cond_i h (by first | with_reducible rfl | (simp -implicitDefEqProofs (maxSteps := 1000000) (disch := omega) [go_sem, oka0, hmL69, hmF69] <;> omega)) rfl ?_ ?_
 ·intro c8 h
  try simp -implicitDefEqProofs (disch := omega) at c8
  refine IWp_seqF fun cb hc9 => ?_
  refine vcK ?_
  try simp -implicitDefEqProofs (maxSteps := 1000000) (disch := omega) [go_sem, oka0, hmL69, hmF69]
  subst hc9
  refine vcK ?_
  simp -implicitDefEqProofs only [go_sem]
  have er := Option.some.inj h
  subst er
  try simp -implicitDefEqProofs (maxSteps := 1000000) (disch := omega) [go_sem, oka0, hmL69, hmF69]
  refine retG_fzE (J := setL H [(ka0, .map (mE (fun (x : List (List UInt8)) => .sl 1 (x.map fun x => [.v (str x)])) a0))]) (r' := .v (.int .i64 170)) (EndH.ioL [(ka0, .map (mE (fun (x : List (List UInt8)) => .sl 1 (x.map fun x => [.v (str x)])) a0))] (by simp only [delL_cons, delL_nil]; repeat (first | exact (Ext.delB (Ext.refl hw) ka0) | refine Ext.new ?_ _ | refine Ext.set ?_ (by first | omega | (simp [go_sem]; done) | (simp [go_sem]; omega)) _ | refine Ext.del ?_ (by first | omega | (simp [go_sem]; done) | (simp [go_sem]; omega)) | refine Ext.setN ?_ (by simp [go_sem]) _)) (by intro p hp; simp only [List.mem_cons, List.not_mem_nil, or_false] at hp; (try rcases hp with hp); all_goals (subst hp; refine ⟨by omega, by first | with_reducible assumption | rfl | simp -implicitDefEqProofs (maxSteps := 1000000) (disch := omega) [go_sem, oka0, hmL69, hmF69], by repeat (first | exact .v _ | exact NBL.nil | refine NBL.cons ?_ ?_ | refine NB_slm fun _ => ?_ | refine NB_agL ?_ | refine NB_tuL ?_ | refine NBL.app ?_ ?_ | refine NBL.map fun _ => ?_ | exact NB_errI | refine NBo_cL ?_ | refine NBo_mEL fun _ => ?_ | refine NBo_mIL fun _ => ?_ | exact NB_mpL (by omega) | exact NB_pL (by omega))⟩))) (by first | with_reducible rfl | (simp -implicitDefEqProofs (maxSteps := 1000000) (disch := omega) [go_sem, oka0, hmL69, hmF69] <;> omega)) (.same (by repeat (first | exact .v _ | exact NBL.nil | refine NBL.cons ?_ ?_ | refine NB_slm fun _ => ?_ | refine NB_agL ?_ | refine NB_tuL ?_ | refine NBL.app ?_ ?_ | refine NBL.map fun _ => ?_ | exact NB_errI | refine NBo_cL ?_ | refine NBo_mEL fun _ => ?_ | refine NBo_mIL fun _ => ?_ | exact NB_mpL (by omega) | exact NB_pL (by omega)))) hK
 ·intro c8 h
  try simp -implicitDefEqProofs (disch := omega) at c8
  refine vcK ?_
  simp -implicitDefEqProofs only [go_sem]
  subst hc2
  refine IWp_seqF fun cb hc10 => ?_
  refine vcK ?_
  try simp -implicitDefEqProofs (maxSteps := 1000000) (disch := omega) [go_sem, oka0, hmL69, hmF69]
  obtain ⟨x11, hx11, h⟩ := bind_some' h
  refine ICalls.eqA (args' := [.sl 1 (((mget a0 a1).getD []).map fun x => [.v (str x)])]) (by first | with_reducible rfl | (simp -implicitDefEqProofs (maxSteps := 1000000) (disch := omega) [go_sem, oka0, hmL69, hmF69] <;> omega)) (F56r_ok ((mget a0 a1).getD []) hx11 ?_)
  obtain ⟨g13, h⟩ := gd_some.1 h
  try simp -implicitDefEqProofs (disch := omega) at g13
  have hmS69 := fun m k v => setI_mE (fun (x : List (List UInt8)) => .sl 1 (x.map fun x => [.v (str x)])) m k v
  try dsimp only at hmS69
  have hmi14 := hmS69 a0 a1 (x11 ++ a2)
  try simp -implicitDefEqProofs at hmi14
  try simp -implicitDefEqProofs (maxSteps := 1000000) (disch := omega) [go_sem, oka0, hmL69, hmF69, hmS69, hmi14]
  refine IWp.gh (Gh.fzMapSet (k := H.next + 1) (km := ka0) (n := (x11 ++ a2).length) (sz := 1) (es := (x11 ++ a2).map fun x => [.v (str x)]) (ents := mE (fun (x : List (List UInt8)) => .sl 1 (x.map fun x => [.v (str x)])) a0) (key := str a1) (by simp -implicitDefEqProofs (maxSteps := 1000000) (disch := omega) [go_sem, oka0, hmL69, hmF69, hmS69, hmi14]) (by simp -implicitDefEqProofs (maxSteps := 1000000) (disch := omega) [go_sem, oka0, hmL69, hmF69, hmS69, hmi14]) (by simp) (by first | omega | (simp [go_sem]; done) | (simp [go_sem]; omega))) ?_
  try simp -implicitDefEqProofs (maxSteps := 1000000) (disch := omega) [go_sem, oka0, hmL69, hmF69, hmS69, hmi14]
  subst hc10
  refine IWp_seqF fun cb hc15 => ?_
  refine vcK ?_
  try simp -implicitDefEqProofs (maxSteps := 1000000) (disch := omega) [go_sem, oka0, hmL69, hmF69, hmS69, hmi14]
  subst hc15
  refine vcK ?_
  simp -implicitDefEqProofs only [go_sem]
  have er := Option.some.inj h
  subst er
  try simp -implicitDefEqProofs (maxSteps := 1000000) (disch := omega) [go_sem, oka0, hmL69, hmF69, hmS69, hmi14]
  refine retG_fzE (J := setL H [(ka0, .map (mE (fun (x : List (List UInt8)) => .sl 1 (x.map fun x => [.v (str x)])) (mset a0 a1 (x11 ++ a2))))]) (r' := .v (.int .i64 0)) (EndH.ioL [(ka0, .map (mE (fun (x : List (List UInt8)) => .sl 1 (x.map fun x => [.v (str x)])) (mset a0 a1 (x11 ++ a2))))] (by simp only [delL_cons, delL_nil]; repeat (first | exact (Ext.delB (Ext.refl hw) ka0) | refine Ext.new ?_ _ | refine Ext.set ?_ (by first | omega | (simp [go_sem]; done) | (simp [go_sem]; omega)) _ | refine Ext.del ?_ (by first | omega | (simp [go_sem]; done) | (simp [go_sem]; omega)) | refine Ext.setN ?_ (by simp [go_sem]) _)) (by intro p hp; simp only [List.mem_cons, List.not_mem_nil, or_false] at hp; (try rcases hp with hp); all_goals (subst hp; refine ⟨by omega, by first | with_reducible assumption | rfl | simp -implicitDefEqProofs (maxSteps := 1000000) (disch := omega) [go_sem, oka0, hmL69, hmF69, hmS69, hmi14], by repeat (first | exact .v _ | exact NBL.nil | refine NBL.cons ?_ ?_ | refine NB_slm fun _ => ?_ | refine NB_agL ?_ | refine NB_tuL ?_ | refine NBL.app ?_ ?_ | refine NBL.map fun _ => ?_ | exact NB_errI | refine NBo_cL ?_ | refine NBo_mEL fun _ => ?_ | refine NBo_mIL fun _ => ?_ | exact NB_mpL (by omega) | exact NB_pL (by omega))⟩))) (by first | with_reducible rfl | (simp -implicitDefEqProofs (maxSteps := 1000000) (disch := omega) [go_sem, oka0, hmL69, hmF69, hmS69, hmi14] <;> omega)) (.same (by repeat (first | exact .v _ | exact NBL.nil | refine NBL.cons ?_ ?_ | refine NB_slm fun _ => ?_ | refine NB_agL ?_ | refine NB_tuL ?_ | refine NBL.app ?_ ?_ | refine NBL.map fun _ => ?_ | exact NB_errI | refine NBo_cL ?_ | refine NBo_mEL fun _ => ?_ | refine NBo_mIL fun _ => ?_ | exact NB_mpL (by omega) | exact NB_pL (by omega)))) hK

/-! cardcase/entry.remove$1 -/

noncomputable def F77 (a0 : List UInt8) (a1 : List (List UInt8)) : Option Bool :=
 (Q78 a1 a0).bind fun (x3 : Bool) => some x3

set_option maxHeartbeats 8000000 in
set_option pp.deepTerms false in
set_option maxRecDepth 60000 in
theorem F77_ok {H : IHeap} {K : IEnd → IHeap → Prop} (a0 : List UInt8) (a1 : List (List UInt8)) (ka1 : Nat) (oka1 : H.obj ka1 = some (.cells ([.sl 1 (a1.map fun x => [.v (str x)])]))) {r : Bool} (h : F77 a0 a1 = some r) (hK : K (.ret (.v (.bool r))) H) : ICalls prog 77 [.v (str a0), .p ka1 0] H K := by
 refine ICalls_iwp (N := 7) func77 (by kernel_rfl) rfl (by kernel_rfl) (by kernel_rfl) fun cb hcb hw hbd hnb => ?_
 clear hbd hnb
 subst hcb
 unfold F77 at h
 have hka1 : ka1 < H.next := Nat.lt_of_not_le fun q => by rw [hw _ q] at oka1; cases oka1
 refine IWp_seqF fun cb hc1 => ?_
 refine vcK ?_
 try simp -implicitDefEqProofs (maxSteps := 1000000) (disch := omega) [go_sem, oka1]
 subst hc1
 refine IWp_seqF fun cb hc2 => ?_
 refine vcK ?_
 try simp -implicitDefEqProofs (maxSteps := 1000000) (disch := omega) [go_sem, oka1]
 obtain ⟨x3, hx3, h⟩ := bind_some' h
 refine ICalls.eqA (args' := [.sl 1 (a1.map fun x => [.v (str x)]), .v (str a0)]) (by first | with_reducible rfl | (simp -implicitDefEqProofs (maxSteps := 1000000) (disch := omega) [go_sem, oka1] <;> omega)) (Q78_ok a1 a0 hx3 ?_)
 try simp -implicitDefEqProofs (maxSteps := 1000000) (disch := omega) [go_sem, oka1]
 subst hc2
 refine vcK ?_
 simp -implicitDefEqProofs only [go_sem]
 have er := Option.some.inj h
 subst er
 try simp -implicitDefEqProofs (maxSteps := 1000000) (disch := omega) [go_sem, oka1]
 refine retG_pureA (Ext.refl hw) hK (e := by first | with_reducible rfl | (simp -implicitDefEqProofs (maxSteps := 1000000) (disch := omega) [go_sem, oka1] <;> omega))

/-! cardcase/entry.all[string]$1 -/

noncomputable def F86s2 (a0 : List UInt8) (a1_0 : List (List UInt8)) : Option Bool :=
 (F77 a0 a1_0).bind fun (x3 : Bool) => some (!x3)

set_option maxHeartbeats 8000000 in
set_option pp.deepTerms false in
set_option maxRecDepth 60000 in
theorem F86s2_ok {H : IHeap} {K : IEnd → IHeap → Prop} (a0 : List UInt8) (a1_0 : List (List UInt8)) (ka1 : Nat) (ka1_0 : Nat) (oka1 : H.obj ka1 = some (.cells ([.fn (.func 77) [] [.p ka1_0 0]]))) (oka1_0 : H.obj ka1_0 = some (.cells ([.sl 1 (a1_0.map fun x => [.v (str x)])]))) {r : Bool} (h : F86s2 a0 a1_0 = some r) (hK : K (.ret (.v (.bool r))) H) : ICalls prog 86 [.v (str a0), .p ka1 0] H K := by
 refine ICalls_iwp (N := 8) func86 (by kernel_rfl) rfl (by kernel_rfl) (by kernel_rfl) fun cb hcb hw hbd hnb => ?_
 clear hbd hnb
 subst hcb
 unfold F86s2 at h
 have hka1 : ka1 < H.next := Nat.lt_of_not_le fun q => by rw [hw _ q] at oka1; cases oka1
 have hka1_0 : ka1_0 < H.next := Nat.lt_of_not_le fun q => by rw [hw _ q] at oka1_0; cases oka1_0
 refine IWp_seqF fun cb hc1 => ?_
 refine vcK ?_
 try simp -implicitDefEqProofs (maxSteps := 1000000) (disch := omega) [go_sem, oka1_0, oka1]
 subst hc1
 refine IWp_seqF fun cb hc2 => ?_
 refine vcK ?_
 try simp -implicitDefEqProofs (maxSteps := 1000000) (disch := omega) [go_sem, oka1_0, oka1]
 obtain ⟨x3, hx3, h⟩ := bind_some' h
 refine ICalls.eqA (args' := [.v (str a0), .p ka1_0 0]) (by first | with_reducible rfl | (simp -implicitDefEqProofs (maxSteps := 1000000) (disch := omega) [go_sem, oka1_0, oka1] <;> omega)) (F77_ok a0 a1_0 ka1_0 (by first | with_reducible assumption | simp -implicitDefEqProofs (maxSteps := 1000000) (disch := omega) [go_sem, oka1_0, oka1]) hx3 ?_)
 try simp -implicitDefEqProofs (maxSteps := 1000000) (disch := omega) [go_sem, oka1_0, oka1]
 subst hc2
 refine vcK ?_
 simp -implicitDefEqProofs only [go_sem]
 have er := Option.some.inj h
 subst er
 try simp -implicitDefEqProofs (maxSteps := 1000000) (disch := omega) [go_sem, oka1_0, oka1]
 refine retG_pureA (Ext.refl hw) hK (e := by first | with_reducible rfl | (simp -implicitDefEqProofs (maxSteps := 1000000) (disch := omega) [go_sem, oka1_0, oka1] <;> omega))

/-! slices.IndexFunc[[]string,string] -/

noncomputable def F100s2_k4 (v7 : List (List UInt8)) : Option Int :=
 some (-1)

noncomputable def F100s2_b4 (a0 : List (List UInt8)) (v5 : Int) (v6 : List (List UInt8)) : Option ((Int × (List (List UInt8))) ⊕ (((List (List UInt8))) ⊕ Int)) :=
 if v5 < (a0.length : Int) then (gd (0 ≤ v5 ∧ v5 < a0.length) ((F86s2 (a0.getD v5.toNat []) v6).bind fun (x16 : Bool) => if x16 = true then (some (.inr (.inr v5))) else (some (.inl ((IntKind.i64.wrap (v5 + 1), v6)))))) else (some (.inr (.inl v6)))

noncomputable def F100s2 (a0 : List (List UInt8)) (a1_0_0 : List (List UInt8)) : Option Int :=
 (loopO (fun (s : Int × (List (List UInt8))) => F100s2_b4 a0 s.1 s.2) (0, a1_0_0)).bind fun y => Sum.elim (fun (e : (List (List UInt8))) => F100s2_k4 e) (fun (q : Int) => some q) y

set_option maxHeartbeats 8000000 in
set_option pp.deepTerms false in
set_option maxRecDepth 60000 in
theorem F100s2_ok {H : IHeap} {K : IEnd → IHeap → Prop} (a0 : List (List UInt8)) (a1_0_0 : List (List UInt8)) (ka1_0 : Nat) (ka1_0_0 : Nat) (oka1_0 : H.obj ka1_0 = some (.cells ([.fn (.func 77) [] [.p ka1_0_0 0]]))) (oka1_0_0 : H.obj ka1_0_0 = some (.cells ([.sl 1 (a1_0_0.map fun x => [.v (str x)])]))) {r : Int} (h : F100s2 a0 a1_0_0 = some r) (hK : K (.ret (.v (.int .i64 r))) H) : ICalls prog 100 [.sl 1 (a0.map fun x => [.v (str x)]), .fn (.func 86) [] [.p ka1_0 0]] H K := by
 refine ICalls_iwp (N := 19) func100 (by kernel_rfl) rfl (by kernel_rfl) (by kernel_rfl) fun cb hcb hw hbd hnb => ?_
 clear hbd hnb
 subst hcb
 unfold F100s2 at h
 have hka1_0 : ka1_0 < H.next := Nat.lt_of_not_le fun q => by rw [hw _ q] at oka1_0; cases oka1_0
 have hka1_0_0 : ka1_0_0 < H.next := Nat.lt_of_not_le fun q => by rw [hw _ q] at oka1_0_0; cases oka1_0_0
 refine IWp_seqF fun cb hc1 => ?_
 refine vcK ?_
 try simp -implicitDefEqProofs (maxSteps := 1000000) (disch := omega) [go_sem, oka1_0_0, oka1_0]
 subst hc1
 refine IWp_seqF fun cb hc2 => ?_
 refine IWp_seqF fun cb hc3 => ?_
 refine vcK ?_
 try simp -implicitDefEqProofs (maxSteps := 1000000) (disch := omega) [go_sem, oka1_0_0, oka1_0]
 subst hc3
 obtain ⟨y4, hl4q, hk4⟩ := bind_some' h
 refine IWp_tailC (fun tm' H' => ∃ v7 : List (List UInt8), .inl v7 = y4 ∧ Ext H H' ∧ H.next ≤ H'.next ∧ H'.obj ka1_0_0 = some (.cells ([.sl 1 (v7.map fun x => [.v (str x)])])) ∧ H'.obj ka1_0 = some (.cells ([.fn (.func 77) [] [.p ka1_0_0 0]]))) ?_ fun cb hc4 => ?_
 ·rintro tm4e H4e ⟨v7, rfl, he4e, hl4e, ob0_4e, ob1_4e⟩
  have h : F100s2_k4 v7 = some r := hk4
  unfold F100s2_k4 at h
  simp -implicitDefEqProofs only [go_sem]
  subst hc2
  refine IWp_seqF fun cb hc8 => ?_
  refine vcK ?_
  try simp -implicitDefEqProofs (maxSteps := 1000000) (disch := omega) [go_sem, ob0_4e, ob1_4e]
  subst hc8
  refine vcK ?_
  simp -implicitDefEqProofs only [go_sem]
  have er := Option.some.inj h
  subst er
  try simp -implicitDefEqProofs (maxSteps := 1000000) (disch := omega) [go_sem, ob0_4e, ob1_4e]
  refine retG_pureA he4e hK (e := by first | with_reducible rfl | (simp -implicitDefEqProofs (maxSteps := 1000000) (disch := omega) [go_sem, ob0_4e, ob1_4e] <;> omega))
 ·refine IWp_block ?_
  refine IWp_loopF (fun (s : Int × (List (List UInt8))) tm' H' => Ext H H' ∧ H.next ≤ H'.next ∧ tm' 0 = .sl 1 (a0.map fun x => [.v (str x)]) ∧ tm' 1 = .fn (.func 86) [] [.p ka1_0 0] ∧ tm' 7 = .v (.int .i64 (a0.length : Int)) ∧ tm' 8 = .v (.int .i64 s.1) ∧ H'.obj ka1_0_0 = some (.cells ([.sl 1 (s.2.map fun x => [.v (str x)])])) ∧ H'.obj ka1_0 = some (.cells ([.fn (.func 77) [] [.p ka1_0_0 0]]))) hl4q ?_ ?_
  ·refine .same ⟨by repeat (first | exact (Ext.refl hw) | refine Ext.new ?_ _ | refine Ext.set ?_ (by first | omega | (simp [go_sem]; done) | (simp [go_sem]; omega)) _ | refine Ext.del ?_ (by first | omega | (simp [go_sem]; done) | (simp [go_sem]; omega))), by first | with_reducible rfl | with_reducible assumption | omega | (simp -implicitDefEqProofs (maxSteps := 1000000) (disch := omega) [go_sem, oka1_0_0, oka1_0] <;> omega), by first | with_reducible rfl | with_reducible assumption | (simp -implicitDefEqProofs (maxSteps := 1000000) (disch := omega) [go_sem, oka1_0_0, oka1_0] <;> omega), by first | with_reducible rfl | with_reducible assumption | (simp -implicitDefEqProofs (maxSteps := 1000000) (disch := omega) [go_sem, oka1_0_0, oka1_0] <;> omega), by first | with_reducible rfl | with_reducible assumption | (simp -implicitDefEqProofs (maxSteps := 1000000) (disch := omega) [go_sem, oka1_0_0, oka1_0] <;> omega), by first | with_reducible rfl | with_reducible assumption | (simp -implicitDefEqProofs (maxSteps := 1000000) (disch := omega) [go_sem, oka1_0_0, oka1_0] <;> omega), by first | with_reducible rfl | with_reducible assumption | (simp -implicitDefEqProofs (maxSteps := 1000000) (disch := omega) [go_sem, oka1_0_0, oka1_0] <;> omega), by first | with_reducible rfl | with_reducible assumption | (simp -implicitDefEqProofs (maxSteps := 1000000) (disch := omega) [go_sem, oka1_0_0, oka1_0] <;> omega)⟩
  ·rintro I4 hI4 ⟨v5, v6⟩ x4 tm4 H4 ⟨he4, hl4, t0_4, t1_4, t7_4, t8_4, ob0_4, ob1_4⟩ h hret4
   replace h : F100s2_b4 a0 v5 v6 = some x4 := h
   unfold F100s2_b4 at h
   refine IWp_seqF fun cb hc9 => ?_
   refine vcK ?_
   try simp -implicitDefEqProofs (maxSteps := 1000000) (disch := omega) [go_sem, t0_4, t1_4, t7_4, t8_4, ob0_4, ob1_4]
   subst hc9
   refine IWp_seqF fun cb hc10 => ?_
   refine IWp_cond_i h (by first | with_reducible rfl | (simp -implicitDefEqProofs (maxSteps := 1000000) (disch := omega) [go_sem, t0_4, t1_4, t7_4, t8_4, ob0_4, ob1_4] <;> omega)) rfl ?_ ?_
   ·intro c11 h
    try simp -implicitDefEqProofs (disch := omega) at c11
    refine vcK ?_
    simp -implicitDefEqProofs only [go_sem]
    subst hc10
    refine IWp_seqF fun cb hc12 => ?_
    refine IWp_block ?_
    refine IWp_seqF fun cb hc13 => ?_
    refine vcK ?_
    try simp -implicitDefEqProofs (maxSteps := 1000000) (disch := omega) [go_sem, t0_4, t1_4, t7_4, t8_4, ob0_4, ob1_4]
    subst hc13
    refine IWp_seqF fun cb hc14 => ?_
    refine vcK ?_
    obtain ⟨g15, h⟩ := gd_some.1 h
    try simp -implicitDefEqProofs (disch := omega) at g15
    try simp -implicitDefEqProofs (maxSteps := 1000000) (disch := omega) [go_sem, t0_4, t1_4, t7_4, t8_4, ob0_4, ob1_4]
    obtain ⟨x16, hx16, h⟩ := bind_some' h
    refine ICalls.eqA (args' := [.v (str (a0.getD v5.toNat [])), .p ka1_0 0]) (by first | with_reducible rfl | (simp -implicitDefEqProofs (maxSteps := 1000000) (disch := omega) [go_sem, t0_4, t1_4, t7_4, t8_4, ob0_4, ob1_4] <;> omega)) (F86s2_ok (a0.getD v5.toNat []) v6 ka1_0 ka1_0_0 (by first | with_reducible assumption | simp -implicitDefEqProofs (maxSteps := 1000000) (disch := omega) [go_sem, t0_4, t1_4, t7_4, t8_4, ob0_4, ob1_4]) (by first | with_reducible assumption | simp -implicitDefEqProofs (maxSteps := 1000000) (disch := omega) [go_sem, t0_4, t1_4, t7_4, t8_4, ob0_4, ob1_4]) hx16 ?_)
    try simp -implicitDefEqProofs (maxSteps := 1000000) (disch := omega) [go_sem, t0_4, t1_4, t7_4, t8_4, ob0_4, ob1_4]
    subst hc14
    refine IWp_cond_i h (by first | with_reducible rfl | (simp -implicitDefEqProofs (maxSteps := 1000000) (disch := omega) [go_sem, t0_4, t1_4, t7_4, t8_4, ob0_4, ob1_4] <;> omega)) rfl ?_ ?_
    ·intro c17 h
     try simp -implicitDefEqProofs (disch := omega) at c17
     refine IWp_seqF fun cb hc18 => ?_
     refine vcK ?_
     try simp -implicitDefEqProofs (maxSteps := 1000000) (disch := omega) [go_sem, t0_4, t1_4, t7_4, t8_4, ob0_4, ob1_4]
     subst hc18
     refine vcK ?_
     simp -implicitDefEqProofs only [go_sem]
     have e4 := Option.some.inj h
     subst e4
     have e4 := hret4 _ rfl
     subst e4
     replace h : some v5 = some r := hk4
     have er := Option.some.inj h
     subst er
     try simp -implicitDefEqProofs (maxSteps := 1000000) (disch := omega) [go_sem, t0_4, t1_4, t7_4, t8_4, ob0_4, ob1_4]
     refine retG_pureA he4 hK (e := by first | with_reducible rfl | (simp -implicitDefEqProofs (maxSteps := 1000000) (disch := omega) [go_sem, t0_4, t1_4, t7_4, t8_4, ob0_4, ob1_4] <;> omega))
    ·intro c17 h
     try simp -implicitDefEqProofs (disch := omega) at c17
     refine vcK ?_
     simp -implicitDefEqProofs only [go_sem]
     subst hc12
     refine vcK ?_
     try simp -implicitDefEqProofs (maxSteps := 1000000) (disch := omega) [go_sem, t0_4, t1_4, t7_4, t8_4, ob0_4, ob1_4]
     have e4 := Option.some.inj h
     subst e4
     refine loopN_mk hI4 ((IntKind.i64.wrap (v5 + 1), v6)) ?_
     refine .same ⟨by repeat (first | exact he4 | refine Ext.new ?_ _ | refine Ext.set ?_ (by first | omega | (simp [go_sem]; done) | (simp [go_sem]; omega)) _ | refine Ext.del ?_ (by first | omega | (simp [go_sem]; done) | (simp [go_sem]; omega))), by first | with_reducible rfl | with_reducible assumption | omega | (simp -implicitDefEqProofs (maxSteps := 1000000) (disch := omega) [go_sem, t0_4, t1_4, t7_4, t8_4, ob0_4, ob1_4] <;> omega), by first | with_reducible rfl | with_reducible assumption | (simp -implicitDefEqProofs (maxSteps := 1000000) (disch := omega) [go_sem, t0_4, t1_4, t7_4, t8_4, ob0_4, ob1_4] <;> omega), by first | with_reducible rfl | with_reducible assumption | (simp -implicitDefEqProofs (maxSteps := 1000000) (disch := omega) [go_sem, t0_4, t1_4, t7_4, t8_4, ob0_4, ob1_4] <;> omega), by first | with_reducible rfl | with_reducible assumption | (simp -implicitDefEqProofs (maxSteps := 1000000) (disch := omega) [go_sem, t0_4, t1_4, t7_4, t8_4, ob0_4, ob1_4] <;> omega), by first | with_reducible rfl | with_reducible assumption | (simp -implicitDefEqProofs (maxSteps := 1000000) (disch := omega) [go_sem, t0_4, t1_4, t7_4, t8_4, ob0_4, ob1_4] <;> omega), by first | with_reducible rfl | with_reducible assumption | (simp -implicitDefEqProofs (maxSteps := 1000000) (disch := omega) [go_sem, t0_4, t1_4, t7_4, t8_4, ob0_4, ob1_4] <;> omega), by first | with_reducible rfl | with_reducible assumption | (simp -implicitDefEqProofs (maxSteps := 1000000) (disch := omega) [go_sem, t0_4, t1_4, t7_4, t8_4, ob0_4, ob1_4] <;> omega)⟩
   ·intro c11 h
    try simp -implicitDefEqProofs (disch := omega) at c11
    refine vcK ?_
    simp -implicitDefEqProofs only [go_sem]
    have e4 := Option.some.inj h
    subst e4
    have hy4 := hret4 _ rfl
    refine hc4 _ _ ?_
    refine .same ⟨v6, hy4, by repeat (first | exact he4 | refine Ext.new ?_ _ | refine Ext.set ?_ (by first | omega | (simp [go_sem]; done) | (simp [go_sem]; omega)) _ | refine Ext.del ?_ (by first | omega | (simp [go_sem]; done) | (simp [go_sem]; omega))), by first | with_reducible rfl | with_reducible assumption | omega | (simp -implicitDefEqProofs (maxSteps := 1000000) (disch := omega) [go_sem, t0_4, t1_4, t7_4, t8_4, ob0_4, ob1_4] <;> omega), by first | with_reducible rfl | with_reducible assumption | (simp -implicitDefEqProofs (maxSteps := 1000000) (disch := omega) [go_sem, t0_4, t1_4, t7_4, t8_4, ob0_4, ob1_4] <;> omega), by first | with_reducible rfl | with_reducible assumption | (simp -implicitDefEqProofs (maxSteps := 1000000) (disch := omega) [go_sem, t0_4, t1_4, t7_4, t8_4, ob0_4, ob1_4] <;> omega)⟩

/-! slices.ContainsFunc[[]string,string] -/

noncomputable def F85s2 (a0 : List (List UInt8)) (a1_0_0 : List (List UInt8)) : Option Bool :=
 (F100s2 a0 a1_0_0).bind fun (x3 : Int) => some (decide (0 ≤ x3))

set_option maxHeartbeats 8000000 in
set_option pp.deepTerms false in
set_option maxRecDepth 60000 in
theorem F85s2_ok {H : IHeap} {K : IEnd → IHeap → Prop} (a0 : List (List UInt8)) (a1_0_0 : List (List UInt8)) (ka1_0 : Nat) (ka1_0_0 : Nat) (oka1_0 : H.obj ka1_0 = some (.cells ([.fn (.func 77) [] [.p ka1_0_0 0]]))) (oka1_0_0 : H.obj ka1_0_0 = some (.cells ([.sl 1 (a1_0_0.map fun x => [.v (str x)])]))) {r : Bool} (h : F85s2 a0 a1_0_0 = some r) (hK : K (.ret (.v (.bool r))) H) : ICalls prog 85 [.sl 1 (a0.map fun x => [.v (str x)]), .fn (.func 86) [] [.p ka1_0 0]] H K := by
 refine ICalls_iwp (N := 9) func85 (by kernel_rfl) rfl (by kernel_rfl) (by kernel_rfl) fun cb hcb hw hbd hnb => ?_
 clear hbd hnb
 subst hcb
 unfold F85s2 at h
 have hka1_0 : ka1_0 < H.next := Nat.lt_of_not_le fun q => by rw [hw _ q] at oka1_0; cases oka1_0
 have hka1_0_0 : ka1_0_0 < H.next := Nat.lt_of_not_le fun q => by rw [hw _ q] at oka1_0_0; cases oka1_0_0
 refine IWp_seqF fun cb hc1 => ?_
 refine vcK ?_
 try simp -implicitDefEqProofs (maxSteps := 1000000) (disch := omega) [go_sem, oka1_0_0, oka1_0]
 subst hc1
 refine IWp_seqF fun cb hc2 => ?_
 refine vcK ?_
 try simp -implicitDefEqProofs (maxSteps := 1000000) (disch := omega) [go_sem, oka1_0_0, oka1_0]
 obtain ⟨x3, hx3, h⟩ := bind_some' h
 refine ICalls.eqA (args' := [.sl 1 (a0.map fun x => [.v (str x)]), .fn (.func 86) [] [.p ka1_0 0]]) (by first | with_reducible rfl | (simp -implicitDefEqProofs (maxSteps := 1000000) (disch := omega) [go_sem, oka1_0_0, oka1_0] <;> omega)) (F100s2_ok a0 a1_0_0 ka1_0 ka1_0_0 (by first | with_reducible assumption | simp -implicitDefEqProofs (maxSteps := 1000000) (disch := omega) [go_sem, oka1_0_0, oka1_0]) (by first | with_reducible assumption | simp -implicitDefEqProofs (maxSteps := 1000000) (disch := omega) [go_sem, oka1_0_0, oka1_0]) hx3 ?_)
 try simp -implicitDefEqProofs (maxSteps := 1000000) (disch := omega) [go_sem, oka1_0_0, oka1_0]
 subst hc2
 refine vcK ?_
 simp -implicitDefEqProofs only [go_sem]
 have er := Option.some.inj h
 subst er
 try simp -implicitDefEqProofs (maxSteps := 1000000) (disch := omega) [go_sem, oka1_0_0, oka1_0]
 refine retG_pureA (Ext.refl hw) hK (e := by first | with_reducible rfl | (simp -implicitDefEqProofs (maxSteps := 1000000) (disch := omega) [go_sem, oka1_0_0, oka1_0] <;> omega))

/-! cardcase/entry.all[string] -/

noncomputable def F46s2 (a0 : List (List UInt8)) (a1_0 : List (List UInt8)) : Option Bool :=
 (F85s2 a0 a1_0).bind fun (x3 : Bool) => some (!x3)

set_option maxHeartbeats 8000000 in
set_option pp.deepTerms false in
set_option maxRecDepth 60000 in
theorem F46s2_ok {H : IHeap} {K : IEnd → IHeap → Prop} (a0 : List (List UInt8)) (a1_0 : List (List UInt8)) (ka1_0 : Nat) (oka1_0 : H.obj ka1_0 = some (.cells ([.sl 1 (a1_0.map fun x => [.v (str x)])]))) {r : Bool} (h : F46s2 a0 a1_0 = some r) (hK : K (.ret (.v (.bool r))) H) : ICalls prog 46 [.sl 1 (a0.map fun x => [.v (str x)]), .fn (.func 77) [] [.p ka1_0 0]] H K := by
 refine ICalls_iwp (N := 9) func46 (by kernel_rfl) rfl (by kernel_rfl) (by kernel_rfl) fun cb hcb hw hbd hnb => ?_
 clear hbd hnb
 subst hcb
 unfold F46s2 at h
 have hka1_0 : ka1_0 < H.next := Nat.lt_of_not_le fun q => by rw [hw _ q] at oka1_0; cases oka1_0
 refine IWp_seqF fun cb hc1 => ?_
 refine vcK ?_
 try simp -implicitDefEqProofs (maxSteps := 1000000) (disch := omega) [go_sem, oka1_0]
 subst hc1
 refine IWp_seqF fun cb hc2 => ?_
 refine vcK ?_
 try simp -implicitDefEqProofs (maxSteps := 1000000) (disch := omega) [go_sem, oka1_0]
 obtain ⟨x3, hx3, h⟩ := bind_some' h
 refine ICalls.eqA (args' := [.sl 1 (a0.map fun x => [.v (str x)]), .fn (.func 86) [] [.p H.next 0]]) (by first | with_reducible rfl | (simp -implicitDefEqProofs (maxSteps := 1000000) (disch := omega) [go_sem, oka1_0] <;> omega)) (F85s2_ok a0 a1_0 H.next ka1_0 (by first | with_reducible assumption | simp -implicitDefEqProofs (maxSteps := 1000000) (disch := omega) [go_sem, oka1_0]) (by first | with_reducible assumption | simp -implicitDefEqProofs (maxSteps := 1000000) (disch := omega) [go_sem, oka1_0]) hx3 ?_)
 try simp -implicitDefEqProofs (maxSteps := 1000000) (disch := omega) [go_sem, oka1_0]
 subst hc2
 refine vcK ?_
 simp -implicitDefEqProofs only [go_sem]
 have er := Option.some.inj h
 subst er
 try simp -implicitDefEqProofs (maxSteps := 1000000) (disch := omega) [go_sem, oka1_0]
 refine retG_pureA (Ext.refl hw) hK (e := by first | with_reducible rfl | (simp -implicitDefEqProofs (maxSteps := 1000000) (disch := omega) [go_sem, oka1_0] <;> omega))

/-! cardcase/entry.remove -/

noncomputable def F38_k4 (a0 : List (List UInt8 × (List (List UInt8)))) (a1 : List UInt8) (a2 : List (List UInt8)) (v5 : Bool) : Option (Int × (List (List UInt8 × (List (List UInt8))))) :=
 if v5 = true then (some (171, a0)) else (if (a2.length : Int) = 0 then (some (0, mdel a0 a1)) else ((F56 ((mget a0 a1).getD [])).bind fun (x13 : (List (List UInt8))) => (F79 x13 a2).bind fun (x15 : (List (List UInt8))) => some (0, mset a0 a1 x15)))

noncomputable def F38 (a0 : List (List UInt8 × (List (List UInt8)))) (a1 : List UInt8) (a2 : List (List UInt8)) : Option (Int × (List (List UInt8 × (List (List UInt8))))) :=
 if (a2.length : Int) = 0 then (if ((((mget a0 a1).getD []).length : Int)) = 0 then (F38_k4 a0 a1 a2 (decide (((((mget a0 a1).getD []).length : Int)) = 0))) else ((F76 a2).bind fun (x21 : Bool) => if x21 = true then (F38_k4 a0 a1 a2 x21) else ((F46s2 a2 ((mget a0 a1).getD [])).bind fun (x23 : Bool) => F38_k4 a0 a1 a2 (!x23)))) else ((F76 a2).bind fun (x25 : Bool) => if x25 = true then (F38_k4 a0 a1 a2 x25) else ((F46s2 a2 ((mget a0 a1).getD [])).bind fun (x27 : Bool) => F38_k4 a0 a1 a2 (!x27)))

set_option maxHeartbeats 8000000 in
set_option pp.deepTerms false in
set_option maxRecDepth 60000 in
theorem F38_ok {H : IHeap} {K : IEnd → IHeap → Prop} (a0 : List (List UInt8 × (List (List UInt8)))) (a1 : List UInt8) (a2 : List (List UInt8)) (ka0 : Nat) (oka0 : H.obj ka0 = some (.map (mE (fun (x : List (List UInt8)) => .sl 1 (x.map fun x => [.v (str x)])) a0))) {r : Int × (List (List UInt8 × (List (List UInt8))))} (h : F38 a0 a1 a2 = some r) (hK : K (.ret (.v (.int .i64 r.1))) (setL H [(ka0, .map (mE (fun (x : List (List UInt8)) => .sl 1 (x.map fun x => [.v (str x)])) r.2))])) : ICalls prog 38 [.mp ka0, .v (str a1), .sl 1 (a2.map fun x => [.v (str x)])] H K := by
 refine ICalls_iwp (N := 38) func38 (by kernel_rfl) rfl (by kernel_rfl) (by kernel_rfl) fun cb hcb hw hbd hnb => ?_
 clear hbd hnb
 subst hcb
 unfold F38 at h
 have hka0 : ka0 < H.next := Nat.lt_of_not_le fun q => by rw [hw _ q] at oka0; cases oka0
 refine IWp_seqF fun cb hc1 => ?_
 refine vcK ?_
 try simp -implicitDefEqProofs (maxSteps := 1000000) (disch := omega) [go_sem, oka0]
 subst hc1
 refine IWp_seqF fun cb hc2 => ?_
 refine vcK ?_
 have hmL69 := @lkI_mE _ (fun (x : List (List UInt8)) => .sl 1 (x.map fun x => [.v (str x)]))
 try dsimp only at hmL69
 have hmF69 := fun o => okI_f (fun (x : List (List UInt8)) => .sl 1 (x.map fun x => [.v (str x)])) ([] : List (List UInt8)) (z := .sl 1 []) (o := o) (by first | rfl | simp [go_sem])
 try dsimp only at hmF69
 try simp -implicitDefEqProofs (maxSteps := 1000000) (disch := omega) [go_sem, oka0, hmL69, hmF69]
 subst hc2
 refine IWp_seqF fun cb hc3 => ?_
 refine IWp_block ?_
 refine IWp_seqC (fun tm' H' => ∃ v5 : Bool, Ext (H.del ka0) H' ∧ H.next + 2 ≤ H'.next ∧ tm' 0 = .mp ka0 ∧ tm' 1 = .v (str a1) ∧ tm' 5 = .p H.next 0 ∧ tm' 7 = .p (H.next + 1) 0 ∧ tm' 11 = .v (.bool v5) ∧ H'.obj ka0 = some (.map (mE (fun (x : List (List UInt8)) => .sl 1 (x.map fun x => [.v (str x)])) a0)) ∧ H'.obj H.next = some (.cells ([.sl 1 (a2.map fun x => [.v (str x)])])) ∧ H'.obj (H.next + 1) = some (.cells ([.sl 1 (((mget a0 a1).getD []).map fun x => [.v (str x)])])) ∧ F38_k4 a0 a1 a2 v5 = some r) ?_ fun cb hc4 => ?_
 ·rintro tm4 H4 ⟨v5, he4, hl4, t0_4, t1_4, t5_4, t7_4, t11_4, ob0_4, ob1_4, ob2_4, h⟩
  unfold F38_k4 at h
  refine IWp_cond_i h (by first | with_reducible rfl | (simp -implicitDefEqProofs (maxSteps := 1000000) (disch := omega) [go_sem, t0_4, t1_4, t5_4, t7_4, t11_4, hmL69, hmF69, ob0_4, ob1_4, ob2_4] <;> omega)) rfl ?_ ?_
  ·intro c6 h
   try simp -implicitDefEqProofs (disch := omega) at c6
   refine IWp_seqF fun cb hc7 => ?_
   refine vcK ?_
   try simp -implicitDefEqProofs (maxSteps := 1000000) (disch := omega) [go_sem, t0_4, t1_4, t5_4, t7_4, t11_4, hmL69, hmF69, ob0_4, ob1_4, ob2_4]
   subst hc7
   refine vcK ?_
   simp -implicitDefEqProofs only [go_sem]
   have er := Option.some.inj h
   subst er
   try simp -implicitDefEqProofs (maxSteps := 1000000) (disch := omega) [go_sem, t0_4, t1_4, t5_4, t7_4, t11_4, hmL69, hmF69, ob0_4, ob1_4, ob2_4]
   refine retG_fzE (J := setL H [(ka0, .map (mE (fun (x : List (List UInt8)) => .sl 1 (x.map fun x => [.v (str x)])) a0))]) (r' := .v (.int .i64 171)) (EndH.ioL [(ka0, .map (mE (fun (x : List (List UInt8)) => .sl 1 (x.map fun x => [.v (str x)])) a0))] (by simp only [delL_cons, delL_nil]; repeat (first | exact he4 | refine Ext.new ?_ _ | refine Ext.set ?_ (by first | omega | (simp [go_sem]; done) | (simp [go_sem]; omega)) _ | refine Ext.del ?_ (by first | omega | (simp [go_sem]; done) | (simp [go_sem]; omega)) | refine Ext.setN ?_ (by simp [go_sem]) _)) (by intro p hp; simp only [List.mem_cons, List.not_mem_nil, or_false] at hp; (try rcases hp with hp); all_goals (subst hp; refine ⟨by omega, by first | with_reducible assumption | rfl | simp -implicitDefEqProofs (maxSteps := 1000000) (disch := omega) [go_sem, t0_4, t1_4, t5_4, t7_4, t11_4, hmL69, hmF69, ob0_4, ob1_4, ob2_4], by repeat (first | exact .v _ | exact NBL.nil | refine NBL.cons ?_ ?_ | refine NB_slm fun _ => ?_ | refine NB_agL ?_ | refine NB_tuL ?_ | refine NBL.app ?_ ?_ | refine NBL.map fun _ => ?_ | exact NB_errI | refine NBo_cL ?_ | refine NBo_mEL fun _ => ?_ | refine NBo_mIL fun _ => ?_ | exact NB_mpL (by omega) | exact NB_pL (by omega))⟩))) (by first | with_reducible rfl | (simp -implicitDefEqProofs (maxSteps := 1000000) (disch := omega) [go_sem, t0_4, t1_4, t5_4, t7_4, t11_4, hmL69, hmF69, ob0_4, ob1_4, ob2_4] <;> omega)) (.same (by repeat (first | exact .v _ | exact NBL.nil | refine NBL.cons ?_ ?_ | refine NB_slm fun _ => ?_ | refine NB_agL ?_ | refine NB_tuL ?_ | refine NBL.app ?_ ?_ | refine NBL.map fun _ => ?_ | exact NB_errI | refine NBo_cL ?_ | refine NBo_mEL fun _ => ?_ | refine NBo_mIL fun _ => ?_ | exact NB_mpL (by omega) | exact NB_pL (by omega)))) hK
  ·intro c6 h
   try simp -implicitDefEqProofs (disch := omega) at c6
   refine IWp_seqF fun cb hc8 => ?_
   refine vcK ?_
   try simp -implicitDefEqProofs (maxSteps := 1000000) (disch := omega) [go_sem, t0_4, t1_4, t5_4, t7_4, t11_4, hmL69, hmF69, ob0_4, ob1_4, ob2_4]
   subst hc8
   refine IWp_cond_i h (by first | with_reducible rfl | (simp -implicitDefEqProofs (maxSteps := 1000000) (disch := omega) [go_sem, t0_4, t1_4, t5_4, t7_4, t11_4, hmL69, hmF69, ob0_4, ob1_4, ob2_4] <;> omega)) rfl ?_ ?_
   ·intro c9 h
    try simp -implicitDefEqProofs (disch := omega) at c9
    refine IWp_seqF fun cb hc10 => ?_
    refine vcK ?_
    have hmD69 := @delI_mE _ (fun (x : List (List UInt8)) => .sl 1 (x.map fun x => [.v (str x)]))
    try dsimp only at hmD69
    try simp -implicitDefEqProofs (maxSteps := 1000000) (disch := omega) [go_sem, t0_4, t1_4, t5_4, t7_4, t11_4, hmL69, hmF69, ob0_4, ob1_4, ob2_4, hmD69]
    subst hc10
    refine IWp_seqF fun cb hc11 => ?_
    refine vcK ?_
    try simp -implicitDefEqProofs (maxSteps := 1000000) (disch := omega) [go_sem, t0_4, t1_4, t5_4, t7_4, t11_4, hmL69, hmF69, ob0_4, ob1_4, ob2_4, hmD69]
    subst hc11
    refine vcK ?_
    simp -implicitDefEqProofs only [go_sem]
    have er := Option.some.inj h
    subst er
    try simp -implicitDefEqProofs (maxSteps := 1000000) (disch := omega) [go_sem, t0_4, t1_4, t5_4, t7_4, t11_4, hmL69, hmF69, ob0_4, ob1_4, ob2_4, hmD69]
    refine retG_fzE (J := setL H [(ka0, .map (mE (fun (x : List (List UInt8)) => .sl 1 (x.map fun x => [.v (str x)])) (mdel a0 a1)))]) (r' := .v (.int .i64 0)) (EndH.ioL [(ka0, .map (mE (fun (x : List (List UInt8)) => .sl 1 (x.map fun x => [.v (str x)])) (mdel a0 a1)))] (by simp only [delL_cons, delL_nil]; repeat (first | exact he4 | refine Ext.new ?_ _ | refine Ext.set ?_ (by first | omega | (simp [go_sem]; done) | (simp [go_sem]; omega)) _ | refine Ext.del ?_ (by first | omega | (simp [go_sem]; done) | (simp [go_sem]; omega)) | refine Ext.setN ?_ (by simp [go_sem]) _)) (by intro p hp; simp only [List.mem_cons, List.not_mem_nil, or_false] at hp; (try rcases hp with hp); all_goals (subst hp; refine ⟨by omega, by first | with_reducible assumption | rfl | simp -implicitDefEqProofs (maxSteps := 1000000) (disch := omega) [go_sem, t0_4, t1_4, t5_4, t7_4, t11_4, hmL69, hmF69, ob0_4, ob1_4, ob2_4, hmD69], by repeat (first | exact .v _ | exact NBL.nil | refine NBL.cons ?_ ?_ | refine NB_slm fun _ => ?_ | refine NB_agL ?_ | refine NB_tuL ?_ | refine NBL.app ?_ ?_ | refine NBL.map fun _ => ?_ | exact NB_errI | refine NBo_cL ?_ | refine NBo_mEL fun _ => ?_ | refine NBo_mIL fun _ => ?_ | exact NB_mpL (by omega) | exact NB_pL (by omega))⟩))) (by first | with_reducible rfl | (simp -implicitDefEqProofs (maxSteps := 1000000) (disch := omega) [go_sem, t0_4, t1_4, t5_4, t7_4, t11_4, hmL69, hmF69, ob0_4, ob1_4, ob2_4, hmD69] <;> omega)) (.same (by repeat (first | exact .v _ | exact NBL.nil | refine NBL.cons ?_ ?_ | refine NB_slm fun _ => ?_ | refine NB_agL ?_ | refine NB_tuL ?_ | refine NBL.app ?_ ?_ | refine NBL.map fun _ => ?_ | exact NB_errI | refine NBo_cL ?_ | refine NBo_mEL fun _ => ?_ | refine NBo_mIL fun _ => ?_ | exact NB_mpL (by omega) | exact NB_pL (by omega)))) hK
   ·intro c9 h
    try simp -implicitDefEqProofs (disch := omega) at c9
    refine vcK ?_
    simp -implicitDefEqProofs only [go_sem]
    subst hc3
    refine IWp_seqF fun cb hc12 => ?_
    refine vcK ?_
    try simp -implicitDefEqProofs (maxSteps := 1000000) (disch := omega) [go_sem, t0_4, t1_4, t5_4, t7_4, t11_4, hmL69, hmF69, ob0_4, ob1_4, ob2_4]
    obtain ⟨x13, hx13, h⟩ := bind_some' h
    refine ICalls.eqA (args' := [.sl 1 (((mget a0 a1).getD []).map fun x => [.v (str x)])]) (by first | with_reducible rfl | (simp -implicitDefEqProofs (maxSteps := 1000000) (disch := omega) [go_sem, t0_4, t1_4, t5_4, t7_4, t11_4, hmL69, hmF69, ob0_4, ob1_4, ob2_4] <;> omega)) (F56r_ok ((mget a0 a1).getD []) hx13 ?_)
    try simp -implicitDefEqProofs (maxSteps := 1000000) (disch := omega) [go_sem, t0_4, t1_4, t5_4, t7_4, t11_4, hmL69, hmF69, ob0_4, ob1_4, ob2_4]
    obtain ⟨x15, hx15, h⟩ := bind_some' h
    refine ICalls.eqA (args' := [.os H4.next x13.length, .fn (.func 80) [] [.p H.next 0]]) (by first | with_reducible rfl | (simp -implicitDefEqProofs (maxSteps := 1000000) (disch := omega) [go_sem, t0_4, t1_4, t5_4, t7_4, t11_4, hmL69, hmF69, ob0_4, ob1_4, ob2_4] <;> omega)) (F79_ok x13 a2 H4.next H.next (by first | with_reducible assumption | simp -implicitDefEqProofs (maxSteps := 1000000) (disch := omega) [go_sem, t0_4, t1_4, t5_4, t7_4, t11_4, hmL69, hmF69, ob0_4, ob1_4, ob2_4]) (by first | with_reducible assumption | simp -implicitDefEqProofs (maxSteps := 1000000) (disch := omega) [go_sem, t0_4, t1_4, t5_4, t7_4, t11_4, hmL69, hmF69, ob0_4, ob1_4, ob2_4]) hx15 ?_)
    have hmS69 := fun m k v => setI_mE (fun (x : List (List UInt8)) => .sl 1 (x.map fun x => [.v (str x)])) m k v
    try dsimp only at hmS69
    have hmi16 := hmS69 a0 a1 x15
    try simp -implicitDefEqProofs at hmi16
    try simp -implicitDefEqProofs (maxSteps := 1000000) (disch := omega) [go_sem, t0_4, t1_4, t5_4, t7_4, t11_4, hmL69, hmF69, ob0_4, ob1_4, ob2_4, hmS69, hmi16]
    subst hc12
    refine IWp_seqF fun cb hc17 => ?_
    refine vcK ?_
    try simp -implicitDefEqProofs (maxSteps := 1000000) (disch := omega) [go_sem, t0_4, t1_4, t5_4, t7_4, t11_4, hmL69, hmF69, ob0_4, ob1_4, ob2_4, hmS69, hmi16]
    subst hc17
    refine vcK ?_
    simp -implicitDefEqProofs only [go_sem]
    have er := Option.some.inj h
    subst er
    try simp -implicitDefEqProofs (maxSteps := 1000000) (disch := omega) [go_sem, t0_4, t1_4, t5_4, t7_4, t11_4, hmL69, hmF69, ob0_4, ob1_4, ob2_4, hmS69, hmi16]
    refine retG_fzE (J := setL H [(ka0, .map (mE (fun (x : List (List UInt8)) => .sl 1 (x.map fun x => [.v (str x)])) (mset a0 a1 x15)))]) (r' := .v (.int .i64 0)) (EndH.ioL [(ka0, .map (mE (fun (x : List (List UInt8)) => .sl 1 (x.map fun x => [.v (str x)])) (mset a0 a1 x15)))] (by simp only [delL_cons, delL_nil]; repeat (first | exact he4 | refine Ext.new ?_ _ | refine Ext.set ?_ (by first | omega | (simp [go_sem]; done) | (simp [go_sem]; omega)) _ | refine Ext.del ?_ (by first | omega | (simp [go_sem]; done) | (simp [go_sem]; omega)) | refine Ext.setN ?_ (by simp [go_sem]) _)) (by intro p hp; simp only [List.mem_cons, List.not_mem_nil, or_false] at hp; (try rcases hp with hp); all_goals (subst hp; refine ⟨by omega, by first | with_reducible assumption | rfl | simp -implicitDefEqProofs (maxSteps := 1000000) (disch := omega) [go_sem, t0_4, t1_4, t5_4, t7_4, t11_4, hmL69, hmF69, ob0_4, ob1_4, ob2_4, hmS69, hmi16], by repeat (first | exact .v _ | exact NBL.nil | refine NBL.cons ?_ ?_ | refine NB_slm fun _ => ?_ | refine NB_agL ?_ | refine NB_tuL ?_ | refine NBL.app ?_ ?_ | refine NBL.map fun _ => ?_ | exact NB_errI | refine NBo_cL ?_ | refine NBo_mEL fun _ => ?_ | refine NBo_mIL fun _ => ?_ | exact NB_mpL (by omega) | exact NB_pL (by omega))⟩))) (by first | with_reducible rfl | (simp -implicitDefEqProofs (maxSteps := 1000000) (disch := omega) [go_sem, t0_4, t1_4, t5_4, t7_4, t11_4, hmL69, hmF69, ob0_4, ob1_4, ob2_4, hmS69, hmi16] <;> omega)) (.same (by repeat (first | exact .v _ | exact NBL.nil | refine NBL.cons ?_ ?_ | refine NB_slm fun _ => ?_ | refine NB_agL ?_ | refine NB_tuL ?_ | refine NBL.app ?_ ?_ | refine NBL.map fun _ => ?_ | exact NB_errI | refine NBo_cL ?_ | refine NBo_mEL fun _ => ?_ | refine NBo_mIL fun _ => ?_ | exact NB_mpL (by omega) | exact NB_pL (by omega)))) hK
 ·refine IWp_seqF fun cb hc18 => ?_
  refine vcK ?_
  try simp -implicitDefEqProofs (maxSteps := 1000000) (disch := omega) [go_sem, oka0, hmL69, hmF69]
  refine splitG_f h (by first | with_reducible rfl | (simp -implicitDefEqProofs (maxSteps := 1000000) (disch := omega) [go_sem, oka0, hmL69, hmF69] <;> omega)) ?_ ?_
  ·intro c28 h
   try simp -implicitDefEqProofs (disch := omega) at c28
   try simp -implicitDefEqProofs (maxSteps := 1000000) (disch := omega) [go_sem, oka0, hmL69, hmF69]
   subst hc18
   refine IWp_cond_i h (by first | with_reducible rfl | (simp -implicitDefEqProofs (maxSteps := 1000000) (disch := omega) [go_sem, oka0, hmL69, hmF69] <;> omega)) rfl ?_ ?_
   ·intro c19 h
    try simp -implicitDefEqProofs (disch := omega) at c19
    refine vcK ?_
    simp -implicitDefEqProofs only [go_sem]
    refine hc4 _ _ ?_
    refine .same ⟨(decide (((((mget a0 a1).getD []).length : Int)) = 0)), by repeat (first | exact (Ext.delB (Ext.refl hw) ka0) | refine Ext.new ?_ _ | refine Ext.set ?_ (by first | omega | (simp [go_sem]; done) | (simp [go_sem]; omega)) _ | refine Ext.del ?_ (by first | omega | (simp [go_sem]; done) | (simp [go_sem]; omega)) | refine Ext.setN ?_ (by simp [go_sem]) _), by first | with_reducible rfl | with_reducible assumption | omega | (simp -implicitDefEqProofs (maxSteps := 1000000) (disch := omega) [go_sem, oka0, hmL69, hmF69] <;> omega), by first | with_reducible rfl | with_reducible assumption | (simp -implicitDefEqProofs (maxSteps := 1000000) (disch := omega) [go_sem, oka0, hmL69, hmF69] <;> omega), by first | with_reducible rfl | with_reducible assumption | (simp -implicitDefEqProofs (maxSteps := 1000000) (disch := omega) [go_sem, oka0, hmL69, hmF69] <;> omega), by first | with_reducible rfl | with_reducible assumption | (simp -implicitDefEqProofs (maxSteps := 1000000) (disch := omega) [go_sem, oka0, hmL69, hmF69] <;> omega), by first | with_reducible rfl | with_reducible assumption | (simp -implicitDefEqProofs (maxSteps := 1000000) (disch := omega) [go_sem, oka0, hmL69, hmF69] <;> omega), by first | with_reducible rfl | with_reducible assumption | (simp -implicitDefEqProofs (maxSteps := 1000000) (disch := omega) [go_sem, oka0, hmL69, hmF69] <;> omega), by first | with_reducible rfl | with_reducible assumption | (simp -implicitDefEqProofs (maxSteps := 1000000) (disch := omega) [go_sem, oka0, hmL69, hmF69] <;> omega), by first | with_reducible rfl | with_reducible assumption | (simp -implicitDefEqProofs (maxSteps := 1000000) (disch := omega) [go_sem, oka0, hmL69, hmF69] <;> omega), by first | with_reducible rfl | with_reducible assumption | (simp -implicitDefEqProofs (maxSteps := 1000000) (disch := omega) [go_sem, oka0, hmL69, hmF69] <;> omega), h⟩
   ·intro c19 h
    try simp -implicitDefEqProofs (disch := omega) at c19
    refine IWp_seqF fun cb hc20 => ?_
    refine vcK ?_
    try simp -implicitDefEqProofs (maxSteps := 1000000) (disch := omega) [go_sem, oka0, hmL69, hmF69]
    obtain ⟨x21, hx21, h⟩ := bind_some' h
    refine ICalls.eqA (args' := [.sl 1 (a2.map fun x => [.v (str x)])]) (by first | with_reducible rfl | (simp -implicitDefEqProofs (maxSteps := 1000000) (disch := omega) [go_sem, oka0, hmL69, hmF69] <;> omega)) (F76_ok a2 hx21 ?_)
    try simp -implicitDefEqProofs (maxSteps := 1000000) (disch := omega) [go_sem, oka0, hmL69, hmF69]
    subst hc20
    refine IWp_cond_i h (by first | with_reducible rfl | (simp -implicitDefEqProofs (maxSteps := 1000000) (disch := omega) [go_sem, oka0, hmL69, hmF69] <;> omega)) rfl ?_ ?_
    ·intro c22 h
     try simp -implicitDefEqProofs (disch := omega) at c22
     refine vcK ?_
     simp -implicitDefEqProofs only [go_sem]
     refine hc4 _ _ ?_
     refine .same ⟨x21, by repeat (first | exact (Ext.delB (Ext.refl hw) ka0) | refine Ext.new ?_ _ | refine Ext.set ?_ (by first | omega | (simp [go_sem]; done) | (simp [go_sem]; omega)) _ | refine Ext.del ?_ (by first | omega | (simp [go_sem]; done) | (simp [go_sem]; omega)) | refine Ext.setN ?_ (by simp [go_sem]) _), by first | with_reducible rfl | with_reducible assumption | omega | (simp -implicitDefEqProofs (maxSteps := 1000000) (disch := omega) [go_sem, oka0, hmL69, hmF69] <;> omega), by first | with_reducible rfl | with_reducible assumption | (simp -implicitDefEqProofs (maxSteps := 1000000) (disch := omega) [go_sem, oka0, hmL69, hmF69] <;> omega), by first | with_reducible rfl | with_reducible assumption | (simp -implicitDefEqProofs (maxSteps := 1000000) (disch := omega) [go_sem, oka0, hmL69, hmF69] <;> omega), by first | with_reducible rfl | with_reducible assumption | (simp -implicitDefEqProofs (maxSteps := 1000000) (disch := omega) [go_sem, oka0, hmL69, hmF69] <;> omega), by first | with_reducible rfl | with_reducible assumption | (simp -implicitDefEqProofs (maxSteps := 1000000) (disch := omega) [go_sem, oka0, hmL69, hmF69] <;> omega), by first | with_reducible rfl | with_reducible assumption | (simp -implicitDefEqProofs (maxSteps := 1000000) (disch := omega) [go_sem, oka0, hmL69, hmF69] <;> omega), by first | with_reducible rfl | with_reducible assumption | (simp -implicitDefEqProofs (maxSteps := 1000000) (disch := omega) [go_sem, oka0, hmL69, hmF69] <;> omega), by first | with_reducible rfl | with_reducible assumption | (simp -implicitDefEqProofs (maxSteps := 1000000) (disch := omega) [go_sem, oka0, hmL69, hmF69] <;> omega), by first | with_reducible rfl | with_reducible assumption | (simp -implicitDefEqProofs (maxSteps := 1000000) (disch := omega) [go_sem, oka0, hmL69, hmF69] <;> omega), h⟩
    ·intro c22 h
     try simp -implicitDefEqProofs (disch := omega) at c22
     refine vcK ?_
     try simp -implicitDefEqProofs (maxSteps := 1000000) (disch := omega) [go_sem, oka0, hmL69, hmF69]
     obtain ⟨x23, hx23, h⟩ := bind_some' h
     refine ICalls.eqA (args' := [.sl 1 (a2.map fun x => [.v (str x)]), .fn (.func 77) [] [.p (H.next + 1) 0]]) (by first | with_reducible rfl | (simp -implicitDefEqProofs (maxSteps := 1000000) (disch := omega) [go_sem, oka0, hmL69, hmF69] <;> omega)) (F46s2_ok a2 ((mget a0 a1).getD []) (H.next + 1) (by first | with_reducible assumption | simp -implicitDefEqProofs (maxSteps := 1000000) (disch := omega) [go_sem, oka0, hmL69, hmF69]) hx23 ?_)
     try simp -implicitDefEqProofs (maxSteps := 1000000) (disch := omega) [go_sem, oka0, hmL69, hmF69]
     refine hc4 _ _ ?_
     refine .same ⟨(!x23), by repeat (first | exact (Ext.delB (Ext.refl hw) ka0) | refine Ext.new ?_ _ | refine Ext.set ?_ (by first | omega | (simp [go_sem]; done) | (simp [go_sem]; omega)) _ | refine Ext.del ?_ (by first | omega | (simp [go_sem]; done) | (simp [go_sem]; omega)) | refine Ext.setN ?_ (by simp [go_sem]) _), by first | with_reducible rfl | with_reducible assumption | omega | (simp -implicitDefEqProofs (maxSteps := 1000000) (disch := omega) [go_sem, oka0, hmL69, hmF69] <;> omega), by first | with_reducible rfl | with_reducible assumption | (simp -implicitDefEqProofs (maxSteps := 1000000) (disch := omega) [go_sem, oka0, hmL69, hmF69] <;> omega), by first | with_reducible rfl | with_reducible assumption | (simp -implicitDefEqProofs (maxSteps := 1000000) (disch := omega) [go_sem, oka0, hmL69, hmF69] <;> omega), by first | with_reducible rfl | with_reducible assumption | (simp -implicitDefEqProofs (maxSteps := 1000000) (disch := omega) [go_sem, oka0, hmL69, hmF69] <;> omega), by first | with_reducible rfl | with_reducible assumption | (simp -implicitDefEqProofs (maxSteps := 1000000) (disch := omega) [go_sem, oka0, hmL69, hmF69] <;> omega), by first | with_reducible rfl | with_reducible assumption | (simp -implicitDefEqProofs (maxSteps := 1000000) (disch := omega) [go_sem, oka0, hmL69, hmF69] <;> omega), by first | with_reducible rfl | with_reducible assumption | (simp -implicitDefEqProofs (maxSteps := 1000000) (disch := omega) [go_sem, oka0, hmL69, hmF69] <;> omega), by first | with_reducible rfl | with_reducible assumption | (simp -implicitDefEqProofs (maxSteps := 1000000) (disch := omega) [go_sem, oka0, hmL69, hmF69] <;> omega), by first | with_reducible rfl | with_reducible assumption | (simp -implicitDefEqProofs (maxSteps := 1000000) (disch := omega) [go_sem, oka0, hmL69, hmF69] <;> omega), h⟩
  ·intro c28 h
   try simp -implicitDefEqProofs (disch := omega) at c28
   try simp -implicitDefEqProofs (maxSteps := 1000000) (disch := omega) [go_sem, oka0, hmL69, hmF69]
   subst hc18
   refine IWp_cond_f (by first | with_reducible rfl | (simp -implicitDefEqProofs (maxSteps := 1000000) (disch := omega) [go_sem, oka0, hmL69, hmF69] <;> omega)) rfl ?_
   refine IWp_seqF fun cb hc24 => ?_
   refine vcK ?_
   try simp -implicitDefEqProofs (maxSteps := 1000000) (disch := omega) [go_sem, oka0, hmL69, hmF69]
   obtain ⟨x25, hx25, h⟩ := bind_some' h
   refine ICalls.eqA (args' := [.sl 1 (a2.map fun x => [.v (str x)])]) (by first | with_reducible rfl | (simp -implicitDefEqProofs (maxSteps := 1000000) (disch := omega) [go_sem, oka0, hmL69, hmF69] <;> omega)) (F76_ok a2 hx25 ?_)
   try simp -implicitDefEqProofs (maxSteps := 1000000) (disch := omega) [go_sem, oka0, hmL69, hmF69]
   subst hc24
   refine IWp_cond_i h (by first | with_reducible rfl | (simp -implicitDefEqProofs (maxSteps := 1000000) (disch := omega) [go_sem, oka0, hmL69, hmF69] <;> omega)) rfl ?_ ?_
   ·intro c26 h
    try simp -implicitDefEqProofs (disch := omega) at c26
    refine vcK ?_
    simp -implicitDefEqProofs only [go_sem]
    refine hc4 _ _ ?_
    refine .same ⟨x25, by repeat (first | exact (Ext.delB (Ext.refl hw) ka0) | refine Ext.new ?_ _ | refine Ext.set ?_ (by first | omega | (simp [go_sem]; done) | (simp [go_sem]; omega)) _ | refine Ext.del ?_ (by first | omega | (simp [go_sem]; done) | (simp [go_sem]; omega)) | refine Ext.setN ?_ (by simp [go_sem]) _), by first | with_reducible rfl | with_reducible assumption | omega | (simp -implicitDefEqProofs (maxSteps := 1000000) (disch := omega) [go_sem, oka0, hmL69, hmF69] <;> omega), by first | with_reducible rfl | with_reducible assumption | (simp -implicitDefEqProofs (maxSteps := 1000000) (disch := omega) [go_sem, oka0, hmL69, hmF69] <;> omega), by first | with_reducible rfl | with_reducible assumption | (simp -implicitDefEqProofs (maxSteps := 1000000) (disch := omega) [go_sem, oka0, hmL69, hmF69] <;> omega), by first | with_reducible rfl | with_reducible assumption | (simp -implicitDefEqProofs (maxSteps := 1000000) (disch := omega) [go_sem, oka0, hmL69, hmF69] <;> omega), by first | with_reducible rfl | with_reducible assumption | (simp -implicitDefEqProofs (maxSteps := 1000000) (disch := omega) [go_sem, oka0, hmL69, hmF69] <;> omega), by first | with_reducible rfl | with_reducible assumption | (simp -implicitDefEqProofs (maxSteps := 1000000) (disch := omega) [go_sem, oka0, hmL69, hmF69] <;> omega), by first | with_reducible rfl | with_reducible assumption | (simp -implicitDefEqProofs (maxSteps := 1000000) (disch := omega) [go_sem, oka0, hmL69, hmF69] <;> omega), by first | with_reducible rfl | with_reducible assumption | (simp -implicitDefEqProofs (maxSteps := 1000000) (disch := omega) [go_sem, oka0, hmL69, hmF69] <;> omega), by first | with_reducible rfl | with_reducible assumption | (simp -implicitDefEqProofs (maxSteps := 1000000) (disch := omega) [go_sem, oka0, hmL69, hmF69] <;> omega), h⟩
   ·intro c26 h
    try simp -implicitDefEqProofs (disch := omega) at c26
    refine vcK ?_
    try simp -implicitDefEqProofs (maxSteps := 1000000) (disch := omega) [go_sem, oka0, hmL69, hmF69]
    obtain ⟨x27, hx27, h⟩ := bind_some' h
    refine ICalls.eqA (args' := [.sl 1 (a2.map fun x => [.v (str x)]), .fn (.func 77) [] [.p (H.next + 1) 0]]) (by first | with_reducible rfl | (simp -implicitDefEqProofs (maxSteps := 1000000) (disch := omega) [go_sem, oka0, hmL69, hmF69] <;> omega)) (F46s2_ok a2 ((mget a0 a1).getD []) (H.next + 1) (by first | with_reducible assumption | simp -implicitDefEqProofs (maxSteps := 1000000) (disch := omega) [go_sem, oka0, hmL69, hmF69]) hx27 ?_)
    try simp -implicitDefEqProofs (maxSteps := 1000000) (disch := omega) [go_sem, oka0, hmL69, hmF69]
    refine hc4 _ _ ?_
    refine .same ⟨(!x27), by repeat (first | exact (Ext.delB (Ext.refl hw) ka0) | refine Ext.new ?_ _ | refine Ext.set ?_ (by first | omega | (simp [go_sem]; done) | (simp [go_sem]; omega)) _ | refine Ext.del ?_ (by first | omega | (simp [go_sem]; done) | (simp [go_sem]; omega)) | refine Ext.setN ?_ (by simp [go_sem]) _), by first | with_reducible rfl | with_reducible assumption | omega | (simp -implicitDefEqProofs (maxSteps := 1000000) (disch := omega) [go_sem, oka0, hmL69, hmF69] <;> omega), by first | with_reducible rfl | with_reducible assumption | (simp -implicitDefEqProofs (maxSteps := 1000000) (disch := omega) [go_sem, oka0, hmL69, hmF69] <;> omega), by first | with_reducible rfl | with_reducible assumption | (simp -implicitDefEqProofs (maxSteps := 1000000) (disch := omega) [go_sem, oka0, hmL69, hmF69] <;> omega), by first | with_reducible rfl | with_reducible assumption | (simp -implicitDefEqProofs (maxSteps := 1000000) (disch := omega) [go_sem, oka0, hmL69, hmF69] <;> omega), by first | with_reducible rfl | with_reducible assumption | (simp -implicitDefEqProofs (maxSteps := 1000000) (disch := omega) [go_sem, oka0, hmL69, hmF69] <;> omega), by first | with_reducible rfl | with_reducible assumption | (simp -implicitDefEqProofs (maxSteps := 1000000) (disch := omega) [go_sem, oka0, hmL69, hmF69] <;> omega), by first | with_reducible rfl | with_reducible assumption | (simp -implicitDefEqProofs (maxSteps := 1000000) (disch := omega) [go_sem, oka0, hmL69, hmF69] <;> omega), by first | with_reducible rfl | with_reducible assumption | (simp -implicitDefEqProofs (maxSteps := 1000000) (disch := omega) [go_sem, oka0, hmL69, hmF69] <;> omega), by first | with_reducible rfl | with_reducible assumption | (simp -implicitDefEqProofs (maxSteps := 1000000) (disch := omega) [go_sem, oka0, hmL69, hmF69] <;> omega), h⟩

/-! cardcase/entry.replace -/

noncomputable def F39 (a0 : List (List UInt8 × (List (List UInt8)))) (a1 : List UInt8) (a2 : List (List UInt8)) : Option (Int × (List (List UInt8 × (List (List UInt8))))) :=
 (F56 a2).bind fun (x3 : (List (List UInt8))) => some (0, mset a0 a1 x3)

set_option maxHeartbeats 8000000 in
set_option pp.deepTerms false in
set_option maxRecDepth 60000 in
theorem F39_ok {H : IHeap} {K : IEnd → IHeap → Prop} (a0 : List (List UInt8 × (List (List UInt8)))) (a1 : List UInt8) (a2 : List (List UInt8)) (ka0 : Nat) (oka0 : H.obj ka0 = some (.map (mE (fun (x : List (List UInt8)) => .sl 1 (x.map fun x => [.v (str x)])) a0))) {r : Int × (List (List UInt8 × (List (List UInt8))))} (h : F39 a0 a1 a2 = some r) (hK : K (.ret (.v (.int .i64 r.1))) (setL H [(ka0, .map (mE (fun (x : List (List UInt8)) => .sl 1 (x.map fun x => [.v (str x)])) r.2))])) : ICalls prog 39 [.mp ka0, .v (str a1), .sl 1 (a2.map fun x => [.v (str x)])] H K := by
 refine ICalls_iwp (N := 11) func39 (by kernel_rfl) rfl (by kernel_rfl) (by kernel_rfl) fun cb hcb hw hbd hnb => ?_
 clear hbd hnb
 subst hcb
 unfold F39 at h
 have hka0 : ka0 < H.next := Nat.lt_of_not_le fun q => by rw [hw _ q] at oka0; cases oka0
 refine IWp_seqF fun cb hc1 => ?_
 refine vcK ?_
 try simp -implicitDefEqProofs (maxSteps := 1000000) (disch := omega) [go_sem, oka0]
 subst hc1
 refine IWp_seqF fun cb hc2 => ?_
 refine vcK ?_
 try simp -implicitDefEqProofs (maxSteps := 1000000) (disch := omega) [go_sem, oka0]
 obtain ⟨x3, hx3, h⟩ := bind_some' h
 refine ICalls.eqA (args' := [.sl 1 (a2.map fun x => [.v (str x)])]) (by first | with_reducible rfl | (simp -implicitDefEqProofs (maxSteps := 1000000) (disch := omega) [go_sem, oka0] <;> omega)) (F56_ok a2 hx3 ?_)
 have hmS69 := fun m k v => setI_mE (fun (x : List (List UInt8)) => .sl 1 (x.map fun x => [.v (str x)])) m k v
 try dsimp only at hmS69
 have hmi4 := hmS69 a0 a1 x3
 try simp -implicitDefEqProofs at hmi4
 try simp -implicitDefEqProofs (maxSteps := 1000000) (disch := omega) [go_sem, oka0, hmS69, hmi4]
 subst hc2
 refine IWp_seqF fun cb hc5 => ?_
 refine vcK ?_
 try simp -implicitDefEqProofs (maxSteps := 1000000) (disch := omega) [go_sem, oka0, hmS69, hmi4]
 subst hc5
 refine vcK ?_
 simp -implicitDefEqProofs only [go_sem]
 have er := Option.some.inj h
 subst er
 try simp -implicitDefEqProofs (maxSteps := 1000000) (disch := omega) [go_sem, oka0, hmS69, hmi4]
 refine retG_fzE (J := setL H [(ka0, .map (mE (fun (x : List (List UInt8)) => .sl 1 (x.map fun x => [.v (str x)])) (mset a0 a1 x3)))]) (r' := .v (.int .i64 0)) (EndH.ioL [(ka0, .map (mE (fun (x : List (List UInt8)) => .sl 1 (x.map fun x => [.v (str x)])) (mset a0 a1 x3)))] (by simp only [delL_cons, delL_nil]; repeat (first | exact (Ext.delB (Ext.refl hw) ka0) | refine Ext.new ?_ _ | refine Ext.set ?_ (by first | omega | (simp [go_sem]; done) | (simp [go_sem]; omega)) _ | refine Ext.del ?_ (by first | omega | (simp [go_sem]; done) | (simp [go_sem]; omega)) | refine Ext.setN ?_ (by simp [go_sem]) _)) (by intro p hp; simp only [List.mem_cons, List.not_mem_nil, or_false] at hp; (try rcases hp with hp); all_goals (subst hp; refine ⟨by omega, by first | with_reducible assumption | rfl | simp -implicitDefEqProofs (maxSteps := 1000000) (disch := omega) [go_sem, oka0, hmS69, hmi4], by repeat (first | exact .v _ | exact NBL.nil | refine NBL.cons ?_ ?_ | refine NB_slm fun _ => ?_ | refine NB_agL ?_ | refine NB_tuL ?_ | refine NBL.app ?_ ?_ | refine NBL.map fun _ => ?_ | exact NB_errI | refine NBo_cL ?_ | refine NBo_mEL fun _ => ?_ | refine NBo_mIL fun _ => ?_ | exact NB_mpL (by omega) | exact NB_pL (by omega))⟩))) (by first | with_reducible rfl | (simp -implicitDefEqProofs (maxSteps := 1000000) (disch := omega) [go_sem, oka0, hmS69, hmi4] <;> omega)) (.same (by repeat (first | exact .v _ | exact NBL.nil | refine NBL.cons ?_ ?_ | refine NB_slm fun _ => ?_ | refine NB_agL ?_ | refine NB_tuL ?_ | refine NBL.app ?_ ?_ | refine NBL.map fun _ => ?_ | exact NB_errI | refine NBo_cL ?_ | refine NBo_mEL fun _ => ?_ | refine NBo_mIL fun _ => ?_ | exact NB_mpL (by omega) | exact NB_pL (by omega)))) hK

/-! cardcase/entry.Do -/

noncomputable def F14_k14 (v17 : List S50) : Option ((List S50) × Int) :=
 some (v17, 0)

noncomputable def F14_k27 (v16 : Int) (v28 : List (List UInt8 × (List (List UInt8)))) : Option (((List S50) × Int) ⊕ ((List S50) ⊕ ((List S50) × Int))) :=
 (F42 v28).bind fun (x30 : (List S50) × Int) => if ¬ x30.2 = 0 then (some (.inr (.inr ([], x30.2)))) else (some (.inl ((x30.1, IntKind.i64.wrap (v16 + 1)))))

noncomputable def F14_b14 (a1 : List S48) (v15 : List S50) (v16 : Int) : Option (((List S50) × Int) ⊕ ((List S50) ⊕ ((List S50) × Int))) :=
 if v16 < (a1.length : Int) then (gd (0 ≤ v16 ∧ v16 < a1.length) ((F40 v15).bind fun (x26 : (List (List UInt8 × (List (List UInt8))))) => if (a1.getD v16.toNat S48.zero).fKind = 1 then ((F41 ((a1.getD v16.toNat S48.zero).fName)).bind fun (x37 : (List UInt8)) => (F37 x26 x37 ((a1.getD v16.toNat S48.zero).fValues)).bind fun (x38 : Int × (List (List UInt8 × (List (List UInt8))))) => if ¬ x38.1 = 0 then (some (.inr (.inr ([], x38.1)))) else (F14_k27 v16 x38.2)) else if (a1.getD v16.toNat S48.zero).fKind = 2 then ((F41 ((a1.getD v16.toNat S48.zero).fName)).bind fun (x43 : (List UInt8)) => (F38 x26 x43 ((a1.getD v16.toNat S48.zero).fValues)).bind fun (x44 : Int × (List (List UInt8 × (List (List UInt8))))) => if ¬ x44.1 = 0 then (some (.inr (.inr ([], x44.1)))) else (F14_k27 v16 x44.2)) else if (a1.getD v16.toNat S48.zero).fKind = 3 then ((F41 ((a1.getD v16.toNat S48.zero).fName)).bind fun (x49 : (List UInt8)) => (F39 x26 x49 ((a1.getD v16.toNat S48.zero).fValues)).bind fun (x50 : Int × (List (List UInt8 × (List (List UInt8))))) => if ¬ x50.1 = 0 then (some (.inr (.inr ([], x50.1)))) else (F14_k27 v16 x50.2)) else none)) else (some (.inr (.inl v15)))

noncomputable def F14 (a0 : List S50) (a1 : List S48) : Option ((List S50) × Int) :=
 (F17 a0).bind fun (x4 : Int) => if ¬ x4 = 0 then (some ([], 2)) else ((F35 a1).bind fun (x6 : Bool) => if ¬ (x6 = true) then (some ([], 2)) else ((F28 a0).bind fun (x11 : (List S50)) => (loopO (fun (s : (List S50) × Int) => F14_b14 a1 s.1 s.2) (x11, 0)).bind fun y => Sum.elim (fun (e : (List S50)) => F14_k14 e) (fun (q : (List S50) × Int) => some q) y))

set_option maxHeartbeats 8000000 in
set_option pp.deepTerms false in
set_option maxRecDepth 60000 in
theorem F14_ok {H : IHeap} {K : IEnd → IHeap → Prop} (a0 : List S50) (a1 : List S48) {r : (List S50) × Int} (h : F14 a0 a1 = some r) (hK : K (.ret (.tu [.sl 2 (r.1.map fun x => [.v (str x.fName), .sl 1 (x.fValues.map fun x => [.v (str x)])]), .v (.int .i64 r.2)])) H) : ICalls prog 14 [.sl 2 (a0.map fun x => [.v (str x.fName), .sl 1 (x.fValues.map fun x => [.v (str x)])]), .sl 3 (a1.map fun x => [.v (.int .i64 x.fKind), .v (str x.fName), .sl 1 (x.fValues.map fun x => [.v (str x)])])] H K := by
 refine ICalls_iwp (N := 58) func14 (by kernel_rfl) rfl (by kernel_rfl) (by kernel_rfl) fun cb hcb hw hbd hnb => ?_
 clear hbd hnb
 subst hcb
 unfold F14 at h
 refine IWp_seqF fun cb hc1 => ?_
 refine vcK ?_
 try simp -implicitDefEqProofs (maxSteps := 1000000) (disch := omega) [go_sem, bdP]
 subst hc1
 refine IWp_seqF fun cb hc2 => ?_
 refine IWp_seqF fun cb hc3 => ?_
 refine vcK ?_
 try simp -implicitDefEqProofs (maxSteps := 1000000) (disch := omega) [go_sem, bdP]
 obtain ⟨x4, hx4, h⟩ := bind_some' h
 refine ICalls.eqA (args' := [.sl 2 (a0.map fun x => [.v (str x.fName), .sl 1 (x.fValues.map fun x => [.v (str x)])])]) (by first | with_reducible rfl | (simp -implicitDefEqProofs (maxSteps := 1000000) (disch := omega) [go_sem, bdP] <;> omega)) (F17_ok a0 hx4 ?_)
 try simp -implicitDefEqProofs (maxSteps := 1000000) (disch := omega) [go_sem, bdP]
 refine splitG_f h (by first | with_reducible rfl | (simp -implicitDefEqProofs (maxSteps := 1000000) (disch := omega) [go_sem, bdP] <;> omega)) ?_ ?_
 ·intro c54 h
  try simp -implicitDefEqProofs (disch := omega) at c54
  try simp -implicitDefEqProofs (maxSteps := 1000000) (disch := omega) [go_sem, bdP]
  subst hc3
  refine IWp_cond_t (by first | with_reducible rfl | (simp -implicitDefEqProofs (maxSteps := 1000000) (disch := omega) [go_sem, bdP] <;> omega)) rfl ?_
  refine IWp_seqF fun cb hc5 => ?_
  refine vcK ?_
  try simp -implicitDefEqProofs (maxSteps := 1000000) (disch := omega) [go_sem, bdP]
  subst hc5
  refine IWp.gh (Gh.slotN 4 2 (by simp -implicitDefEqProofs (maxSteps := 1000000) (disch := omega) [go_sem, bdP])) ?_
  refine vcK ?_
  simp -implicitDefEqProofs only [go_sem]
  have er := Option.some.inj h
  subst er
  try simp -implicitDefEqProofs (maxSteps := 1000000) (disch := omega) [go_sem, bdP]
  refine retG_pureA (Ext.refl hw) hK (e := by first | with_reducible rfl | (simp -implicitDefEqProofs (maxSteps := 1000000) (disch := omega) [go_sem, bdP] <;> omega))
 ·intro c54 h
  try simp -implicitDefEqProofs (disch := omega) at c54
  try simp -implicitDefEqProofs (maxSteps := 1000000) (disch := omega) [go_sem, bdP]
  obtain ⟨x6, hx6, h⟩ := bind_some' h
  refine ICalls.eqA (args' := [.sl 3 (a1.map fun x => [.v (.int .i64 x.fKind), .v (str x.fName), .sl 1 (x.fValues.map fun x => [.v (str x)])]), .v (.func (.func 36) #[] #[])]) (by first | with_reducible rfl | (simp -implicitDefEqProofs (maxSteps := 1000000) (disch := omega) [go_sem, bdP] <;> omega)) (F35_ok a1 hx6 ?_)
  try simp -implicitDefEqProofs (maxSteps := 1000000) (disch := omega) [go_sem, bdP]
  subst hc3
  refine IWp_cond_i h (by first | with_reducible rfl | (simp -implicitDefEqProofs (maxSteps := 1000000) (disch := omega) [go_sem, bdP] <;> omega)) rfl ?_ ?_
  ·intro c7 h
   try simp -implicitDefEqProofs (disch := omega) at c7
   refine IWp_seqF fun cb hc8 => ?_
   refine vcK ?_
   try simp -implicitDefEqProofs (maxSteps := 1000000) (disch := omega) [go_sem, bdP]
   subst hc8
   refine IWp.gh (Gh.slotN 4 2 (by simp -implicitDefEqProofs (maxSteps := 1000000) (disch := omega) [go_sem, bdP])) ?_
   refine vcK ?_
   simp -implicitDefEqProofs only [go_sem]
   have er := Option.some.inj h
   subst er
   try simp -implicitDefEqProofs (maxSteps := 1000000) (disch := omega) [go_sem, bdP]
   refine retG_pureA (Ext.refl hw) hK (e := by first | with_reducible rfl | (simp -implicitDefEqProofs (maxSteps := 1000000) (disch := omega) [go_sem, bdP] <;> omega))
  ·intro c7 h
   try simp -implicitDefEqProofs (disch := omega) at c7
   refine vcK ?_
   simp -implicitDefEqProofs only [go_sem]
   subst hc2
   refine IWp_seqF fun cb hc9 => ?_
   refine vcK ?_
   try simp -implicitDefEqProofs (maxSteps := 1000000) (disch := omega) [go_sem, bdP]
   subst hc9
   refine IWp_seqF fun cb hc10 => ?_
   refine vcK ?_
   try simp -implicitDefEqProofs (maxSteps := 1000000) (disch := omega) [go_sem, bdP]
   obtain ⟨x11, hx11, h⟩ := bind_some' h
   refine ICalls.eqA (args' := [.sl 2 (a0.map fun x => [.v (str x.fName), .sl 1 (x.fValues.map fun x => [.v (str x)])])]) (by first | with_reducible rfl | (simp -implicitDefEqProofs (maxSteps := 1000000) (disch := omega) [go_sem, bdP] <;> omega)) (F28_ok a0 hx11 ?_)
   try simp -implicitDefEqProofs (maxSteps := 1000000) (disch := omega) [go_sem, bdP]
   subst hc10
   refine IWp_seqF fun cb hc12 => ?_
   refine IWp_seqF fun cb hc13 => ?_
   refine vcK ?_
   try simp -implicitDefEqProofs (maxSteps := 1000000) (disch := omega) [go_sem, bdP]
   subst hc13
   obtain ⟨y14, hl14q, hk14⟩ := bind_some' h
   refine IWp_tailC (fun tm' H' => ∃ v17 : List S50, .inl v17 = y14 ∧ Ext H H' ∧ H.next + 1 ≤ H'.next ∧ tm' 7 = .sl 2 (v17.map fun x => [.v (str x.fName), .sl 1 (x.fValues.map fun x => [.v (str x)])]) ∧ H'.obj H.next = some (.cells ([.v .nilFunc, .v (.func (.func 37) #[] #[]), .v (.func (.func 38) #[] #[]), .v (.func (.func 39) #[] #[])]))) ?_ fun cb hc14 => ?_
   ·rintro tm14e H14e ⟨v17, rfl, he14e, hl14e, t7_14e, ob0_14e⟩
    have h : F14_k14 v17 = some r := hk14
    unfold F14_k14 at h
    simp -implicitDefEqProofs only [go_sem]
    subst hc12
    refine IWp_seqF fun cb hc18 => ?_
    refine vcK ?_
    try simp -implicitDefEqProofs (maxSteps := 1000000) (disch := omega) [go_sem, bdP, t7_14e, ob0_14e]
    subst hc18
    refine vcK ?_
    simp -implicitDefEqProofs only [go_sem]
    have er := Option.some.inj h
    subst er
    try simp -implicitDefEqProofs (maxSteps := 1000000) (disch := omega) [go_sem, bdP, t7_14e, ob0_14e]
    refine retG_pureA he14e hK (e := by first | with_reducible rfl | (simp -implicitDefEqProofs (maxSteps := 1000000) (disch := omega) [go_sem, bdP, t7_14e, ob0_14e] <;> omega))
   ·refine IWp_block ?_
    refine IWp_loopF (fun (s : (List S50) × Int) tm' H' => Ext H H' ∧ H.next + 1 ≤ H'.next ∧ tm' 6 = .p H.next 0 ∧ tm' 7 = .sl 2 (s.1.map fun x => [.v (str x.fName), .sl 1 (x.fValues.map fun x => [.v (str x)])]) ∧ tm' 25 = .sl 3 (a1.map fun x => [.v (.int .i64 x.fKind), .v (str x.fName), .sl 1 (x.fValues.map fun x => [.v (str x)])]) ∧ tm' 26 = .v (.int .i64 (a1.length : Int)) ∧ tm' 27 = .v (.int .i64 s.2) ∧ H'.obj H.next = some (.cells ([.v .nilFunc, .v (.func (.func 37) #[] #[]), .v (.func (.func 38) #[] #[]), .v (.func (.func 39) #[] #[])]))) hl14q ?_ ?_
    ·refine .same ⟨by repeat (first | exact (Ext.refl hw) | refine Ext.new ?_ _ | refine Ext.set ?_ (by first | omega | (simp [go_sem]; done) | (simp [go_sem]; omega)) _ | refine Ext.del ?_ (by first | omega | (simp [go_sem]; done) | (simp [go_sem]; omega))), by first | with_reducible rfl | with_reducible assumption | omega | (simp -implicitDefEqProofs (maxSteps := 1000000) (disch := omega) [go_sem, bdP] <;> omega), by first | with_reducible rfl | with_reducible assumption | (simp -implicitDefEqProofs (maxSteps := 1000000) (disch := omega) [go_sem, bdP] <;> omega), by first | with_reducible rfl | with_reducible assumption | (simp -implicitDefEqProofs (maxSteps := 1000000) (disch := omega) [go_sem, bdP] <;> omega), by first | with_reducible rfl | with_reducible assumption | (simp -implicitDefEqProofs (maxSteps := 1000000) (disch := omega) [go_sem, bdP] <;> omega), by first | with_reducible rfl | with_reducible assumption | (simp -implicitDefEqProofs (maxSteps := 1000000) (disch := omega) [go_sem, bdP] <;> omega), by first | with_reducible rfl | with_reducible assumption | (simp -implicitDefEqProofs (maxSteps := 1000000) (disch := omega) [go_sem, bdP] <;> omega), by first | with_reducible rfl | with_reducible assumption | (simp -implicitDefEqProofs (maxSteps := 1000000) (disch := omega) [go_sem, bdP] <;> omega)⟩
    ·rintro I14 hI14 ⟨v15, v16⟩ x14 tm14 H14 ⟨he14, hl14, t6_14, t7_14, t25_14, t26_14, t27_14, ob0_14⟩ h hret14
     replace h : F14_b14 a1 v15 v16 = some x14 := h
     unfold F14_b14 at h
     refine IWp_seqF fun cb hc19 => ?_
     refine vcK ?_
     try simp -implicitDefEqProofs (maxSteps := 1000000) (disch := omega) [go_sem, bdP, t6_14, t7_14, t25_14, t26_14, t27_14, ob0_14]
     subst hc19
     refine IWp_seqF fun cb hc20 => ?_
     refine IWp_cond_i h (by first | with_reducible rfl | (simp -implicitDefEqProofs (maxSteps := 1000000) (disch := omega) [go_sem, bdP, t6_14, t7_14, t25_14, t26_14, t27_14, ob0_14] <;> omega)) rfl ?_ ?_
     ·intro c21 h
      try simp -implicitDefEqProofs (disch := omega) at c21
      refine vcK ?_
      simp -implicitDefEqProofs only [go_sem]
      subst hc20
      refine IWp_seqF fun cb hc22 => ?_
      refine IWp_block ?_
      refine IWp_seqF fun cb hc23 => ?_
      refine vcK ?_
      obtain ⟨g24, h⟩ := gd_some.1 h
      try simp -implicitDefEqProofs (disch := omega) at g24
      try simp -implicitDefEqProofs (maxSteps := 1000000) (disch := omega) [go_sem, bdP, t6_14, t7_14, t25_14, t26_14, t27_14, ob0_14]
      subst hc23
      refine IWp_seqF fun cb hc25 => ?_
      refine vcK ?_
      try simp -implicitDefEqProofs (maxSteps := 1000000) (disch := omega) [go_sem, bdP, t6_14, t7_14, t25_14, t26_14, t27_14, ob0_14]
      obtain ⟨x26, hx26, h⟩ := bind_some' h
      refine ICalls.eqA (args' := [.sl 2 (v15.map fun x => [.v (str x.fName), .sl 1 (x.fValues.map fun x => [.v (str x)])])]) (by first | with_reducible rfl | (simp -implicitDefEqProofs (maxSteps := 1000000) (disch := omega) [go_sem, bdP, t6_14, t7_14, t25_14, t26_14, t27_14, ob0_14] <;> omega)) (F40_ok v15 hx26 ?_)
      try simp -implicitDefEqProofs (maxSteps := 1000000) (disch := omega) [go_sem, bdP, t6_14, t7_14, t25_14, t26_14, t27_14, ob0_14]
      subst hc25
      refine IWp_seqC (fun tm' H' => ∃ v28 : List (List UInt8 × (List (List UInt8))), Ext H H' ∧ H14.next + 2 ≤ H'.next ∧ tm' 6 = .p H.next 0 ∧ tm' 10 = .mp (H14.next + 1) ∧ tm' 25 = .sl 3 (a1.map fun x => [.v (.int .i64 x.fKind), .v (str x.fName), .sl 1 (x.fValues.map fun x => [.v (str x)])]) ∧ tm' 26 = .v (.int .i64 (a1.length : Int)) ∧ tm' 27 = .v (.int .i64 v16) ∧ H'.obj H.next = some (.cells ([.v .nilFunc, .v (.func (.func 37) #[] #[]), .v (.func (.func 38) #[] #[]), .v (.func (.func 39) #[] #[])])) ∧ H'.obj H14.next = some (.cells ([.v (.int .i64 ((a1.getD v16.toNat S48.zero).fKind)), .v (str ((a1.getD v16.toNat S48.zero).fName)), .sl 1 (((a1.getD v16.toNat S48.zero).fValues).map fun x => [.v (str x)])])) ∧ H'.obj (H14.next + 1) = some (.map (mE (fun (x : List (List UInt8)) => .sl 1 (x.map fun x => [.v (str x)])) v28)) ∧ F14_k27 v16 v28 = some x14) ?_ fun cb hc27 => ?_
      ·rintro tm27 H27 ⟨v28, he27, hl27, t6_27, t10_27, t25_27, t26_27, t27_27, ob0_27, ob1_27, ob2_27, h⟩
       unfold F14_k27 at h
       refine IWp_seqF fun cb hc29 => ?_
       refine vcK ?_
       try simp -implicitDefEqProofs (maxSteps := 1000000) (disch := omega) [go_sem, bdP, t6_27, t10_27, t25_27, t26_27, t27_27, ob0_27, ob1_27, ob2_27]
       obtain ⟨x30, hx30, h⟩ := bind_some' h
       refine ICalls.eqA (args' := [.mp (H14.next + 1)]) (by first | with_reducible rfl | (simp -implicitDefEqProofs (maxSteps := 1000000) (disch := omega) [go_sem, bdP, t6_27, t10_27, t25_27, t26_27, t27_27, ob0_27, ob1_27, ob2_27] <;> omega)) (F42_ok v28 (H14.next + 1) (by first | with_reducible assumption | simp -implicitDefEqProofs (maxSteps := 1000000) (disch := omega) [go_sem, bdP, t6_27, t10_27, t25_27, t26_27, t27_27, ob0_27, ob1_27, ob2_27]) hx30 ?_)
       try simp -implicitDefEqProofs (maxSteps := 1000000) (disch := omega) [go_sem, bdP, t6_27, t10_27, t25_27, t26_27, t27_27, ob0_27, ob1_27, ob2_27]
       subst hc29
       refine IWp_seqF fun cb hc31 => ?_
       refine IWp_seqF fun cb hc32 => ?_
       refine vcK ?_
       try simp -implicitDefEqProofs (maxSteps := 1000000) (disch := omega) [go_sem, bdP, t6_27, t10_27, t25_27, t26_27, t27_27, ob0_27, ob1_27, ob2_27]
       subst hc32
       refine IWp_cond_i h (by first | with_reducible rfl | (simp -implicitDefEqProofs (maxSteps := 1000000) (disch := omega) [go_sem, bdP, t6_27, t10_27, t25_27, t26_27, t27_27, ob0_27, ob1_27, ob2_27] <;> omega)) rfl ?_ ?_
       ·intro c33 h
        try simp -implicitDefEqProofs (disch := omega) at c33
        refine IWp_seqF fun cb hc34 => ?_
        refine vcK ?_
        try simp -implicitDefEqProofs (maxSteps := 1000000) (disch := omega) [go_sem, bdP, t6_27, t10_27, t25_27, t26_27, t27_27, ob0_27, ob1_27, ob2_27]
        subst hc34
        refine IWp.gh (Gh.slotN 4 2 (by simp -implicitDefEqProofs (maxSteps := 1000000) (disch := omega) [go_sem, bdP, t6_27, t10_27, t25_27, t26_27, t27_27, ob0_27, ob1_27, ob2_27])) ?_
        refine vcK ?_
        simp -implicitDefEqProofs only [go_sem]
        have e14 := Option.some.inj h
        subst e14
        have e14 := hret14 _ rfl
        subst e14
        replace h : some ([], x30.2) = some r := hk14
        have er := Option.some.inj h
        subst er
        try simp -implicitDefEqProofs (maxSteps := 1000000) (disch := omega) [go_sem, bdP, t6_27, t10_27, t25_27, t26_27, t27_27, ob0_27, ob1_27, ob2_27]
        refine retG_pureA he27 hK (e := by first | with_reducible rfl | (simp -implicitDefEqProofs (maxSteps := 1000000) (disch := omega) [go_sem, bdP, t6_27, t10_27, t25_27, t26_27, t27_27, ob0_27, ob1_27, ob2_27] <;> omega))
       ·intro c33 h
        try simp -implicitDefEqProofs (disch := omega) at c33
        refine vcK ?_
        simp -implicitDefEqProofs only [go_sem]
        subst hc31
        refine vcK ?_
        try simp -implicitDefEqProofs (maxSteps := 1000000) (disch := omega) [go_sem, bdP, t6_27, t10_27, t25_27, t26_27, t27_27, ob0_27, ob1_27, ob2_27]
        subst hc22
        refine vcK ?_
        try simp -implicitDefEqProofs (maxSteps := 1000000) (disch := omega) [go_sem, bdP, t6_27, t10_27, t25_27, t26_27, t27_27, ob0_27, ob1_27, ob2_27]
        have e14 := Option.some.inj h
        subst e14
        refine loopN_mk hI14 ((x30.1, IntKind.i64.wrap (v16 + 1))) ?_
        refine .same ⟨by repeat (first | exact he27 | refine Ext.new ?_ _ | refine Ext.set ?_ (by first | omega | (simp [go_sem]; done) | (simp [go_sem]; omega)) _ | refine Ext.del ?_ (by first | omega | (simp [go_sem]; done) | (simp [go_sem]; omega))), by first | with_reducible rfl | with_reducible assumption | omega | (simp -implicitDefEqProofs (maxSteps := 1000000) (disch := omega) [go_sem, bdP, t6_27, t10_27, t25_27, t26_27, t27_27, ob0_27, ob1_27, ob2_27] <;> omega), by first | with_reducible rfl | with_reducible assumption | (simp -implicitDefEqProofs (maxSteps := 1000000) (disch := omega) [go_sem, bdP, t6_27, t10_27, t25_27, t26_27, t27_27, ob0_27, ob1_27, ob2_27] <;> omega), by first | with_reducible rfl | with_reducible assumption | (simp -implicitDefEqProofs (maxSteps := 1000000) (disch := omega) [go_sem, bdP, t6_27, t10_27, t25_27, t26_27, t27_27, ob0_27, ob1_27, ob2_27] <;> omega), by first | with_reducible rfl | with_reducible assumption | (simp -implicitDefEqProofs (maxSteps := 1000000) (disch := omega) [go_sem, bdP, t6_27, t10_27, t25_27, t26_27, t27_27, ob0_27, ob1_27, ob2_27] <;> omega), by first | with_reducible rfl | with_reducible assumption | (simp -implicitDefEqProofs (maxSteps := 1000000) (disch := omega) [go_sem, bdP, t6_27, t10_27, t25_27, t26_27, t27_27, ob0_27, ob1_27, ob2_27] <;> omega), by first | with_reducible rfl | with_reducible assumption | (simp -implicitDefEqProofs (maxSteps := 1000000) (disch := omega) [go_sem, bdP, t6_27, t10_27, t25_27, t26_27, t27_27, ob0_27, ob1_27, ob2_27] <;> omega), by first | with_reducible rfl | with_reducible assumption | (simp -implicitDefEqProofs (maxSteps := 1000000) (disch := omega) [go_sem, bdP, t6_27, t10_27, t25_27, t26_27, t27_27, ob0_27, ob1_27, ob2_27] <;> omega)⟩
      ·refine IWp_seqF fun cb hc35 => ?_
       by_cases hi36 : (a1.getD v16.toNat S48.zero).fKind = 1
       ·rw [if_pos hi36] at h
        try simp -implicitDefEqProofs (disch := omega) at hi36
        refine IWp_drawP [7] [0, 1, 2, 3, 4, 5, 6, 7, 8, 9, 10, 11] (by kernel_rfl) (by kernel_rfl) (fun _ _ _ _ h => h) ?_
        try simp -implicitDefEqProofs (maxSteps := 1000000) (disch := omega) [go_sem, bdP, t6_14, t7_14, t25_14, t26_14, t27_14, ob0_14, hi36]
        obtain ⟨x37, hx37, h⟩ := bind_some' h
        refine PureC.mk _ (fun _ _ hK => ICalls.eqA (args' := [.v (str ((a1.getD v16.toNat S48.zero).fName))]) (by first | with_reducible rfl | (simp -implicitDefEqProofs (maxSteps := 1000000) (disch := omega) [go_sem, bdP, t6_14, t7_14, t25_14, t26_14, t27_14, ob0_14, hi36] <;> omega)) (F41_ok ((a1.getD v16.toNat S48.zero).fName) hx37 hK)) ?_
        try simp -implicitDefEqProofs (maxSteps := 1000000) (disch := omega) [go_sem, bdP, t6_14, t7_14, t25_14, t26_14, t27_14, ob0_14, hi36]
        obtain ⟨x38, hx38, h⟩ := bind_some' h
        refine ICalls.eqA (args' := [.mp (H14.next + 1), .v (str x37), .sl 1 (((a1.getD v16.toNat S48.zero).fValues).map fun x => [.v (str x)])]) (by first | with_reducible rfl | (simp -implicitDefEqProofs (maxSteps := 1000000) (disch := omega) [go_sem, bdP, t6_14, t7_14, t25_14, t26_14, t27_14, ob0_14, hi36] <;> omega)) (F37_ok x26 x37 ((a1.getD v16.toNat S48.zero).fValues) (H14.next + 1) (by first | with_reducible assumption | simp -implicitDefEqProofs (maxSteps := 1000000) (disch := omega) [go_sem, bdP, t6_14, t7_14, t25_14, t26_14, t27_14, ob0_14, hi36]) hx38 ?_)
        try simp -implicitDefEqProofs (maxSteps := 1000000) (disch := omega) [go_sem, bdP, t6_14, t7_14, t25_14, t26_14, t27_14, ob0_14, hi36]
        subst hc35
        refine IWp_seqF fun cb hc39 => ?_
        refine vcK ?_
        try simp -implicitDefEqProofs (maxSteps := 1000000) (disch := omega) [go_sem, bdP, t6_14, t7_14, t25_14, t26_14, t27_14, ob0_14, hi36]
        subst hc39
        refine IWp_cond_i h (by first | with_reducible rfl | (simp -implicitDefEqProofs (maxSteps := 1000000) (disch := omega) [go_sem, bdP, t6_14, t7_14, t25_14, t26_14, t27_14, ob0_14, hi36] <;> omega)) rfl ?_ ?_
        ·intro c40 h
         try simp -implicitDefEqProofs (disch := omega) at c40
         refine IWp_seqF fun cb hc41 => ?_
         refine vcK ?_
         try simp -implicitDefEqProofs (maxSteps := 1000000) (disch := omega) [go_sem, bdP, t6_14, t7_14, t25_14, t26_14, t27_14, ob0_14, hi36]
         subst hc41
         refine IWp.gh (Gh.slotN 4 2 (by simp -implicitDefEqProofs (maxSteps := 1000000) (disch := omega) [go_sem, bdP, t6_14, t7_14, t25_14, t26_14, t27_14, ob0_14, hi36])) ?_
         refine vcK ?_
         simp -implicitDefEqProofs only [go_sem]
         have e14 := Option.some.inj h
         subst e14
         have e14 := hret14 _ rfl
         subst e14
         replace h : some ([], x38.1) = some r := hk14
         have er := Option.some.inj h
         subst er
         try simp -implicitDefEqProofs (maxSteps := 1000000) (disch := omega) [go_sem, bdP, t6_14, t7_14, t25_14, t26_14, t27_14, ob0_14, hi36]
         refine retG_pureA he14 hK (e := by first | with_reducible rfl | (simp -implicitDefEqProofs (maxSteps := 1000000) (disch := omega) [go_sem, bdP, t6_14, t7_14, t25_14, t26_14, t27_14, ob0_14, hi36] <;> omega))
        ·intro c40 h
         try simp -implicitDefEqProofs (disch := omega) at c40
         refine vcK ?_
         simp -implicitDefEqProofs only [go_sem]
         refine hc27 _ _ ?_
         refine .same ⟨x38.2, by repeat (first | exact he14 | refine Ext.new ?_ _ | refine Ext.set ?_ (by first | omega | (simp [go_sem]; done) | (simp [go_sem]; omega)) _ | refine Ext.del ?_ (by first | omega | (simp [go_sem]; done) | (simp [go_sem]; omega))), by first | with_reducible rfl | with_reducible assumption | omega | (simp -implicitDefEqProofs (maxSteps := 1000000) (disch := omega) [go_sem, bdP, t6_14, t7_14, t25_14, t26_14, t27_14, ob0_14, hi36] <;> omega), by first | with_reducible rfl | with_reducible assumption | (simp -implicitDefEqProofs (maxSteps := 1000000) (disch := omega) [go_sem, bdP, t6_14, t7_14, t25_14, t26_14, t27_14, ob0_14, hi36] <;> omega), by first | with_reducible rfl | with_reducible assumption | (simp -implicitDefEqProofs (maxSteps := 1000000) (disch := omega) [go_sem, bdP, t6_14, t7_14, t25_14, t26_14, t27_14, ob0_14, hi36] <;> omega), by first | with_reducible rfl | with_reducible assumption | (simp -implicitDefEqProofs (maxSteps := 1000000) (disch := omega) [go_sem, bdP, t6_14, t7_14, t25_14, t26_14, t27_14, ob0_14, hi36] <;> omega), by first | with_reducible rfl | with_reducible assumption | (simp -implicitDefEqProofs (maxSteps := 1000000) (disch := omega) [go_sem, bdP, t6_14, t7_14, t25_14, t26_14, t27_14, ob0_14, hi36] <;> omega), by first | with_reducible rfl | with_reducible assumption | (simp -implicitDefEqProofs (maxSteps := 1000000) (disch := omega) [go_sem, bdP, t6_14, t7_14, t25_14, t26_14, t27_14, ob0_14, hi36] <;> omega), by first | with_reducible rfl | with_reducible assumption | (simp -implicitDefEqProofs (maxSteps := 1000000) (disch := omega) [go_sem, bdP, t6_14, t7_14, t25_14, t26_14, t27_14, ob0_14, hi36] <;> omega), by first | with_reducible rfl | with_reducible assumption | (simp -implicitDefEqProofs (maxSteps := 1000000) (disch := omega) [go_sem, bdP, t6_14, t7_14, t25_14, t26_14, t27_14, ob0_14, hi36] <;> omega), by first | with_reducible rfl | with_reducible assumption | (simp -implicitDefEqProofs (maxSteps := 1000000) (disch := omega) [go_sem, bdP, t6_14, t7_14, t25_14, t26_14, t27_14, ob0_14, hi36] <;> omega), h⟩
       ·rw [if_neg hi36] at h
        by_cases hi42 : (a1.getD v16.toNat S48.zero).fKind = 2
        ·rw [if_pos hi42] at h
         try simp -implicitDefEqProofs (disch := omega) at hi42
         refine IWp_drawP [7] [0, 1, 2, 3, 4, 5, 6, 7, 8, 9, 10, 11] (by kernel_rfl) (by kernel_rfl) (fun _ _ _ _ h => h) ?_
         try simp -implicitDefEqProofs (maxSteps := 1000000) (disch := omega) [go_sem, bdP, t6_14, t7_14, t25_14, t26_14, t27_14, ob0_14, hi42]
         obtain ⟨x43, hx43, h⟩ := bind_some' h
         refine PureC.mk _ (fun _ _ hK => ICalls.eqA (args' := [.v (str ((a1.getD v16.toNat S48.zero).fName))]) (by first | with_reducible rfl | (simp -implicitDefEqProofs (maxSteps := 1000000) (disch := omega) [go_sem, bdP, t6_14, t7_14, t25_14, t26_14, t27_14, ob0_14, hi42] <;> omega)) (F41_ok ((a1.getD v16.toNat S48.zero).fName) hx43 hK)) ?_
         try simp -implicitDefEqProofs (maxSteps := 1000000) (disch := omega) [go_sem, bdP, t6_14, t7_14, t25_14, t26_14, t27_14, ob0_14, hi42]
         obtain ⟨x44, hx44, h⟩ := bind_some' h
         refine ICalls.eqA (args' := [.mp (H14.next + 1), .v (str x43), .sl 1 (((a1.getD v16.toNat S48.zero).fValues).map fun x => [.v (str x)])]) (by first | with_reducible rfl | (simp -implicitDefEqProofs (maxSteps := 1000000) (disch := omega) [go_sem, bdP, t6_14, t7_14, t25_14, t26_14, t27_14, ob0_14, hi42] <;> omega)) (F38_ok x26 x43 ((a1.getD v16.toNat S48.zero).fValues) (H14.next + 1) (by first | with_reducible assumption | simp -implicitDefEqProofs (maxSteps := 1000000) (disch := omega) [go_sem, bdP, t6_14, t7_14, t25_14, t26_14, t27_14, ob0_14, hi42]) hx44 ?_)
         try simp -implicitDefEqProofs (maxSteps := 1000000) (disch := omega) [go_sem, bdP, t6_14, t7_14, t25_14, t26_14, t27_14, ob0_14, hi42]
         subst hc35
         refine IWp_seqF fun cb hc45 => ?_
         refine vcK ?_
         try simp -implicitDefEqProofs (maxSteps := 1000000) (disch := omega) [go_sem, bdP, t6_14, t7_14, t25_14, t26_14, t27_14, ob0_14, hi42]
         subst hc45
         refine IWp_cond_i h (by first | with_reducible rfl | (simp -implicitDefEqProofs (maxSteps := 1000000) (disch := omega) [go_sem, bdP, t6_14, t7_14, t25_14, t26_14, t27_14, ob0_14, hi42] <;> omega)) rfl ?_ ?_
         ·intro c46 h
          try simp -implicitDefEqProofs (disch := omega) at c46
          refine IWp_seqF fun cb hc47 => ?_
          refine vcK ?_
          try simp -implicitDefEqProofs (maxSteps := 1000000) (disch := omega) [go_sem, bdP, t6_14, t7_14, t25_14, t26_14, t27_14, ob0_14, hi42]
          subst hc47
          refine IWp.gh (Gh.slotN 4 2 (by simp -implicitDefEqProofs (maxSteps := 1000000) (disch := omega) [go_sem, bdP, t6_14, t7_14, t25_14, t26_14, t27_14, ob0_14, hi42])) ?_
          refine vcK ?_
          simp -implicitDefEqProofs only [go_sem]
          have e14 := Option.some.inj h
          subst e14
          have e14 := hret14 _ rfl
          subst e14
          replace h : some ([], x44.1) = some r := hk14
          have er := Option.some.inj h
          subst er
          try simp -implicitDefEqProofs (maxSteps := 1000000) (disch := omega) [go_sem, bdP, t6_14, t7_14, t25_14, t26_14, t27_14, ob0_14, hi42]
          refine retG_pureA he14 hK (e := by first | with_reducible rfl | (simp -implicitDefEqProofs (maxSteps := 1000000) (disch := omega) [go_sem, bdP, t6_14, t7_14, t25_14, t26_14, t27_14, ob0_14, hi42] <;> omega))
         ·intro c46 h
          try simp -implicitDefEqProofs (disch := omega) at c46
          refine vcK ?_
          simp -implicitDefEqProofs only [go_sem]
          refine hc27 _ _ ?_
          refine .same ⟨x44.2, by repeat (first | exact he14 | refine Ext.new ?_ _ | refine Ext.set ?_ (by first | omega | (simp [go_sem]; done) | (simp [go_sem]; omega)) _ | refine Ext.del ?_ (by first | omega | (simp [go_sem]; done) | (simp [go_sem]; omega))), by first | with_reducible rfl | with_reducible assumption | omega | (simp -implicitDefEqProofs (maxSteps := 1000000) (disch := omega) [go_sem, bdP, t6_14, t7_14, t25_14, t26_14, t27_14, ob0_14, hi42] <;> omega), by first | with_reducible rfl | with_reducible assumption | (simp -implicitDefEqProofs (maxSteps := 1000000) (disch := omega) [go_sem, bdP, t6_14, t7_14, t25_14, t26_14, t27_14, ob0_14, hi42] <;> omega), by first | with_reducible rfl | with_reducible assumption | (simp -implicitDefEqProofs (maxSteps := 1000000) (disch := omega) [go_sem, bdP, t6_14, t7_14, t25_14, t26_14, t27_14, ob0_14, hi42] <;> omega), by first | with_reducible rfl | with_reducible assumption | (simp -implicitDefEqProofs (maxSteps := 1000000) (disch := omega) [go_sem, bdP, t6_14, t7_14, t25_14, t26_14, t27_14, ob0_14, hi42] <;> omega), by first | with_reducible rfl | with_reducible assumption | (simp -implicitDefEqProofs (maxSteps := 1000000) (disch := omega) [go_sem, bdP, t6_14, t7_14, t25_14, t26_14, t27_14, ob0_14, hi42] <;> omega), by first | with_reducible rfl | with_reducible assumption | (simp -implicitDefEqProofs (maxSteps := 1000000) (disch := omega) [go_sem, bdP, t6_14, t7_14, t25_14, t26_14, t27_14, ob0_14, hi42] <;> omega), by first | with_reducible rfl | with_reducible assumption | (simp -implicitDefEqProofs (maxSteps := 1000000) (disch := omega) [go_sem, bdP, t6_14, t7_14, t25_14, t26_14, t27_14, ob0_14, hi42] <;> omega), by first | with_reducible rfl | with_reducible assumption | (simp -implicitDefEqProofs (maxSteps := 1000000) (disch := omega) [go_sem, bdP, t6_14, t7_14, t25_14, t26_14, t27_14, ob0_14, hi42] <;> omega), by first | with_reducible rfl | with_reducible assumption | (simp -implicitDefEqProofs (maxSteps := 1000000) (disch := omega) [go_sem, bdP, t6_14, t7_14, t25_14, t26_14, t27_14, ob0_14, hi42] <;> omega), h⟩
        ·rw [if_neg hi42] at h
         by_cases hi48 : (a1.getD v16.toNat S48.zero).fKind = 3
         ·rw [if_pos hi48] at h
          try simp -implicitDefEqProofs (disch := omega) at hi48
          refine IWp_drawP [7] [0, 1, 2, 3, 4, 5, 6, 7, 8, 9, 10, 11] (by kernel_rfl) (by kernel_rfl) (fun _ _ _ _ h => h) ?_
          try simp -implicitDefEqProofs (maxSteps := 1000000) (disch := omega) [go_sem, bdP, t6_14, t7_14, t25_14, t26_14, t27_14, ob0_14, hi48]
          obtain ⟨x49, hx49, h⟩ := bind_some' h
          refine PureC.mk _ (fun _ _ hK => ICalls.eqA (args' := [.v (str ((a1.getD v16.toNat S48.zero).fName))]) (by first | with_reducible rfl | (simp -implicitDefEqProofs (maxSteps := 1000000) (disch := omega) [go_sem, bdP, t6_14, t7_14, t25_14, t26_14, t27_14, ob0_14, hi48] <;> omega)) (F41_ok ((a1.getD v16.toNat S48.zero).fName) hx49 hK)) ?_
          try simp -implicitDefEqProofs (maxSteps := 1000000) (disch := omega) [go_sem, bdP, t6_14, t7_14, t25_14, t26_14, t27_14, ob0_14, hi48]
          obtain ⟨x50, hx50, h⟩ := bind_some' h
          refine ICalls.eqA (args' := [.mp (H14.next + 1), .v (str x49), .sl 1 (((a1.getD v16.toNat S48.zero).fValues).map fun x => [.v (str x)])]) (by first | with_reducible rfl | (simp -implicitDefEqProofs (maxSteps := 1000000) (disch := omega) [go_sem, bdP, t6_14, t7_14, t25_14, t26_14, t27_14, ob0_14, hi48] <;> omega)) (F39_ok x26 x49 ((a1.getD v16.toNat S48.zero).fValues) (H14.next + 1) (by first | with_reducible assumption | simp -implicitDefEqProofs (maxSteps := 1000000) (disch := omega) [go_sem, bdP, t6_14, t7_14, t25_14, t26_14, t27_14, ob0_14, hi48]) hx50 ?_)
          try simp -implicitDefEqProofs (maxSteps := 1000000) (disch := omega) [go_sem, bdP, t6_14, t7_14, t25_14, t26_14, t27_14, ob0_14, hi48]
          subst hc35
          refine IWp_seqF fun cb hc51 => ?_
          refine vcK ?_
          try simp -implicitDefEqProofs (maxSteps := 1000000) (disch := omega) [go_sem, bdP, t6_14, t7_14, t25_14, t26_14, t27_14, ob0_14, hi48]
          subst hc51
          refine IWp_cond_i h (by first | with_reducible rfl | (simp -implicitDefEqProofs (maxSteps := 1000000) (disch := omega) [go_sem, bdP, t6_14, t7_14, t25_14, t26_14, t27_14, ob0_14, hi48] <;> omega)) rfl ?_ ?_
          ·intro c52 h
           try simp -implicitDefEqProofs (disch := omega) at c52
           refine IWp_seqF fun cb hc53 => ?_
           refine vcK ?_
           try simp -implicitDefEqProofs (maxSteps := 1000000) (disch := omega) [go_sem, bdP, t6_14, t7_14, t25_14, t26_14, t27_14, ob0_14, hi48]
           subst hc53
           refine IWp.gh (Gh.slotN 4 2 (by simp -implicitDefEqProofs (maxSteps := 1000000) (disch := omega) [go_sem, bdP, t6_14, t7_14, t25_14, t26_14, t27_14, ob0_14, hi48])) ?_
           refine vcK ?_
           simp -implicitDefEqProofs only [go_sem]
           have e14 := Option.some.inj h
           subst e14
           have e14 := hret14 _ rfl
           subst e14
           replace h : some ([], x50.1) = some r := hk14
           have er := Option.some.inj h
           subst er
           try simp -implicitDefEqProofs (maxSteps := 1000000) (disch := omega) [go_sem, bdP, t6_14, t7_14, t25_14, t26_14, t27_14, ob0_14, hi48]
           refine retG_pureA he14 hK (e := by first | with_reducible rfl | (simp -implicitDefEqProofs (maxSteps := 1000000) (disch := omega) [go_sem, bdP, t6_14, t7_14, t25_14, t26_14, t27_14, ob0_14, hi48] <;> omega))
          ·intro c52 h
           try simp -implicitDefEqProofs (disch := omega) at c52
           refine vcK ?_
           simp -implicitDefEqProofs only [go_sem]
           refine hc27 _ _ ?_
           refine .same ⟨x50.2, by repeat (first | exact he14 | refine Ext.new ?_ _ | refine Ext.set ?_ (by first | omega | (simp [go_sem]; done) | (simp [go_sem]; omega)) _ | refine Ext.del ?_ (by first | omega | (simp [go_sem]; done) | (simp [go_sem]; omega))), by first | with_reducible rfl | with_reducible assumption | omega | (simp -implicitDefEqProofs (maxSteps := 1000000) (disch := omega) [go_sem, bdP, t6_14, t7_14, t25_14, t26_14, t27_14, ob0_14, hi48] <;> omega), by first | with_reducible rfl | with_reducible assumption | (simp -implicitDefEqProofs (maxSteps := 1000000) (disch := omega) [go_sem, bdP, t6_14, t7_14, t25_14, t26_14, t27_14, ob0_14, hi48] <;> omega), by first | with_reducible rfl | with_reducible assumption | (simp -implicitDefEqProofs (maxSteps := 1000000) (disch := omega) [go_sem, bdP, t6_14, t7_14, t25_14, t26_14, t27_14, ob0_14, hi48] <;> omega), by first | with_reducible rfl | with_reducible assumption | (simp -implicitDefEqProofs (maxSteps := 1000000) (disch := omega) [go_sem, bdP, t6_14, t7_14, t25_14, t26_14, t27_14, ob0_14, hi48] <;> omega), by first | with_reducible rfl | with_reducible assumption | (simp -implicitDefEqProofs (maxSteps := 1000000) (disch := omega) [go_sem, bdP, t6_14, t7_14, t25_14, t26_14, t27_14, ob0_14, hi48] <;> omega), by first | with_reducible rfl | with_reducible assumption | (simp -implicitDefEqProofs (maxSteps := 1000000) (disch := omega) [go_sem, bdP, t6_14, t7_14, t25_14, t26_14, t27_14, ob0_14, hi48] <;> omega), by first | with_reducible rfl | with_reducible assumption | (simp -implicitDefEqProofs (maxSteps := 1000000) (disch := omega) [go_sem, bdP, t6_14, t7_14, t25_14, t26_14, t27_14, ob0_14, hi48] <;> omega), by first | with_reducible rfl | with_reducible assumption | (simp -implicitDefEqProofs (maxSteps := 1000000) (disch := omega) [go_sem, bdP, t6_14, t7_14, t25_14, t26_14, t27_14, ob0_14, hi48] <;> omega), by first | with_reducible rfl | with_reducible assumption | (simp -implicitDefEqProofs (maxSteps := 1000000) (disch := omega) [go_sem, bdP, t6_14, t7_14, t25_14, t26_14, t27_14, ob0_14, hi48] <;> omega), h⟩
         ·rw [if_neg hi48] at h
          cases h
     ·intro c21 h
      try simp -implicitDefEqProofs (disch := omega) at c21
      refine vcK ?_
      simp -implicitDefEqProofs only [go_sem]
      have e14 := Option.some.inj h
      subst e14
      have hy14 := hret14 _ rfl
      refine hc14 _ _ ?_
      refine .same ⟨v15, hy14, by repeat (first | exact he14 | refine Ext.new ?_ _ | refine Ext.set ?_ (by first | omega | (simp [go_sem]; done) | (simp [go_sem]; omega)) _ | refine Ext.del ?_ (by first | omega | (simp [go_sem]; done) | (simp [go_sem]; omega))), by first | with_reducible rfl | with_reducible assumption | omega | (simp -implicitDefEqProofs (maxSteps := 1000000) (disch := omega) [go_sem, bdP, t6_14, t7_14, t25_14, t26_14, t27_14, ob0_14] <;> omega), by first | with_reducible rfl | with_reducible assumption | (simp -implicitDefEqProofs (maxSteps := 1000000) (disch := omega) [go_sem, bdP, t6_14, t7_14, t25_14, t26_14, t27_14, ob0_14] <;> omega), by first | with_reducible rfl | with_reducible assumption | (simp -implicitDefEqProofs (maxSteps := 1000000) (disch := omega) [go_sem, bdP, t6_14, t7_14, t25_14, t26_14, t27_14, ob0_14] <;> omega)⟩

end Go.Idl

namespace Go.Idl

open Go Go.Proofs.Tryz

/-! slices.Concat[cardcase/api.Entry,cardcase/api.Attr] -/

noncomputable def F57_k14 (v18 : List S50) : Option (List S50) :=
 some v18

noncomputable def F57_b14 (a0 : List (List S50)) (v15 : List S50) (v17 : Int) : Option (((List S50) × Int) ⊕ (List S50)) :=
 if v17 < (a0.length : Int) then (gd (0 ≤ v17 ∧ v17 < a0.length) (gd ((v15.length + (a0.getD v17.toNat []).length) * 40 ≤ 140737488355328) (some (.inl ((v15 ++ (a0.getD v17.toNat []), IntKind.i64.wrap (v17 + 1))))))) else (some (.inr v15))

noncomputable def F57_k5 (a0 : List (List S50)) (v8 : Int) : Option (List S50) :=
 (F90 [] v8).bind fun (x10 : (List S50)) => (loopO (fun (s : (List S50) × Int) => F57_b14 a0 s.1 s.2) (x10, 0)).bind fun (e : (List S50)) => F57_k14 e

noncomputable def F57_b5 (a0 : List (List S50)) (v6 : Int) (v7 : Int) : Option ((Int × Int) ⊕ Int) :=
 if v7 < (a0.length : Int) then (gd (0 ≤ v7 ∧ v7 < a0.length) (if (IntKind.i64.wrap (v6 + (((a0.getD v7.toNat []).length : Int)))) < 0 then (none) else (some (.inl ((IntKind.i64.wrap (v6 + (((a0.getD v7.toNat []).length : Int))), IntKind.i64.wrap (v7 + 1))))))) else (some (.inr v6))

noncomputable def F57 (a0 : List (List S50)) : Option (List S50) :=
 (loopO (fun (s : Int × Int) => F57_b5 a0 s.1 s.2) (0, 0)).bind fun (e : Int) => F57_k5 a0 e

set_option maxHeartbeats 8000000 in
set_option pp.deepTerms false in
set_option maxRecDepth 60000 in
theorem F57_ok {H : IHeap} {K : IEnd → IHeap → Prop} (a0 : List (List S50)) {r : (List S50)} (h : F57 a0 = some r) (hK : K (.ret (.sl 2 (r.map fun x => [.v (str x.fName), .sl 1 (x.fValues.map fun x => [.v (str x)])]))) H) : ICalls prog 57 [.sl 1 (a0.map fun x => [.sl 2 (x.map fun x => [.v (str x.fName), .sl 1 (x.fValues.map fun x => [.v (str x)])])])] H K := by
 refine ICalls_iwp (N := 36) func57 (by kernel_rfl) rfl (by kernel_rfl) (by kernel_rfl) fun cb hcb hw hbd hnb => ?_
 clear hbd hnb
 subst hcb
 unfold F57 at h
 refine IWp_seqF fun cb hc1 => ?_
 refine vcK ?_
 try simp -implicitDefEqProofs (maxSteps := 1000000) (disch := omega) [go_sem]
 subst hc1
 refine IWp_seqF fun cb hc2 => ?_
 refine vcK ?_
 try simp -implicitDefEqProofs (maxSteps := 1000000) (disch := omega) [go_sem]
 subst hc2
 refine IWp_seqF fun cb hc3 => ?_
 refine IWp_seqF fun cb hc4 => ?_
 refine vcK ?_
 try simp -implicitDefEqProofs (maxSteps := 1000000) (disch := omega) [go_sem]
 subst hc4
 obtain ⟨y5, hl5q, hk5⟩ := bind_some' h
 refine IWp_tailC (fun tm' H' => ∃ v8 : Int, v8 = y5 ∧ H = H' ∧ tm' 0 = .sl 1 (a0.map fun x => [.sl 2 (x.map fun x => [.v (str x.fName), .sl 1 (x.fValues.map fun x => [.v (str x)])])]) ∧ tm' 3 = .v (.int .i64 v8)) ?_ fun cb hc5 => ?_
 ·rintro tm5e H5e ⟨v8, rfl, rfl, t0_5e, t3_5e⟩
  have h : F57_k5 a0 v8 = some r := hk5
  unfold F57_k5 at h
  simp -implicitDefEqProofs only [go_sem]
  subst hc3
  refine IWp_seqF fun cb hc9 => ?_
  refine vcK ?_
  try simp -implicitDefEqProofs (maxSteps := 1000000) (disch := omega) [go_sem, t0_5e, t3_5e]
  obtain ⟨x10, hx10, h⟩ := bind_some' h
  refine ICalls.eqA (args' := [.v (.slice none 0 0), .v (.int .i64 v8)]) (by first | with_reducible rfl | (simp -implicitDefEqProofs (maxSteps := 1000000) (disch := omega) [go_sem, t0_5e, t3_5e] <;> omega)) (F90_ok [] v8 hx10 ?_)
  try simp -implicitDefEqProofs (maxSteps := 1000000) (disch := omega) [go_sem, t0_5e, t3_5e]
  subst hc9
  refine IWp_seqF fun cb hc12 => ?_
  refine IWp_seqF fun cb hc13 => ?_
  refine vcK ?_
  try simp -implicitDefEqProofs (maxSteps := 1000000) (disch := omega) [go_sem, t0_5e, t3_5e]
  subst hc13
  obtain ⟨y14, hl14q, hk14⟩ := bind_some' h
  refine IWp_tailC (fun tm' H' => ∃ n19 : Nat, ∃ v18 : List S50, v18 = y14 ∧ Ext H H' ∧ H.next + 1 ≤ H'.next ∧ H.next ≤ n19 ∧ n19 < H'.next ∧ tm' 6 = .os n19 v18.length ∧ H'.obj n19 = some (.row 2 (v18.map fun x => [.v (str x.fName), .sl 1 (x.fValues.map fun x => [.v (str x)])]))) ?_ fun cb hc14 => ?_
  ·rintro tm14e H14e ⟨n19, v18, rfl, he14e, hl14e, hr0_14e, hs0_14e, t6_14e, or0_14e⟩
   have h : F57_k14 v18 = some r := hk14
   unfold F57_k14 at h
   simp -implicitDefEqProofs only [go_sem]
   subst hc12
   refine IWp_seqF fun cb hc20 => ?_
   refine vcK ?_
   try simp -implicitDefEqProofs (maxSteps := 1000000) (disch := omega) [go_sem, t6_14e, or0_14e]
   subst hc20
   refine IWp.gh (Gh.freeze (d := 2) (k := n19) (sz := 2) (es := v18.map fun x => [.v (str x.fName), .sl 1 (x.fValues.map fun x => [.v (str x)])]) (by simp -implicitDefEqProofs (maxSteps := 1000000) (disch := omega) [go_sem, t6_14e, or0_14e]) (by simp -implicitDefEqProofs (maxSteps := 1000000) (disch := omega) [go_sem, t6_14e, or0_14e])) ?_
   refine vcK ?_
   simp -implicitDefEqProofs only [go_sem]
   have er := Option.some.inj h
   subst er
   try simp -implicitDefEqProofs (maxSteps := 1000000) (disch := omega) [go_sem, t6_14e, or0_14e]
   refine retG_pureA he14e hK (e := by first | with_reducible rfl | (simp -implicitDefEqProofs (maxSteps := 1000000) (disch := omega) [go_sem, t6_14e, or0_14e] <;> omega))
  ·refine IWp_block ?_
   refine IWp_loopF (fun (s : (List S50) × Int) tm' H' => ∃ n16 : Nat, Ext H H' ∧ H.next + 1 ≤ H'.next ∧ H.next ≤ n16 ∧ n16 < H'.next ∧ tm' 6 = .os n16 s.1.length ∧ tm' 25 = .sl 1 (a0.map fun x => [.sl 2 (x.map fun x => [.v (str x.fName), .sl 1 (x.fValues.map fun x => [.v (str x)])])]) ∧ tm' 26 = .v (.int .i64 (a0.length : Int)) ∧ tm' 27 = .v (.int .i64 s.2) ∧ H'.obj n16 = some (.row 2 (s.1.map fun x => [.v (str x.fName), .sl 1 (x.fValues.map fun x => [.v (str x)])]))) hl14q ?_ ?_
   ·refine .same ⟨H.next, by repeat (first | exact (Ext.refl hw) | refine Ext.new ?_ _ | refine Ext.set ?_ (by first | omega | (simp [go_sem]; done) | (simp [go_sem]; omega)) _ | refine Ext.del ?_ (by first | omega | (simp [go_sem]; done) | (simp [go_sem]; omega))), by first | with_reducible rfl | with_reducible assumption | omega | (simp -implicitDefEqProofs (maxSteps := 1000000) (disch := omega) [go_sem, t0_5e, t3_5e] <;> omega), by first | with_reducible rfl | with_reducible assumption | omega | (simp -implicitDefEqProofs (maxSteps := 1000000) (disch := omega) [go_sem, t0_5e, t3_5e] <;> omega), by first | with_reducible rfl | with_reducible assumption | omega | (simp -implicitDefEqProofs (maxSteps := 1000000) (disch := omega) [go_sem, t0_5e, t3_5e] <;> omega), by first | with_reducible rfl | with_reducible assumption | (simp -implicitDefEqProofs (maxSteps := 1000000) (disch := omega) [go_sem, t0_5e, t3_5e] <;> omega), by first | with_reducible rfl | with_reducible assumption | (simp -implicitDefEqProofs (maxSteps := 1000000) (disch := omega) [go_sem, t0_5e, t3_5e] <;> omega), by first | with_reducible rfl | with_reducible assumption | (simp -implicitDefEqProofs (maxSteps := 1000000) (disch := omega) [go_sem, t0_5e, t3_5e] <;> omega), by first | with_reducible rfl | with_reducible assumption | (simp -implicitDefEqProofs (maxSteps := 1000000) (disch := omega) [go_sem, t0_5e, t3_5e] <;> omega), by first | with_reducible rfl | with_reducible assumption | (simp -implicitDefEqProofs (maxSteps := 1000000) (disch := omega) [go_sem, t0_5e, t3_5e] <;> omega)⟩
   ·rintro I14 hI14 ⟨v15, v17⟩ x14 tm14 H14 ⟨n16, he14, hl14, hr0_14, hs0_14, t6_14, t25_14, t26_14, t27_14, or0_14⟩ h hret14
    replace h : F57_b14 a0 v15 v17 = some x14 := h
    unfold F57_b14 at h
    refine IWp_seqF fun cb hc21 => ?_
    refine vcK ?_
    try simp -implicitDefEqProofs (maxSteps := 1000000) (disch := omega) [go_sem, t6_14, t25_14, t26_14, t27_14, or0_14]
    subst hc21
    refine IWp_seqF fun cb hc22 => ?_
    refine IWp_cond_i h (by first | with_reducible rfl | (simp -implicitDefEqProofs (maxSteps := 1000000) (disch := omega) [go_sem, t6_14, t25_14, t26_14, t27_14, or0_14] <;> omega)) rfl ?_ ?_
    ·intro c23 h
     try simp -implicitDefEqProofs (disch := omega) at c23
     refine vcK ?_
     simp -implicitDefEqProofs only [go_sem]
     subst hc22
     refine IWp_seqF fun cb hc24 => ?_
     refine IWp_block ?_
     refine IWp_seqF fun cb hc25 => ?_
     refine vcK ?_
     obtain ⟨g26, h⟩ := gd_some.1 h
     try simp -implicitDefEqProofs (disch := omega) at g26
     try simp -implicitDefEqProofs (maxSteps := 1000000) (disch := omega) [go_sem, t6_14, t25_14, t26_14, t27_14, or0_14]
     subst hc25
     refine vcK ?_
     obtain ⟨g27, h⟩ := gd_some.1 h
     try simp -implicitDefEqProofs (disch := omega) at g27
     try simp -implicitDefEqProofs (maxSteps := 1000000) (disch := omega) [go_sem, t6_14, t25_14, t26_14, t27_14, or0_14]
     subst hc24
     refine vcK ?_
     try simp -implicitDefEqProofs (maxSteps := 1000000) (disch := omega) [go_sem, t6_14, t25_14, t26_14, t27_14, or0_14]
     have e14 := Option.some.inj h
     subst e14
     refine loopN_mk hI14 ((v15 ++ (a0.getD v17.toNat []), IntKind.i64.wrap (v17 + 1))) ?_
     refine .same ⟨n16, by repeat (first | exact he14 | refine Ext.new ?_ _ | refine Ext.set ?_ (by first | omega | (simp [go_sem]; done) | (simp [go_sem]; omega)) _ | refine Ext.del ?_ (by first | omega | (simp [go_sem]; done) | (simp [go_sem]; omega))), by first | with_reducible rfl | with_reducible assumption | omega | (simp -implicitDefEqProofs (maxSteps := 1000000) (disch := omega) [go_sem, t6_14, t25_14, t26_14, t27_14, or0_14] <;> omega), by first | with_reducible rfl | with_reducible assumption | omega | (simp -implicitDefEqProofs (maxSteps := 1000000) (disch := omega) [go_sem, t6_14, t25_14, t26_14, t27_14, or0_14] <;> omega), by first | with_reducible rfl | with_reducible assumption | omega | (simp -implicitDefEqProofs (maxSteps := 1000000) (disch := omega) [go_sem, t6_14, t25_14, t26_14, t27_14, or0_14] <;> omega), by first | with_reducible rfl | with_reducible assumption | (simp -implicitDefEqProofs (maxSteps := 1000000) (disch := omega) [go_sem, t6_14, t25_14, t26_14, t27_14, or0_14] <;> omega), by first | with_reducible rfl | with_reducible assumption | (simp -implicitDefEqProofs (maxSteps := 1000000) (disch := omega) [go_sem, t6_14, t25_14, t26_14, t27_14, or0_14] <;> omega), by first | with_reducible rfl | with_reducible assumption | (simp -implicitDefEqProofs (maxSteps := 1000000) (disch := omega) [go_sem, t6_14, t25_14, t26_14, t27_14, or0_14] <;> omega), by first | with_reducible rfl | with_reducible assumption | (simp -implicitDefEqProofs (maxSteps := 1000000) (disch := omega) [go_sem, t6_14, t25_14, t26_14, t27_14, or0_14] <;> omega), by first | with_reducible rfl | with_reducible assumption | (simp -implicitDefEqProofs (maxSteps := 1000000) (disch := omega) [go_sem, t6_14, t25_14, t26_14, t27_14, or0_14] <;> omega)⟩
    ·intro c23 h
     try simp -implicitDefEqProofs (disch := omega) at c23
     refine vcK ?_
     simp -implicitDefEqProofs only [go_sem]
     have e14 := Option.some.inj h
     subst e14
     have hy14 := hret14 _ rfl
     refine hc14 _ _ ?_
     refine .same ⟨n16, v15, hy14, by repeat (first | exact he14 | refine Ext.new ?_ _ | refine Ext.set ?_ (by first | omega | (simp [go_sem]; done) | (simp [go_sem]; omega)) _ | refine Ext.del ?_ (by first | omega | (simp [go_sem]; done) | (simp [go_sem]; omega))), by first | with_reducible rfl | with_reducible assumption | omega | (simp -implicitDefEqProofs (maxSteps := 1000000) (disch := omega) [go_sem, t6_14, t25_14, t26_14, t27_14, or0_14] <;> omega), by first | with_reducible rfl | with_reducible assumption | omega | (simp -implicitDefEqProofs (maxSteps := 1000000) (disch := omega) [go_sem, t6_14, t25_14, t26_14, t27_14, or0_14] <;> omega), by first | with_reducible rfl | with_reducible assumption | omega | (simp -implicitDefEqProofs (maxSteps := 1000000) (disch := omega) [go_sem, t6_14, t25_14, t26_14, t27_14, or0_14] <;> omega), by first | with_reducible rfl | with_reducible assumption | (simp -implicitDefEqProofs (maxSteps := 1000000) (disch := omega) [go_sem, t6_14, t25_14, t26_14, t27_14, or0_14] <;> omega), by first | with_reducible rfl | with_reducible assumption | (simp -implicitDefEqProofs (maxSteps := 1000000) (disch := omega) [go_sem, t6_14, t25_14, t26_14, t27_14, or0_14] <;> omega)⟩
 ·refine IWp_block ?_
  refine IWp_loopF (fun (s : Int × Int) tm' H' => H = H' ∧ tm' 0 = .sl 1 (a0.map fun x => [.sl 2 (x.map fun x => [.v (str x.fName), .sl 1 (x.fValues.map fun x => [.v (str x)])])]) ∧ tm' 3 = .v (.int .i64 s.1) ∧ tm' 9 = .sl 1 (a0.map fun x => [.sl 2 (x.map fun x => [.v (str x.fName), .sl 1 (x.fValues.map fun x => [.v (str x)])])]) ∧ tm' 10 = .v (.int .i64 (a0.length : Int)) ∧ tm' 11 = .v (.int .i64 s.2)) hl5q ?_ ?_
  ·refine .same ⟨rfl, ?_, ?_, ?_, ?_, ?_⟩ <;> first | with_reducible rfl | with_reducible assumption | (simp -implicitDefEqProofs (maxSteps := 1000000) (disch := omega) [go_sem] <;> omega)
  ·rintro I5 hI5 ⟨v6, v7⟩ x5 tm5 H5 ⟨rfl, t0_5, t3_5, t9_5, t10_5, t11_5⟩ h hret5
   replace h : F57_b5 a0 v6 v7 = some x5 := h
   unfold F57_b5 at h
   refine IWp_seqF fun cb hc28 => ?_
   refine vcK ?_
   try simp -implicitDefEqProofs (maxSteps := 1000000) (disch := omega) [go_sem, t0_5, t3_5, t9_5, t10_5, t11_5]
   subst hc28
   refine IWp_seqF fun cb hc29 => ?_
   refine IWp_cond_i h (by first | with_reducible rfl | (simp -implicitDefEqProofs (maxSteps := 1000000) (disch := omega) [go_sem, t0_5, t3_5, t9_5, t10_5, t11_5] <;> omega)) rfl ?_ ?_
   ·intro c30 h
    try simp -implicitDefEqProofs (disch := omega) at c30
    refine vcK ?_
    simp -implicitDefEqProofs only [go_sem]
    subst hc29
    refine IWp_seqF fun cb hc31 => ?_
    refine IWp_block ?_
    refine IWp_seqF fun cb hc32 => ?_
    refine vcK ?_
    obtain ⟨g33, h⟩ := gd_some.1 h
    try simp -implicitDefEqProofs (disch := omega) at g33
    try simp -implicitDefEqProofs (maxSteps := 1000000) (disch := omega) [go_sem, t0_5, t3_5, t9_5, t10_5, t11_5]
    subst hc32
    refine IWp_seqF fun cb hc34 => ?_
    refine vcK ?_
    try simp -implicitDefEqProofs (maxSteps := 1000000) (disch := omega) [go_sem, t0_5, t3_5, t9_5, t10_5, t11_5]
    subst hc34
    refine IWp_seqF fun cb hc35 => ?_
    refine vcK ?_
    try simp -implicitDefEqProofs (maxSteps := 1000000) (disch := omega) [go_sem, t0_5, t3_5, t9_5, t10_5, t11_5]
    subst hc35
    refine IWp_cond_i h (by first | with_reducible rfl | (simp -implicitDefEqProofs (maxSteps := 1000000) (disch := omega) [go_sem, t0_5, t3_5, t9_5, t10_5, t11_5] <;> omega)) rfl ?_ ?_
    ·intro c36 h
     try simp -implicitDefEqProofs (disch := omega) at c36
     cases h
    ·intro c36 h
     try simp -implicitDefEqProofs (disch := omega) at c36
     refine vcK ?_
     simp -implicitDefEqProofs only [go_sem]
     subst hc31
     refine vcK ?_
     try simp -implicitDefEqProofs (maxSteps := 1000000) (disch := omega) [go_sem, t0_5, t3_5, t9_5, t10_5, t11_5]
     have e5 := Option.some.inj h
     subst e5
     refine loopN_mk hI5 ((IntKind.i64.wrap (v6 + (((a0.getD v7.toNat []).length : Int))), IntKind.i64.wrap (v7 + 1))) ?_
     refine .same ⟨rfl, ?_, ?_, ?_, ?_, ?_⟩ <;> first | with_reducible rfl | with_reducible assumption | (simp -implicitDefEqProofs (maxSteps := 1000000) (disch := omega) [go_sem, t0_5, t3_5, t9_5, t10_5, t11_5] <;> omega)
   ·intro c30 h
    try simp -implicitDefEqProofs (disch := omega) at c30
    refine vcK ?_
    simp -implicitDefEqProofs only [go_sem]
    have e5 := Option.some.inj h
    subst e5
    have hy5 := hret5 _ rfl
    refine hc5 _ _ ?_
    refine .same ⟨v6, hy5, rfl, ?_, ?_⟩ <;> first | with_reducible rfl | with_reducible assumption | (simp -implicitDefEqProofs (maxSteps := 1000000) (disch := omega) [go_sem, t0_5, t3_5, t9_5, t10_5, t11_5] <;> omega)

/-! cardcase/entry.Get -/

noncomputable def F22_k4  : Option ((List (List UInt8))) :=
 some []

noncomputable def F22_b4 (a0 : List S50) (a1 : List UInt8) (v5 : Int) : Option (Int ⊕ (Unit ⊕ ((List (List UInt8))))) :=
 if v5 < (a0.length : Int) then (gd (0 ≤ v5 ∧ v5 < a0.length) ((F41 a1).bind fun (x14 : (List UInt8)) => if ((a0.getD v5.toNat S50.zero).fName) = x14 then ((F56 ((a0.getD v5.toNat S50.zero).fValues)).bind fun (x17 : (List (List UInt8))) => some (.inr (.inr x17))) else (some (.inl (IntKind.i64.wrap (v5 + 1)))))) else (some (.inr (.inl ())))

noncomputable def F22 (a0 : List S50) (a1 : List UInt8) : Option ((List (List UInt8))) :=
 (loopO (fun (s : Int) => F22_b4 a0 a1 s) 0).bind fun y => Sum.elim (fun (e : Unit) => F22_k4) (fun (q : (List (List UInt8))) => some q) y

set_option maxHeartbeats 8000000 in
set_option pp.deepTerms false in
set_option maxRecDepth 60000 in
theorem F22_ok {H : IHeap} {K : IEnd → IHeap → Prop} (a0 : List S50) (a1 : List UInt8) {r : (List (List UInt8))} (h : F22 a0 a1 = some r) (hK : K (.ret (.sl 1 (r.map fun x => [.v (str x)]))) H) : ICalls prog 22 [.sl 2 (a0.map fun x => [.v (str x.fName), .sl 1 (x.fValues.map fun x => [.v (str x)])]), .v (str a1)] H K := by
 refine ICalls_iwp (N := 22) func22 (by kernel_rfl) rfl (by kernel_rfl) (by kernel_rfl) fun cb hcb hw hbd hnb => ?_
 clear hbd hnb
 subst hcb
 unfold F22 at h
 refine IWp_seqF fun cb hc1 => ?_
 refine vcK ?_
 try simp -implicitDefEqProofs (maxSteps := 1000000) (disch := omega) [go_sem]
 subst hc1
 refine IWp_seqF fun cb hc2 => ?_
 refine IWp_seqF fun cb hc3 => ?_
 refine vcK ?_
 try simp -implicitDefEqProofs (maxSteps := 1000000) (disch := omega) [go_sem]
 subst hc3
 obtain ⟨y4, hl4q, hk4⟩ := bind_some' h
 refine IWp_tailC (fun tm' H' => .inl () = y4 ∧ Ext H H' ∧ H.next ≤ H'.next) ?_ fun cb hc4 => ?_
 ·rintro tm4e H4e ⟨rfl, he4e, hl4e⟩
  have h : F22_k4 = some r := hk4
  unfold F22_k4 at h
  simp -implicitDefEqProofs only [go_sem]
  subst hc2
  refine IWp_seqF fun cb hc6 => ?_
  refine vcK ?_
  try simp -implicitDefEqProofs (maxSteps := 1000000) (disch := omega) [go_sem]
  subst hc6
  refine IWp.gh (Gh.slotN 4 1 (by simp -implicitDefEqProofs (maxSteps := 1000000) (disch := omega) [go_sem])) ?_
  refine vcK ?_
  simp -implicitDefEqProofs only [go_sem]
  have er := Option.some.inj h
  subst er
  try simp -implicitDefEqProofs (maxSteps := 1000000) (disch := omega) [go_sem]
  refine retG_pureA he4e hK (e := by first | with_reducible rfl | (simp -implicitDefEqProofs (maxSteps := 1000000) (disch := omega) [go_sem] <;> omega))
 ·refine IWp_block ?_
  refine IWp_loopF (fun (s : Int) tm' H' => Ext H H' ∧ H.next ≤ H'.next ∧ tm' 1 = .v (str a1) ∧ tm' 7 = .sl 2 (a0.map fun x => [.v (str x.fName), .sl 1 (x.fValues.map fun x => [.v (str x)])]) ∧ tm' 8 = .v (.int .i64 (a0.length : Int)) ∧ tm' 9 = .v (.int .i64 s)) hl4q ?_ ?_
  ·refine .same ⟨by repeat (first | exact (Ext.refl hw) | refine Ext.new ?_ _ | refine Ext.set ?_ (by first | omega | (simp [go_sem]; done) | (simp [go_sem]; omega)) _ | refine Ext.del ?_ (by first | omega | (simp [go_sem]; done) | (simp [go_sem]; omega))), by first | with_reducible rfl | with_reducible assumption | omega | (simp -implicitDefEqProofs (maxSteps := 1000000) (disch := omega) [go_sem] <;> omega), by first | with_reducible rfl | with_reducible assumption | (simp -implicitDefEqProofs (maxSteps := 1000000) (disch := omega) [go_sem] <;> omega), by first | with_reducible rfl | with_reducible assumption | (simp -implicitDefEqProofs (maxSteps := 1000000) (disch := omega) [go_sem] <;> omega), by first | with_reducible rfl | with_reducible assumption | (simp -implicitDefEqProofs (maxSteps := 1000000) (disch := omega) [go_sem] <;> omega), by first | with_reducible rfl | with_reducible assumption | (simp -implicitDefEqProofs (maxSteps := 1000000) (disch := omega) [go_sem] <;> omega)⟩
  ·rintro I4 hI4 v5 x4 tm4 H4 ⟨he4, hl4, t1_4, t7_4, t8_4, t9_4⟩ h hret4
   replace h : F22_b4 a0 a1 v5 = some x4 := h
   unfold F22_b4 at h
   refine IWp_seqF fun cb hc7 => ?_
   refine vcK ?_
   try simp -implicitDefEqProofs (maxSteps := 1000000) (disch := omega) [go_sem, t1_4, t7_4, t8_4, t9_4]
   subst hc7
   refine IWp_seqF fun cb hc8 => ?_
   refine IWp_cond_i h (by first | with_reducible rfl | (simp -implicitDefEqProofs (maxSteps := 1000000) (disch := omega) [go_sem, t1_4, t7_4, t8_4, t9_4] <;> omega)) rfl ?_ ?_
   ·intro c9 h
    try simp -implicitDefEqProofs (disch := omega) at c9
    refine vcK ?_
    simp -implicitDefEqProofs only [go_sem]
    subst hc8
    refine IWp_seqF fun cb hc10 => ?_
    refine IWp_block ?_
    refine IWp_seqF fun cb hc11 => ?_
    refine vcK ?_
    obtain ⟨g12, h⟩ := gd_some.1 h
    try simp -implicitDefEqProofs (disch := omega) at g12
    try simp -implicitDefEqProofs (maxSteps := 1000000) (disch := omega) [go_sem, t1_4, t7_4, t8_4, t9_4]
    subst hc11
    refine IWp_seqF fun cb hc13 => ?_
    refine IWp_drawP [3] [0, 1, 2, 3, 4] (by kernel_rfl) (by kernel_rfl) (fun _ _ _ _ h => h) ?_
    try simp -implicitDefEqProofs (maxSteps := 1000000) (disch := omega) [go_sem, t1_4, t7_4, t8_4, t9_4]
    obtain ⟨x14, hx14, h⟩ := bind_some' h
    refine PureC.mk _ (fun _ _ hK => ICalls.eqA (args' := [.v (str a1)]) (by first | with_reducible rfl | (simp -implicitDefEqProofs (maxSteps := 1000000) (disch := omega) [go_sem, t1_4, t7_4, t8_4, t9_4] <;> omega)) (F41_ok a1 hx14 hK)) ?_
    try simp -implicitDefEqProofs (maxSteps := 1000000) (disch := omega) [go_sem, t1_4, t7_4, t8_4, t9_4]
    subst hc13
    refine IWp_cond_i h (by first | with_reducible rfl | (simp -implicitDefEqProofs (maxSteps := 1000000) (disch := omega) [go_sem, t1_4, t7_4, t8_4, t9_4] <;> omega)) rfl ?_ ?_
    ·intro c15 h
     try simp -implicitDefEqProofs (disch := omega) at c15
     refine IWp_seqF fun cb hc16 => ?_
     refine vcK ?_
     try simp -implicitDefEqProofs (maxSteps := 1000000) (disch := omega) [go_sem, t1_4, t7_4, t8_4, t9_4]
     obtain ⟨x17, hx17, h⟩ := bind_some' h
     refine ICalls.eqA (args' := [.sl 1 (((a0.getD v5.toNat S50.zero).fValues).map fun x => [.v (str x)])]) (by first | with_reducible rfl | (simp -implicitDefEqProofs (maxSteps := 1000000) (disch := omega) [go_sem, t1_4, t7_4, t8_4, t9_4] <;> omega)) (F56_ok ((a0.getD v5.toNat S50.zero).fValues) hx17 ?_)
     try simp -implicitDefEqProofs (maxSteps := 1000000) (disch := omega) [go_sem, t1_4, t7_4, t8_4, t9_4]
     subst hc16
     refine vcK ?_
     simp -implicitDefEqProofs only [go_sem]
     have e4 := Option.some.inj h
     subst e4
     have e4 := hret4 _ rfl
     subst e4
     replace h : some x17 = some r := hk4
     have er := Option.some.inj h
     subst er
     try simp -implicitDefEqProofs (maxSteps := 1000000) (disch := omega) [go_sem, t1_4, t7_4, t8_4, t9_4]
     refine retG_pureA he4 hK (e := by first | with_reducible rfl | (simp -implicitDefEqProofs (maxSteps := 1000000) (disch := omega) [go_sem, t1_4, t7_4, t8_4, t9_4] <;> omega))
    ·intro c15 h
     try simp -implicitDefEqProofs (disch := omega) at c15
     refine vcK ?_
     simp -implicitDefEqProofs only [go_sem]
     subst hc10
     refine vcK ?_
     try simp -implicitDefEqProofs (maxSteps := 1000000) (disch := omega) [go_sem, t1_4, t7_4, t8_4, t9_4]
     have e4 := Option.some.inj h
     subst e4
     refine loopN_mk hI4 (IntKind.i64.wrap (v5 + 1)) ?_
     refine .same ⟨by repeat (first | exact he4 | refine Ext.new ?_ _ | refine Ext.set ?_ (by first | omega | (simp [go_sem]; done) | (simp [go_sem]; omega)) _ | refine Ext.del ?_ (by first | omega | (simp [go_sem]; done) | (simp [go_sem]; omega))), by first | with_reducible rfl | with_reducible assumption | omega | (simp -implicitDefEqProofs (maxSteps := 1000000) (disch := omega) [go_sem, t1_4, t7_4, t8_4, t9_4] <;> omega), by first | with_reducible rfl | with_reducible assumption | (simp -implicitDefEqProofs (maxSteps := 1000000) (disch := omega) [go_sem, t1_4, t7_4, t8_4, t9_4] <;> omega), by first | with_reducible rfl | with_reducible assumption | (simp -implicitDefEqProofs (maxSteps := 1000000) (disch := omega) [go_sem, t1_4, t7_4, t8_4, t9_4] <;> omega), by first | with_reducible rfl | with_reducible assumption | (simp -implicitDefEqProofs (maxSteps := 1000000) (disch := omega) [go_sem, t1_4, t7_4, t8_4, t9_4] <;> omega), by first | with_reducible rfl | with_reducible assumption | (simp -implicitDefEqProofs (maxSteps := 1000000) (disch := omega) [go_sem, t1_4, t7_4, t8_4, t9_4] <;> omega)⟩
   ·intro c9 h
    try simp -implicitDefEqProofs (disch := omega) at c9
    refine vcK ?_
    simp -implicitDefEqProofs only [go_sem]
    have e4 := Option.some.inj h
    subst e4
    have hy4 := hret4 _ rfl
    refine hc4 _ _ ?_
    refine .same ⟨hy4, by repeat (first | exact he4 | refine Ext.new ?_ _ | refine Ext.set ?_ (by first | omega | (simp [go_sem]; done) | (simp [go_sem]; omega)) _ | refine Ext.del ?_ (by first | omega | (simp [go_sem]; done) | (simp [go_sem]; omega))), by first | with_reducible rfl | with_reducible assumption | omega | (simp -implicitDefEqProofs (maxSteps := 1000000) (disch := omega) [go_sem, t1_4, t7_4, t8_4, t9_4] <;> omega)⟩

/-! slices.Equal[[]string,string] -/

noncomputable def F60_k8  : Option Bool :=
 some true

noncomputable def F60_b8 (a0 : List (List UInt8)) (a1 : List (List UInt8)) (v9 : Int) : Option (Int ⊕ (Unit ⊕ Bool)) :=
 if v9 < (a0.length : Int) then (gd (0 ≤ v9 ∧ v9 < a0.length) (gd (0 ≤ v9 ∧ v9 < a1.length) (if ¬ (a0.getD v9.toNat []) = (a1.getD v9.toNat []) then (some (.inr (.inr false))) else (some (.inl (IntKind.i64.wrap (v9 + 1))))))) else (some (.inr (.inl ())))

noncomputable def F60 (a0 : List (List UInt8)) (a1 : List (List UInt8)) : Option Bool :=
 if ¬ (a0.length : Int) = (a1.length : Int) then (some false) else ((loopO (fun (s : Int) => F60_b8 a0 a1 s) 0).bind fun y => Sum.elim (fun (e : Unit) => F60_k8) (fun (q : Bool) => some q) y)

set_option maxHeartbeats 8000000 in
set_option pp.deepTerms false in
set_option maxRecDepth 60000 in
theorem F60_ok {H : IHeap} {K : IEnd → IHeap → Prop} (a0 : List (List UInt8)) (a1 : List (List UInt8)) {r : Bool} (h : F60 a0 a1 = some r) (hK : K (.ret (.v (.bool r))) H) : ICalls prog 60 [.sl 1 (a0.map fun x => [.v (str x)]), .sl 1 (a1.map fun x => [.v (str x)])] H K := by
 refine ICalls_iwp (N := 26) func60 (by kernel_rfl) rfl (by kernel_rfl) (by kernel_rfl) fun cb hcb hw hbd hnb => ?_
 clear hbd hnb
 subst hcb
 unfold F60 at h
 refine IWp_seqF fun cb hc1 => ?_
 refine vcK ?_
 try simp -implicitDefEqProofs (maxSteps := 1000000) (disch := omega) [go_sem]
 subst hc1
 refine IWp_seqF fun cb hc2 => ?_
 refine IWp_seqF fun cb hc3 => ?_
 refine vcK ?_
 try simp -implicitDefEqProofs (maxSteps := 1000000) (disch := omega) [go_sem]
 subst hc3
 refine IWp_cond_i h (by first | with_reducible rfl | (simp -implicitDefEqProofs (maxSteps := 1000000) (disch := omega) [go_sem] <;> omega)) rfl ?_ ?_
 ·intro c4 h
  try simp -implicitDefEqProofs (disch := omega) at c4
  refine IWp_seqF fun cb hc5 => ?_
  refine vcK ?_
  try simp -implicitDefEqProofs (maxSteps := 1000000) (disch := omega) [go_sem]
  subst hc5
  refine vcK ?_
  simp -implicitDefEqProofs only [go_sem]
  have er := Option.some.inj h
  subst er
  try simp -implicitDefEqProofs (maxSteps := 1000000) (disch := omega) [go_sem]
  refine retG_pureA (Ext.refl hw) hK (e := by first | with_reducible rfl | (simp -implicitDefEqProofs (maxSteps := 1000000) (disch := omega) [go_sem] <;> omega))
 ·intro c4 h
  try simp -implicitDefEqProofs (disch := omega) at c4
  refine vcK ?_
  simp -implicitDefEqProofs only [go_sem]
  subst hc2
  refine IWp_seqF fun cb hc6 => ?_
  refine IWp_seqF fun cb hc7 => ?_
  refine vcK ?_
  try simp -implicitDefEqProofs (maxSteps := 1000000) (disch := omega) [go_sem]
  subst hc7
  obtain ⟨y8, hl8q, hk8⟩ := bind_some' h
  refine IWp_tailC (fun tm' H' => .inl () = y8 ∧ H = H') ?_ fun cb hc8 => ?_
  ·rintro tm8e H8e ⟨rfl, rfl⟩
   have h : F60_k8 = some r := hk8
   unfold F60_k8 at h
   simp -implicitDefEqProofs only [go_sem]
   subst hc6
   refine IWp_seqF fun cb hc10 => ?_
   refine vcK ?_
   try simp -implicitDefEqProofs (maxSteps := 1000000) (disch := omega) [go_sem]
   subst hc10
   refine vcK ?_
   simp -implicitDefEqProofs only [go_sem]
   have er := Option.some.inj h
   subst er
   try simp -implicitDefEqProofs (maxSteps := 1000000) (disch := omega) [go_sem]
   refine retG_pureA (Ext.refl hw) hK (e := by first | with_reducible rfl | (simp -implicitDefEqProofs (maxSteps := 1000000) (disch := omega) [go_sem] <;> omega))
  ·refine IWp_block ?_
   refine IWp_loopF (fun (s : Int) tm' H' => H = H' ∧ tm' 0 = .sl 1 (a0.map fun x => [.v (str x)]) ∧ tm' 1 = .sl 1 (a1.map fun x => [.v (str x)]) ∧ tm' 12 = .v (.int .i64 (a0.length : Int)) ∧ tm' 13 = .v (.int .i64 s)) hl8q ?_ ?_
   ·refine .same ⟨rfl, ?_, ?_, ?_, ?_⟩ <;> first | with_reducible rfl | with_reducible assumption | (simp -implicitDefEqProofs (maxSteps := 1000000) (disch := omega) [go_sem] <;> omega)
   ·rintro I8 hI8 v9 x8 tm8 H8 ⟨rfl, t0_8, t1_8, t12_8, t13_8⟩ h hret8
    replace h : F60_b8 a0 a1 v9 = some x8 := h
    unfold F60_b8 at h
    refine IWp_seqF fun cb hc11 => ?_
    refine vcK ?_
    try simp -implicitDefEqProofs (maxSteps := 1000000) (disch := omega) [go_sem, t0_8, t1_8, t12_8, t13_8]
    subst hc11
    refine IWp_seqF fun cb hc12 => ?_
    refine IWp_cond_i h (by first | with_reducible rfl | (simp -implicitDefEqProofs (maxSteps := 1000000) (disch := omega) [go_sem, t0_8, t1_8, t12_8, t13_8] <;> omega)) rfl ?_ ?_
    ·intro c13 h
     try simp -implicitDefEqProofs (disch := omega) at c13
     refine vcK ?_
     simp -implicitDefEqProofs only [go_sem]
     subst hc12
     refine IWp_seqF fun cb hc14 => ?_
     refine IWp_block ?_
     refine IWp_seqF fun cb hc15 => ?_
     refine vcK ?_
     try simp -implicitDefEqProofs (maxSteps := 1000000) (disch := omega) [go_sem, t0_8, t1_8, t12_8, t13_8]
     subst hc15
     refine IWp_seqF fun cb hc16 => ?_
     refine IWp_drawP [] [0, 1, 2, 3, 4, 5, 6, 7, 8] (by kernel_rfl) (by kernel_rfl) (fun _ _ _ _ h => h) ?_
     obtain ⟨g17, h⟩ := gd_some.1 h
     try simp -implicitDefEqProofs (disch := omega) at g17
     obtain ⟨g18, h⟩ := gd_some.1 h
     try simp -implicitDefEqProofs (disch := omega) at g18
     try simp -implicitDefEqProofs (maxSteps := 1000000) (disch := omega) [go_sem, t0_8, t1_8, t12_8, t13_8]
     subst hc16
     refine IWp_cond_i h (by first | with_reducible rfl | (simp -implicitDefEqProofs (maxSteps := 1000000) (disch := omega) [go_sem, t0_8, t1_8, t12_8, t13_8] <;> omega)) rfl ?_ ?_
     ·intro c19 h
      try simp -implicitDefEqProofs (disch := omega) at c19
      refine IWp_seqF fun cb hc20 => ?_
      refine vcK ?_
      try simp -implicitDefEqProofs (maxSteps := 1000000) (disch := omega) [go_sem, t0_8, t1_8, t12_8, t13_8]
      subst hc20
      refine vcK ?_
      simp -implicitDefEqProofs only [go_sem]
      have e8 := Option.some.inj h
      subst e8
      have e8 := hret8 _ rfl
      subst e8
      replace h : some false = some r := hk8
      have er := Option.some.inj h
      subst er
      try simp -implicitDefEqProofs (maxSteps := 1000000) (disch := omega) [go_sem, t0_8, t1_8, t12_8, t13_8]
      refine retG_pureA (Ext.refl hw) hK (e := by first | with_reducible rfl | (simp -implicitDefEqProofs (maxSteps := 1000000) (disch := omega) [go_sem, t0_8, t1_8, t12_8, t13_8] <;> omega))
     ·intro c19 h
      try simp -implicitDefEqProofs (disch := omega) at c19
      refine vcK ?_
      simp -implicitDefEqProofs only [go_sem]
      subst hc14
      refine vcK ?_
      try simp -implicitDefEqProofs (maxSteps := 1000000) (disch := omega) [go_sem, t0_8, t1_8, t12_8, t13_8]
      have e8 := Option.some.inj h
      subst e8
      refine loopN_mk hI8 (IntKind.i64.wrap (v9 + 1)) ?_
      refine .same ⟨rfl, ?_, ?_, ?_, ?_⟩ <;> first | with_reducible rfl | with_reducible assumption | (simp -implicitDefEqProofs (maxSteps := 1000000) (disch := omega) [go_sem, t0_8, t1_8, t12_8, t13_8] <;> omega)
    ·intro c13 h
     try simp -implicitDefEqProofs (disch := omega) at c13
     refine vcK ?_
     simp -implicitDefEqProofs only [go_sem]
     have e8 := Option.some.inj h
     subst e8
     have hy8 := hret8 _ rfl
     refine hc8 _ _ ?_
     refine .same ⟨hy8, rfl⟩

/-! cardcase/entry.Diff -/

noncomputable def F24_k17 (v21 : List S48) : Option ((List S48) × Int) :=
 some (v21, 0)

noncomputable def F24_b17 (a0 : List S50) (a1 : List S50) (x16 : (List (List UInt8))) (v18 : List S48) (v20 : Int) : Option (((List S48) × Int) ⊕ (List S48)) :=
 if v20 < (x16.length : Int) then (gd (0 ≤ v20 ∧ v20 < x16.length) ((F22 a0 (x16.getD v20.toNat [])).bind fun (x31 : (List (List UInt8))) => (F22 a1 (x16.getD v20.toNat [])).bind fun (x32 : (List (List UInt8))) => (F60 x31 x32).bind fun (x36 : Bool) => if x36 = true then (some (.inl ((v18, IntKind.i64.wrap (v20 + 1))))) else (if (x32.length : Int) = 0 then (gd ((v18.length + ([(⟨2, x16.getD v20.toNat [], x32⟩ : S48)]).length) * 48 ≤ 140737488355328) (some (.inl ((v18 ++ ([(⟨2, x16.getD v20.toNat [], x32⟩ : S48)]), IntKind.i64.wrap (v20 + 1)))))) else (if (x31.length : Int) = 0 then (gd ((v18.length + ([(⟨1, x16.getD v20.toNat [], x32⟩ : S48)]).length) * 48 ≤ 140737488355328) (some (.inl ((v18 ++ ([(⟨1, x16.getD v20.toNat [], x32⟩ : S48)]), IntKind.i64.wrap (v20 + 1)))))) else (gd ((v18.length + ([(⟨3, x16.getD v20.toNat [], x32⟩ : S48)]).length) * 48 ≤ 140737488355328) (some (.inl ((v18 ++ ([(⟨3, x16.getD v20.toNat [], x32⟩ : S48)]), IntKind.i64.wrap (v20 + 1)))))))))) else (some (.inr v18))

noncomputable def F24 (a0 : List S50) (a1 : List S50) : Option ((List S48) × Int) :=
 (F17 a0).bind fun (x4 : Int) => if ¬ x4 = 0 then (some ([], 2)) else ((F17 a1).bind fun (x6 : Int) => if ¬ x6 = 0 then (some ([], 2)) else ((F57 ([a0, a1])).bind fun (x11 : (List S50)) => (F40 x11).bind fun (x12 : (List (List UInt8 × (List (List UInt8))))) => (F58k x12).bind fun (x16 : (List (List UInt8))) => (loopO (fun (s : (List S48) × Int) => F24_b17 a0 a1 x16 s.1 s.2) ([], 0)).bind fun (e : (List S48)) => F24_k17 e))

set_option maxHeartbeats 8000000 in
set_option pp.deepTerms false in
set_option maxRecDepth 60000 in
theorem F24_ok {H : IHeap} {K : IEnd → IHeap → Prop} (a0 : List S50) (a1 : List S50) {r : (List S48) × Int} (h : F24 a0 a1 = some r) (hK : K (.ret (.tu [.sl 3 (r.1.map fun x => [.v (.int .i64 x.fKind), .v (str x.fName), .sl 1 (x.fValues.map fun x => [.v (str x)])]), .v (.int .i64 r.2)])) H) : ICalls prog 24 [.sl 2 (a0.map fun x => [.v (str x.fName), .sl 1 (x.fValues.map fun x => [.v (str x)])]), .sl 2 (a1.map fun x => [.v (str x.fName), .sl 1 (x.fValues.map fun x => [.v (str x)])])] H K := by
 refine ICalls_iwp (N := 63) func24 (by kernel_rfl) rfl (by kernel_rfl) (by kernel_rfl) fun cb hcb hw hbd hnb => ?_
 clear hbd hnb
 subst hcb
 unfold F24 at h
 refine IWp_seqF fun cb hc1 => ?_
 refine vcK ?_
 try simp -implicitDefEqProofs (maxSteps := 1000000) (disch := omega) [go_sem, bdP]
 subst hc1
 refine IWp_seqF fun cb hc2 => ?_
 refine IWp_seqF fun cb hc3 => ?_
 refine vcK ?_
 try simp -implicitDefEqProofs (maxSteps := 1000000) (disch := omega) [go_sem, bdP]
 obtain ⟨x4, hx4, h⟩ := bind_some' h
 refine ICalls.eqA (args' := [.sl 2 (a0.map fun x => [.v (str x.fName), .sl 1 (x.fValues.map fun x => [.v (str x)])])]) (by first | with_reducible rfl | (simp -implicitDefEqProofs (maxSteps := 1000000) (disch := omega) [go_sem, bdP] <;> omega)) (F17_ok a0 hx4 ?_)
 try simp -implicitDefEqProofs (maxSteps := 1000000) (disch := omega) [go_sem, bdP]
 refine splitG_f h (by first | with_reducible rfl | (simp -implicitDefEqProofs (maxSteps := 1000000) (disch := omega) [go_sem, bdP] <;> omega)) ?_ ?_
 ·intro c49 h
  try simp -implicitDefEqProofs (disch := omega) at c49
  try simp -implicitDefEqProofs (maxSteps := 1000000) (disch := omega) [go_sem, bdP]
  subst hc3
  refine IWp_cond_t (by first | with_reducible rfl | (simp -implicitDefEqProofs (maxSteps := 1000000) (disch := omega) [go_sem, bdP] <;> omega)) rfl ?_
  refine IWp_seqF fun cb hc5 => ?_
  refine vcK ?_
  try simp -implicitDefEqProofs (maxSteps := 1000000) (disch := omega) [go_sem, bdP]
  subst hc5
  refine IWp.gh (Gh.slotN 4 3 (by simp -implicitDefEqProofs (maxSteps := 1000000) (disch := omega) [go_sem, bdP])) ?_
  refine vcK ?_
  simp -implicitDefEqProofs only [go_sem]
  have er := Option.some.inj h
  subst er
  try simp -implicitDefEqProofs (maxSteps := 1000000) (disch := omega) [go_sem, bdP]
  refine retG_pureA (Ext.refl hw) hK (e := by first | with_reducible rfl | (simp -implicitDefEqProofs (maxSteps := 1000000) (disch := omega) [go_sem, bdP] <;> omega))
 ·intro c49 h
  try simp -implicitDefEqProofs (disch := omega) at c49
  try simp -implicitDefEqProofs (maxSteps := 1000000) (disch := omega) [go_sem, bdP]
  obtain ⟨x6, hx6, h⟩ := bind_some' h
  refine ICalls.eqA (args' := [.sl 2 (a1.map fun x => [.v (str x.fName), .sl 1 (x.fValues.map fun x => [.v (str x)])])]) (by first | with_reducible rfl | (simp -implicitDefEqProofs (maxSteps := 1000000) (disch := omega) [go_sem, bdP] <;> omega)) (F17_ok a1 hx6 ?_)
  try simp -implicitDefEqProofs (maxSteps := 1000000) (disch := omega) [go_sem, bdP]
  subst hc3
  refine IWp_cond_i h (by first | with_reducible rfl | (simp -implicitDefEqProofs (maxSteps := 1000000) (disch := omega) [go_sem, bdP] <;> omega)) rfl ?_ ?_
  ·intro c7 h
   try simp -implicitDefEqProofs (disch := omega) at c7
   refine IWp_seqF fun cb hc8 => ?_
   refine vcK ?_
   try simp -implicitDefEqProofs (maxSteps := 1000000) (disch := omega) [go_sem, bdP]
   subst hc8
   refine IWp.gh (Gh.slotN 4 3 (by simp -implicitDefEqProofs (maxSteps := 1000000) (disch := omega) [go_sem, bdP])) ?_
   refine vcK ?_
   simp -implicitDefEqProofs only [go_sem]
   have er := Option.some.inj h
   subst er
   try simp -implicitDefEqProofs (maxSteps := 1000000) (disch := omega) [go_sem, bdP]
   refine retG_pureA (Ext.refl hw) hK (e := by first | with_reducible rfl | (simp -implicitDefEqProofs (maxSteps := 1000000) (disch := omega) [go_sem, bdP] <;> omega))
  ·intro c7 h
   try simp -implicitDefEqProofs (disch := omega) at c7
   refine vcK ?_
   simp -implicitDefEqProofs only [go_sem]
   subst hc2
   refine IWp_seqF fun cb hc9 => ?_
   refine vcK ?_
   try simp -implicitDefEqProofs (maxSteps := 1000000) (disch := omega) [go_sem, bdP]
   subst hc9
   refine IWp_seqF fun cb hc10 => ?_
   refine vcK ?_
   try simp -implicitDefEqProofs (maxSteps := 1000000) (disch := omega) [go_sem, bdP]
   obtain ⟨x11, hx11, h⟩ := bind_some' h
   refine ICalls.eqA (args' := [.sl 1 (([a0, a1]).map fun x => [.sl 2 (x.map fun x => [.v (str x.fName), .sl 1 (x.fValues.map fun x => [.v (str x)])])])]) (by first | with_reducible rfl | (simp -implicitDefEqProofs (maxSteps := 1000000) (disch := omega) [go_sem, bdP] <;> omega)) (F57_ok ([a0, a1]) hx11 ?_)
   try simp -implicitDefEqProofs (maxSteps := 1000000) (disch := omega) [go_sem, bdP]
   obtain ⟨x12, hx12, h⟩ := bind_some' h
   refine ICalls.eqA (args' := [.sl 2 (x11.map fun x => [.v (str x.fName), .sl 1 (x.fValues.map fun x => [.v (str x)])])]) (by first | with_reducible rfl | (simp -implicitDefEqProofs (maxSteps := 1000000) (disch := omega) [go_sem, bdP] <;> omega)) (F40_ok x11 hx12 ?_)
   try simp -implicitDefEqProofs (maxSteps := 1000000) (disch := omega) [go_sem, bdP]
   subst hc10
   refine IWp_seqF fun cb hc13 => ?_
   refine IWp_seqF fun cb hc14 => ?_
   refine vcK ?_
   try simp -implicitDefEqProofs (maxSteps := 1000000) (disch := omega) [go_sem, bdP]
   refine ICalls.eqA (args' := [.mp H.next]) (by first | with_reducible rfl | (simp -implicitDefEqProofs (maxSteps := 1000000) (disch := omega) [go_sem, bdP] <;> omega)) (keys59_ok x12 H.next (by first | with_reducible assumption | simp -implicitDefEqProofs (maxSteps := 1000000) (disch := omega) [go_sem, bdP]) ?_)
   try simp -implicitDefEqProofs (maxSteps := 1000000) (disch := omega) [go_sem, bdP]
   obtain ⟨x16, hx16, h⟩ := bind_some' h
   refine ICalls.eqA (args' := [.fn (.func 93) [] [.p (H.next + 1) 0]]) (by first | with_reducible rfl | (simp -implicitDefEqProofs (maxSteps := 1000000) (disch := omega) [go_sem, bdP] <;> omega)) (F58k_ok x12 (H.next + 1) H.next (by first | with_reducible assumption | simp -implicitDefEqProofs (maxSteps := 1000000) (disch := omega) [go_sem, bdP]) (by first | with_reducible assumption | simp -implicitDefEqProofs (maxSteps := 1000000) (disch := omega) [go_sem, bdP]) hx16 ?_)
   try simp -implicitDefEqProofs (maxSteps := 1000000) (disch := omega) [go_sem, bdP]
   subst hc14
   obtain ⟨y17, hl17q, hk17⟩ := bind_some' h
   refine IWp_tailC (fun tm' H' => ∃ n22 : Nat, ∃ v21 : List S48, v21 = y17 ∧ Ext H H' ∧ H.next + 2 ≤ H'.next ∧ H.next ≤ n22 ∧ n22 < H'.next ∧ ¬ H.next = n22 ∧ ¬ H.next + 1 = n22 ∧ tm' 6 = .os n22 v21.length ∧ H'.obj H.next = some (.map (mE (fun (x : List (List UInt8)) => .sl 1 (x.map fun x => [.v (str x)])) x12)) ∧ H'.obj (H.next + 1) = some (.cells [.mp H.next]) ∧ H'.obj n22 = some (.row 3 (v21.map fun x => [.v (.int .i64 x.fKind), .v (str x.fName), .sl 1 (x.fValues.map fun x => [.v (str x)])]))) ?_ fun cb hc17 => ?_
   ·rintro tm17e H17e ⟨n22, v21, rfl, he17e, hl17e, hr0_17e, hs0_17e, hq45, hq46, t6_17e, ob0_17e, ob1_17e, or0_17e⟩
    have h : F24_k17 v21 = some r := hk17
    unfold F24_k17 at h
    simp -implicitDefEqProofs only [go_sem]
    subst hc13
    refine IWp_seqF fun cb hc23 => ?_
    refine vcK ?_
    try simp -implicitDefEqProofs (maxSteps := 1000000) (disch := omega) [go_sem, bdP, t6_17e, ob0_17e, ob1_17e, or0_17e]
    subst hc23
    refine IWp.gh (Gh.freeze (d := 4) (k := n22) (sz := 3) (es := v21.map fun x => [.v (.int .i64 x.fKind), .v (str x.fName), .sl 1 (x.fValues.map fun x => [.v (str x)])]) (by simp -implicitDefEqProofs (maxSteps := 1000000) (disch := omega) [go_sem, bdP, t6_17e, ob0_17e, ob1_17e, or0_17e]) (by simp -implicitDefEqProofs (maxSteps := 1000000) (disch := omega) [go_sem, bdP, t6_17e, ob0_17e, ob1_17e, or0_17e])) ?_
    refine vcK ?_
    simp -implicitDefEqProofs only [go_sem]
    have er := Option.some.inj h
    subst er
    try simp -implicitDefEqProofs (maxSteps := 1000000) (disch := omega) [go_sem, bdP, t6_17e, ob0_17e, ob1_17e, or0_17e]
    refine retG_pureA he17e hK (e := by first | with_reducible rfl | (simp -implicitDefEqProofs (maxSteps := 1000000) (disch := omega) [go_sem, bdP, t6_17e, ob0_17e, ob1_17e, or0_17e] <;> omega))
   ·refine IWp_block ?_
    refine IWp_loopF (fun (s : (List S48) × Int) tm' H' => ∃ n19 : Nat, Ext H H' ∧ H.next + 2 ≤ H'.next ∧ H.next ≤ n19 ∧ n19 < H'.next ∧ ¬ H.next = n19 ∧ ¬ H.next + 1 = n19 ∧ tm' 0 = .sl 2 (a0.map fun x => [.v (str x.fName), .sl 1 (x.fValues.map fun x => [.v (str x)])]) ∧ tm' 1 = .sl 2 (a1.map fun x => [.v (str x.fName), .sl 1 (x.fValues.map fun x => [.v (str x)])]) ∧ tm' 6 = .os n19 s.1.length ∧ tm' 28 = .sl 1 (x16.map fun x => [.v (str x)]) ∧ tm' 29 = .v (.int .i64 (x16.length : Int)) ∧ tm' 30 = .v (.int .i64 s.2) ∧ H'.obj H.next = some (.map (mE (fun (x : List (List UInt8)) => .sl 1 (x.map fun x => [.v (str x)])) x12)) ∧ H'.obj (H.next + 1) = some (.cells [.mp H.next]) ∧ H'.obj n19 = some (.row 3 (s.1.map fun x => [.v (.int .i64 x.fKind), .v (str x.fName), .sl 1 (x.fValues.map fun x => [.v (str x)])]))) hl17q ?_ ?_
    ·refine UpI.gh (Gh.nilrow (d := 6) (sz := 3) (by omega) (by (simp -implicitDefEqProofs (maxSteps := 1000000) (disch := omega) [go_sem, bdP] <;> omega))) ?_
     refine .same ⟨H.next + 2, by repeat (first | exact (Ext.refl hw) | refine Ext.new ?_ _ | refine Ext.set ?_ (by first | omega | (simp [go_sem]; done) | (simp [go_sem]; omega)) _ | refine Ext.del ?_ (by first | omega | (simp [go_sem]; done) | (simp [go_sem]; omega))), by first | with_reducible rfl | with_reducible assumption | omega | (simp -implicitDefEqProofs (maxSteps := 1000000) (disch := omega) [go_sem, bdP] <;> omega), by first | with_reducible rfl | with_reducible assumption | omega | (simp -implicitDefEqProofs (maxSteps := 1000000) (disch := omega) [go_sem, bdP] <;> omega), by first | with_reducible rfl | with_reducible assumption | omega | (simp -implicitDefEqProofs (maxSteps := 1000000) (disch := omega) [go_sem, bdP] <;> omega), by first | with_reducible rfl | with_reducible assumption | omega | (simp -implicitDefEqProofs (maxSteps := 1000000) (disch := omega) [go_sem, bdP] <;> omega), by first | with_reducible rfl | with_reducible assumption | omega | (simp -implicitDefEqProofs (maxSteps := 1000000) (disch := omega) [go_sem, bdP] <;> omega), by first | with_reducible rfl | with_reducible assumption | (simp -implicitDefEqProofs (maxSteps := 1000000) (disch := omega) [go_sem, bdP] <;> omega), by first | with_reducible rfl | with_reducible assumption | (simp -implicitDefEqProofs (maxSteps := 1000000) (disch := omega) [go_sem, bdP] <;> omega), by first | with_reducible rfl | with_reducible assumption | (simp -implicitDefEqProofs (maxSteps := 1000000) (disch := omega) [go_sem, bdP] <;> omega), by first | with_reducible rfl | with_reducible assumption | (simp -implicitDefEqProofs (maxSteps := 1000000) (disch := omega) [go_sem, bdP] <;> omega), by first | with_reducible rfl | with_reducible assumption | (simp -implicitDefEqProofs (maxSteps := 1000000) (disch := omega) [go_sem, bdP] <;> omega), by first | with_reducible rfl | with_reducible assumption | (simp -implicitDefEqProofs (maxSteps := 1000000) (disch := omega) [go_sem, bdP] <;> omega), by first | with_reducible rfl | with_reducible assumption | (simp -implicitDefEqProofs (maxSteps := 1000000) (disch := omega) [go_sem, bdP] <;> omega), by first | with_reducible rfl | with_reducible assumption | (simp -implicitDefEqProofs (maxSteps := 1000000) (disch := omega) [go_sem, bdP] <;> omega), by first | with_reducible rfl | with_reducible assumption | (simp -implicitDefEqProofs (maxSteps := 1000000) (disch := omega) [go_sem, bdP] <;> omega)⟩
    ·rintro I17 hI17 ⟨v18, v20⟩ x17 tm17 H17 ⟨n19, he17, hl17, hr0_17, hs0_17, hq47, hq48, t0_17, t1_17, t6_17, t28_17, t29_17, t30_17, ob0_17, ob1_17, or0_17⟩ h hret17
     replace h : F24_b17 a0 a1 x16 v18 v20 = some x17 := h
     unfold F24_b17 at h
     refine IWp_seqF fun cb hc24 => ?_
     refine vcK ?_
     try simp -implicitDefEqProofs (maxSteps := 1000000) (disch := omega) [go_sem, bdP, t0_17, t1_17, t6_17, t28_17, t29_17, t30_17, ob0_17, ob1_17, or0_17]
     subst hc24
     refine IWp_seqF fun cb hc25 => ?_
     refine IWp_cond_i h (by first | with_reducible rfl | (simp -implicitDefEqProofs (maxSteps := 1000000) (disch := omega) [go_sem, bdP, t0_17, t1_17, t6_17, t28_17, t29_17, t30_17, ob0_17, ob1_17, or0_17] <;> omega)) rfl ?_ ?_
     ·intro c26 h
      try simp -implicitDefEqProofs (disch := omega) at c26
      refine vcK ?_
      simp -implicitDefEqProofs only [go_sem]
      subst hc25
      refine IWp_seqF fun cb hc27 => ?_
      refine IWp_block ?_
      refine IWp_seqF fun cb hc28 => ?_
      refine vcK ?_
      obtain ⟨g29, h⟩ := gd_some.1 h
      try simp -implicitDefEqProofs (disch := omega) at g29
      try simp -implicitDefEqProofs (maxSteps := 1000000) (disch := omega) [go_sem, bdP, t0_17, t1_17, t6_17, t28_17, t29_17, t30_17, ob0_17, ob1_17, or0_17]
      subst hc28
      refine IWp_seqF fun cb hc30 => ?_
      refine vcK ?_
      try simp -implicitDefEqProofs (maxSteps := 1000000) (disch := omega) [go_sem, bdP, t0_17, t1_17, t6_17, t28_17, t29_17, t30_17, ob0_17, ob1_17, or0_17]
      obtain ⟨x31, hx31, h⟩ := bind_some' h
      refine ICalls.eqA (args' := [.sl 2 (a0.map fun x => [.v (str x.fName), .sl 1 (x.fValues.map fun x => [.v (str x)])]), .v (str (x16.getD v20.toNat []))]) (by first | with_reducible rfl | (simp -implicitDefEqProofs (maxSteps := 1000000) (disch := omega) [go_sem, bdP, t0_17, t1_17, t6_17, t28_17, t29_17, t30_17, ob0_17, ob1_17, or0_17] <;> omega)) (F22_ok a0 (x16.getD v20.toNat []) hx31 ?_)
      try simp -implicitDefEqProofs (maxSteps := 1000000) (disch := omega) [go_sem, bdP, t0_17, t1_17, t6_17, t28_17, t29_17, t30_17, ob0_17, ob1_17, or0_17]
      obtain ⟨x32, hx32, h⟩ := bind_some' h
      refine ICalls.eqA (args' := [.sl 2 (a1.map fun x => [.v (str x.fName), .sl 1 (x.fValues.map fun x => [.v (str x)])]), .v (str (x16.getD v20.toNat []))]) (by first | with_reducible rfl | (simp -implicitDefEqProofs (maxSteps := 1000000) (disch := omega) [go_sem, bdP, t0_17, t1_17, t6_17, t28_17, t29_17, t30_17, ob0_17, ob1_17, or0_17] <;> omega)) (F22_ok a1 (x16.getD v20.toNat []) hx32 ?_)
      try simp -implicitDefEqProofs (maxSteps := 1000000) (disch := omega) [go_sem, bdP, t0_17, t1_17, t6_17, t28_17, t29_17, t30_17, ob0_17, ob1_17, or0_17]
      subst hc30
      refine IWp_seqF fun cb hc33 => ?_
      refine vcK ?_
      try simp -implicitDefEqProofs (maxSteps := 1000000) (disch := omega) [go_sem, bdP, t0_17, t1_17, t6_17, t28_17, t29_17, t30_17, ob0_17, ob1_17, or0_17]
      subst hc33
      refine IWp_seqF fun cb hc34 => ?_
      refine IWp_block ?_
      refine IWp_seqF fun cb hc35 => ?_
      refine vcK ?_
      try simp -implicitDefEqProofs (maxSteps := 1000000) (disch := omega) [go_sem, bdP, t0_17, t1_17, t6_17, t28_17, t29_17, t30_17, ob0_17, ob1_17, or0_17]
      obtain ⟨x36, hx36, h⟩ := bind_some' h
      refine ICalls.eqA (args' := [.sl 1 (x31.map fun x => [.v (str x)]), .sl 1 (x32.map fun x => [.v (str x)])]) (by first | with_reducible rfl | (simp -implicitDefEqProofs (maxSteps := 1000000) (disch := omega) [go_sem, bdP, t0_17, t1_17, t6_17, t28_17, t29_17, t30_17, ob0_17, ob1_17, or0_17] <;> omega)) (F60_ok x31 x32 hx36 ?_)
      try simp -implicitDefEqProofs (maxSteps := 1000000) (disch := omega) [go_sem, bdP, t0_17, t1_17, t6_17, t28_17, t29_17, t30_17, ob0_17, ob1_17, or0_17]
      subst hc35
      refine IWp_cond_i h (by first | with_reducible rfl | (simp -implicitDefEqProofs (maxSteps := 1000000) (disch := omega) [go_sem, bdP, t0_17, t1_17, t6_17, t28_17, t29_17, t30_17, ob0_17, ob1_17, or0_17] <;> omega)) rfl ?_ ?_
      ·intro c37 h
       try simp -implicitDefEqProofs (disch := omega) at c37
       refine vcK ?_
       simp -implicitDefEqProofs only [go_sem]
       subst hc27
       refine vcK ?_
       try simp -implicitDefEqProofs (maxSteps := 1000000) (disch := omega) [go_sem, bdP, t0_17, t1_17, t6_17, t28_17, t29_17, t30_17, ob0_17, ob1_17, or0_17]
       have e17 := Option.some.inj h
       subst e17
       refine loopN_mk hI17 ((v18, IntKind.i64.wrap (v20 + 1))) ?_
       refine .same ⟨n19, by repeat (first | exact he17 | refine Ext.new ?_ _ | refine Ext.set ?_ (by first | omega | (simp [go_sem]; done) | (simp [go_sem]; omega)) _ | refine Ext.del ?_ (by first | omega | (simp [go_sem]; done) | (simp [go_sem]; omega))), by first | with_reducible rfl | with_reducible assumption | omega | (simp -implicitDefEqProofs (maxSteps := 1000000) (disch := omega) [go_sem, bdP, t0_17, t1_17, t6_17, t28_17, t29_17, t30_17, ob0_17, ob1_17, or0_17] <;> omega), by first | with_reducible rfl | with_reducible assumption | omega | (simp -implicitDefEqProofs (maxSteps := 1000000) (disch := omega) [go_sem, bdP, t0_17, t1_17, t6_17, t28_17, t29_17, t30_17, ob0_17, ob1_17, or0_17] <;> omega), by first | with_reducible rfl | with_reducible assumption | omega | (simp -implicitDefEqProofs (maxSteps := 1000000) (disch := omega) [go_sem, bdP, t0_17, t1_17, t6_17, t28_17, t29_17, t30_17, ob0_17, ob1_17, or0_17] <;> omega), by first | with_reducible rfl | with_reducible assumption | omega | (simp -implicitDefEqProofs (maxSteps := 1000000) (disch := omega) [go_sem, bdP, t0_17, t1_17, t6_17, t28_17, t29_17, t30_17, ob0_17, ob1_17, or0_17] <;> omega), by first | with_reducible rfl | with_reducible assumption | omega | (simp -implicitDefEqProofs (maxSteps := 1000000) (disch := omega) [go_sem, bdP, t0_17, t1_17, t6_17, t28_17, t29_17, t30_17, ob0_17, ob1_17, or0_17] <;> omega), by first | with_reducible rfl | with_reducible assumption | (simp -implicitDefEqProofs (maxSteps := 1000000) (disch := omega) [go_sem, bdP, t0_17, t1_17, t6_17, t28_17, t29_17, t30_17, ob0_17, ob1_17, or0_17] <;> omega), by first | with_reducible rfl | with_reducible assumption | (simp -implicitDefEqProofs (maxSteps := 1000000) (disch := omega) [go_sem, bdP, t0_17, t1_17, t6_17, t28_17, t29_17, t30_17, ob0_17, ob1_17, or0_17] <;> omega), by first | with_reducible rfl | with_reducible assumption | (simp -implicitDefEqProofs (maxSteps := 1000000) (disch := omega) [go_sem, bdP, t0_17, t1_17, t6_17, t28_17, t29_17, t30_17, ob0_17, ob1_17, or0_17] <;> omega), by first | with_reducible rfl | with_reducible assumption | (simp -implicitDefEqProofs (maxSteps := 1000000) (disch := omega) [go_sem, bdP, t0_17, t1_17, t6_17, t28_17, t29_17, t30_17, ob0_17, ob1_17, or0_17] <;> omega), by first | with_reducible rfl | with_reducible assumption | (simp -implicitDefEqProofs (maxSteps := 1000000) (disch := omega) [go_sem, bdP, t0_17, t1_17, t6_17, t28_17, t29_17, t30_17, ob0_17, ob1_17, or0_17] <;> omega), by first | with_reducible rfl | with_reducible assumption | (simp -implicitDefEqProofs (maxSteps := 1000000) (disch := omega) [go_sem, bdP, t0_17, t1_17, t6_17, t28_17, t29_17, t30_17, ob0_17, ob1_17, or0_17] <;> omega), by first | with_reducible rfl | with_reducible assumption | (simp -implicitDefEqProofs (maxSteps := 1000000) (disch := omega) [go_sem, bdP, t0_17, t1_17, t6_17, t28_17, t29_17, t30_17, ob0_17, ob1_17, or0_17] <;> omega), by first | with_reducible rfl | with_reducible assumption | (simp -implicitDefEqProofs (maxSteps := 1000000) (disch := omega) [go_sem, bdP, t0_17, t1_17, t6_17, t28_17, t29_17, t30_17, ob0_17, ob1_17, or0_17] <;> omega), by first | with_reducible rfl | with_reducible assumption | (simp -implicitDefEqProofs (maxSteps := 1000000) (disch := omega) [go_sem, bdP, t0_17, t1_17, t6_17, t28_17, t29_17, t30_17, ob0_17, ob1_17, or0_17] <;> omega)⟩
      ·intro c37 h
       try simp -implicitDefEqProofs (disch := omega) at c37
       refine IWp_seqF fun cb hc38 => ?_
       refine vcK ?_
       try simp -implicitDefEqProofs (maxSteps := 1000000) (disch := omega) [go_sem, bdP, t0_17, t1_17, t6_17, t28_17, t29_17, t30_17, ob0_17, ob1_17, or0_17]
       subst hc38
       refine IWp_cond_i h (by first | with_reducible rfl | (simp -implicitDefEqProofs (maxSteps := 1000000) (disch := omega) [go_sem, bdP, t0_17, t1_17, t6_17, t28_17, t29_17, t30_17, ob0_17, ob1_17, or0_17] <;> omega)) rfl ?_ ?_
       ·intro c39 h
        try simp -implicitDefEqProofs (disch := omega) at c39
        refine vcK ?_
        try simp -implicitDefEqProofs (maxSteps := 1000000) (disch := omega) [go_sem, bdP, t0_17, t1_17, t6_17, t28_17, t29_17, t30_17, ob0_17, ob1_17, or0_17]
        subst hc34
        refine vcK ?_
        obtain ⟨g40, h⟩ := gd_some.1 h
        try simp -implicitDefEqProofs (disch := omega) at g40
        try simp -implicitDefEqProofs (maxSteps := 1000000) (disch := omega) [go_sem, bdP, t0_17, t1_17, t6_17, t28_17, t29_17, t30_17, ob0_17, ob1_17, or0_17]
        subst hc27
        refine vcK ?_
        try simp -implicitDefEqProofs (maxSteps := 1000000) (disch := omega) [go_sem, bdP, t0_17, t1_17, t6_17, t28_17, t29_17, t30_17, ob0_17, ob1_17, or0_17]
        have e17 := Option.some.inj h
        subst e17
        refine loopN_mk hI17 ((v18 ++ ([(⟨2, x16.getD v20.toNat [], x32⟩ : S48)]), IntKind.i64.wrap (v20 + 1))) ?_
        refine .same ⟨n19, by repeat (first | exact he17 | refine Ext.new ?_ _ | refine Ext.set ?_ (by first | omega | (simp [go_sem]; done) | (simp [go_sem]; omega)) _ | refine Ext.del ?_ (by first | omega | (simp [go_sem]; done) | (simp [go_sem]; omega))), by first | with_reducible rfl | with_reducible assumption | omega | (simp -implicitDefEqProofs (maxSteps := 1000000) (disch := omega) [go_sem, bdP, t0_17, t1_17, t6_17, t28_17, t29_17, t30_17, ob0_17, ob1_17, or0_17] <;> omega), by first | with_reducible rfl | with_reducible assumption | omega | (simp -implicitDefEqProofs (maxSteps := 1000000) (disch := omega) [go_sem, bdP, t0_17, t1_17, t6_17, t28_17, t29_17, t30_17, ob0_17, ob1_17, or0_17] <;> omega), by first | with_reducible rfl | with_reducible assumption | omega | (simp -implicitDefEqProofs (maxSteps := 1000000) (disch := omega) [go_sem, bdP, t0_17, t1_17, t6_17, t28_17, t29_17, t30_17, ob0_17, ob1_17, or0_17] <;> omega), by first | with_reducible rfl | with_reducible assumption | omega | (simp -implicitDefEqProofs (maxSteps := 1000000) (disch := omega) [go_sem, bdP, t0_17, t1_17, t6_17, t28_17, t29_17, t30_17, ob0_17, ob1_17, or0_17] <;> omega), by first | with_reducible rfl | with_reducible assumption | omega | (simp -implicitDefEqProofs (maxSteps := 1000000) (disch := omega) [go_sem, bdP, t0_17, t1_17, t6_17, t28_17, t29_17, t30_17, ob0_17, ob1_17, or0_17] <;> omega), by first | with_reducible rfl | with_reducible assumption | (simp -implicitDefEqProofs (maxSteps := 1000000) (disch := omega) [go_sem, bdP, t0_17, t1_17, t6_17, t28_17, t29_17, t30_17, ob0_17, ob1_17, or0_17] <;> omega), by first | with_reducible rfl | with_reducible assumption | (simp -implicitDefEqProofs (maxSteps := 1000000) (disch := omega) [go_sem, bdP, t0_17, t1_17, t6_17, t28_17, t29_17, t30_17, ob0_17, ob1_17, or0_17] <;> omega), by first | with_reducible rfl | with_reducible assumption | (simp -implicitDefEqProofs (maxSteps := 1000000) (disch := omega) [go_sem, bdP, t0_17, t1_17, t6_17, t28_17, t29_17, t30_17, ob0_17, ob1_17, or0_17] <;> omega), by first | with_reducible rfl | with_reducible assumption | (simp -implicitDefEqProofs (maxSteps := 1000000) (disch := omega) [go_sem, bdP, t0_17, t1_17, t6_17, t28_17, t29_17, t30_17, ob0_17, ob1_17, or0_17] <;> omega), by first | with_reducible rfl | with_reducible assumption | (simp -implicitDefEqProofs (maxSteps := 1000000) (disch := omega) [go_sem, bdP, t0_17, t1_17, t6_17, t28_17, t29_17, t30_17, ob0_17, ob1_17, or0_17] <;> omega), by first | with_reducible rfl | with_reducible assumption | (simp -implicitDefEqProofs (maxSteps := 1000000) (disch := omega) [go_sem, bdP, t0_17, t1_17, t6_17, t28_17, t29_17, t30_17, ob0_17, ob1_17, or0_17] <;> omega), by first | with_reducible rfl | with_reducible assumption | (simp -implicitDefEqProofs (maxSteps := 1000000) (disch := omega) [go_sem, bdP, t0_17, t1_17, t6_17, t28_17, t29_17, t30_17, ob0_17, ob1_17, or0_17] <;> omega), by first | with_reducible rfl | with_reducible assumption | (simp -implicitDefEqProofs (maxSteps := 1000000) (disch := omega) [go_sem, bdP, t0_17, t1_17, t6_17, t28_17, t29_17, t30_17, ob0_17, ob1_17, or0_17] <;> omega), by first | with_reducible rfl | with_reducible assumption | (simp -implicitDefEqProofs (maxSteps := 1000000) (disch := omega) [go_sem, bdP, t0_17, t1_17, t6_17, t28_17, t29_17, t30_17, ob0_17, ob1_17, or0_17] <;> omega)⟩
       ·intro c39 h
        try simp -implicitDefEqProofs (disch := omega) at c39
        refine IWp_seqF fun cb hc41 => ?_
        refine vcK ?_
        try simp -implicitDefEqProofs (maxSteps := 1000000) (disch := omega) [go_sem, bdP, t0_17, t1_17, t6_17, t28_17, t29_17, t30_17, ob0_17, ob1_17, or0_17]
        subst hc41
        refine IWp_cond_i h (by first | with_reducible rfl | (simp -implicitDefEqProofs (maxSteps := 1000000) (disch := omega) [go_sem, bdP, t0_17, t1_17, t6_17, t28_17, t29_17, t30_17, ob0_17, ob1_17, or0_17] <;> omega)) rfl ?_ ?_
        ·intro c42 h
         try simp -implicitDefEqProofs (disch := omega) at c42
         refine vcK ?_
         try simp -implicitDefEqProofs (maxSteps := 1000000) (disch := omega) [go_sem, bdP, t0_17, t1_17, t6_17, t28_17, t29_17, t30_17, ob0_17, ob1_17, or0_17]
         subst hc34
         refine vcK ?_
         obtain ⟨g43, h⟩ := gd_some.1 h
         try simp -implicitDefEqProofs (disch := omega) at g43
         try simp -implicitDefEqProofs (maxSteps := 1000000) (disch := omega) [go_sem, bdP, t0_17, t1_17, t6_17, t28_17, t29_17, t30_17, ob0_17, ob1_17, or0_17]
         subst hc27
         refine vcK ?_
         try simp -implicitDefEqProofs (maxSteps := 1000000) (disch := omega) [go_sem, bdP, t0_17, t1_17, t6_17, t28_17, t29_17, t30_17, ob0_17, ob1_17, or0_17]
         have e17 := Option.some.inj h
         subst e17
         refine loopN_mk hI17 ((v18 ++ ([(⟨1, x16.getD v20.toNat [], x32⟩ : S48)]), IntKind.i64.wrap (v20 + 1))) ?_
         refine .same ⟨n19, by repeat (first | exact he17 | refine Ext.new ?_ _ | refine Ext.set ?_ (by first | omega | (simp [go_sem]; done) | (simp [go_sem]; omega)) _ | refine Ext.del ?_ (by first | omega | (simp [go_sem]; done) | (simp [go_sem]; omega))), by first | with_reducible rfl | with_reducible assumption | omega | (simp -implicitDefEqProofs (maxSteps := 1000000) (disch := omega) [go_sem, bdP, t0_17, t1_17, t6_17, t28_17, t29_17, t30_17, ob0_17, ob1_17, or0_17] <;> omega), by first | with_reducible rfl | with_reducible assumption | omega | (simp -implicitDefEqProofs (maxSteps := 1000000) (disch := omega) [go_sem, bdP, t0_17, t1_17, t6_17, t28_17, t29_17, t30_17, ob0_17, ob1_17, or0_17] <;> omega), by first | with_reducible rfl | with_reducible assumption | omega | (simp -implicitDefEqProofs (maxSteps := 1000000) (disch := omega) [go_sem, bdP, t0_17, t1_17, t6_17, t28_17, t29_17, t30_17, ob0_17, ob1_17, or0_17] <;> omega), by first | with_reducible rfl | with_reducible assumption | omega | (simp -implicitDefEqProofs (maxSteps := 1000000) (disch := omega) [go_sem, bdP, t0_17, t1_17, t6_17, t28_17, t29_17, t30_17, ob0_17, ob1_17, or0_17] <;> omega), by first | with_reducible rfl | with_reducible assumption | omega | (simp -implicitDefEqProofs (maxSteps := 1000000) (disch := omega) [go_sem, bdP, t0_17, t1_17, t6_17, t28_17, t29_17, t30_17, ob0_17, ob1_17, or0_17] <;> omega), by first | with_reducible rfl | with_reducible assumption | (simp -implicitDefEqProofs (maxSteps := 1000000) (disch := omega) [go_sem, bdP, t0_17, t1_17, t6_17, t28_17, t29_17, t30_17, ob0_17, ob1_17, or0_17] <;> omega), by first | with_reducible rfl | with_reducible assumption | (simp -implicitDefEqProofs (maxSteps := 1000000) (disch := omega) [go_sem, bdP, t0_17, t1_17, t6_17, t28_17, t29_17, t30_17, ob0_17, ob1_17, or0_17] <;> omega), by first | with_reducible rfl | with_reducible assumption | (simp -implicitDefEqProofs (maxSteps := 1000000) (disch := omega) [go_sem, bdP, t0_17, t1_17, t6_17, t28_17, t29_17, t30_17, ob0_17, ob1_17, or0_17] <;> omega), by first | with_reducible rfl | with_reducible assumption | (simp -implicitDefEqProofs (maxSteps := 1000000) (disch := omega) [go_sem, bdP, t0_17, t1_17, t6_17, t28_17, t29_17, t30_17, ob0_17, ob1_17, or0_17] <;> omega), by first | with_reducible rfl | with_reducible assumption | (simp -implicitDefEqProofs (maxSteps := 1000000) (disch := omega) [go_sem, bdP, t0_17, t1_17, t6_17, t28_17, t29_17, t30_17, ob0_17, ob1_17, or0_17] <;> omega), by first | with_reducible rfl | with_reducible assumption | (simp -implicitDefEqProofs (maxSteps := 1000000) (disch := omega) [go_sem, bdP, t0_17, t1_17, t6_17, t28_17, t29_17, t30_17, ob0_17, ob1_17, or0_17] <;> omega), by first | with_reducible rfl | with_reducible assumption | (simp -implicitDefEqProofs (maxSteps := 1000000) (disch := omega) [go_sem, bdP, t0_17, t1_17, t6_17, t28_17, t29_17, t30_17, ob0_17, ob1_17, or0_17] <;> omega), by first | with_reducible rfl | with_reducible assumption | (simp -implicitDefEqProofs (maxSteps := 1000000) (disch := omega) [go_sem, bdP, t0_17, t1_17, t6_17, t28_17, t29_17, t30_17, ob0_17, ob1_17, or0_17] <;> omega), by first | with_reducible rfl | with_reducible assumption | (simp -implicitDefEqProofs (maxSteps := 1000000) (disch := omega) [go_sem, bdP, t0_17, t1_17, t6_17, t28_17, t29_17, t30_17, ob0_17, ob1_17, or0_17] <;> omega)⟩
        ·intro c42 h
         try simp -implicitDefEqProofs (disch := omega) at c42
         refine vcK ?_
         simp -implicitDefEqProofs only [go_sem]
         subst hc34
         refine vcK ?_
         obtain ⟨g44, h⟩ := gd_some.1 h
         try simp -implicitDefEqProofs (disch := omega) at g44
         try simp -implicitDefEqProofs (maxSteps := 1000000) (disch := omega) [go_sem, bdP, t0_17, t1_17, t6_17, t28_17, t29_17, t30_17, ob0_17, ob1_17, or0_17]
         subst hc27
         refine vcK ?_
         try simp -implicitDefEqProofs (maxSteps := 1000000) (disch := omega) [go_sem, bdP, t0_17, t1_17, t6_17, t28_17, t29_17, t30_17, ob0_17, ob1_17, or0_17]
         have e17 := Option.some.inj h
         subst e17
         refine loopN_mk hI17 ((v18 ++ ([(⟨3, x16.getD v20.toNat [], x32⟩ : S48)]), IntKind.i64.wrap (v20 + 1))) ?_
         refine .same ⟨n19, by repeat (first | exact he17 | refine Ext.new ?_ _ | refine Ext.set ?_ (by first | omega | (simp [go_sem]; done) | (simp [go_sem]; omega)) _ | refine Ext.del ?_ (by first | omega | (simp [go_sem]; done) | (simp [go_sem]; omega))), by first | with_reducible rfl | with_reducible assumption | omega | (simp -implicitDefEqProofs (maxSteps := 1000000) (disch := omega) [go_sem, bdP, t0_17, t1_17, t6_17, t28_17, t29_17, t30_17, ob0_17, ob1_17, or0_17] <;> omega), by first | with_reducible rfl | with_reducible assumption | omega | (simp -implicitDefEqProofs (maxSteps := 1000000) (disch := omega) [go_sem, bdP, t0_17, t1_17, t6_17, t28_17, t29_17, t30_17, ob0_17, ob1_17, or0_17] <;> omega), by first | with_reducible rfl | with_reducible assumption | omega | (simp -implicitDefEqProofs (maxSteps := 1000000) (disch := omega) [go_sem, bdP, t0_17, t1_17, t6_17, t28_17, t29_17, t30_17, ob0_17, ob1_17, or0_17] <;> omega), by first | with_reducible rfl | with_reducible assumption | omega | (simp -implicitDefEqProofs (maxSteps := 1000000) (disch := omega) [go_sem, bdP, t0_17, t1_17, t6_17, t28_17, t29_17, t30_17, ob0_17, ob1_17, or0_17] <;> omega), by first | with_reducible rfl | with_reducible assumption | omega | (simp -implicitDefEqProofs (maxSteps := 1000000) (disch := omega) [go_sem, bdP, t0_17, t1_17, t6_17, t28_17, t29_17, t30_17, ob0_17, ob1_17, or0_17] <;> omega), by first | with_reducible rfl | with_reducible assumption | (simp -implicitDefEqProofs (maxSteps := 1000000) (disch := omega) [go_sem, bdP, t0_17, t1_17, t6_17, t28_17, t29_17, t30_17, ob0_17, ob1_17, or0_17] <;> omega), by first | with_reducible rfl | with_reducible assumption | (simp -implicitDefEqProofs (maxSteps := 1000000) (disch := omega) [go_sem, bdP, t0_17, t1_17, t6_17, t28_17, t29_17, t30_17, ob0_17, ob1_17, or0_17] <;> omega), by first | with_reducible rfl | with_reducible assumption | (simp -implicitDefEqProofs (maxSteps := 1000000) (disch := omega) [go_sem, bdP, t0_17, t1_17, t6_17, t28_17, t29_17, t30_17, ob0_17, ob1_17, or0_17] <;> omega), by first | with_reducible rfl | with_reducible assumption | (simp -implicitDefEqProofs (maxSteps := 1000000) (disch := omega) [go_sem, bdP, t0_17, t1_17, t6_17, t28_17, t29_17, t30_17, ob0_17, ob1_17, or0_17] <;> omega), by first | with_reducible rfl | with_reducible assumption | (simp -implicitDefEqProofs (maxSteps := 1000000) (disch := omega) [go_sem, bdP, t0_17, t1_17, t6_17, t28_17, t29_17, t30_17, ob0_17, ob1_17, or0_17] <;> omega), by first | with_reducible rfl | with_reducible assumption | (simp -implicitDefEqProofs (maxSteps := 1000000) (disch := omega) [go_sem, bdP, t0_17, t1_17, t6_17, t28_17, t29_17, t30_17, ob0_17, ob1_17, or0_17] <;> omega), by first | with_reducible rfl | with_reducible assumption | (simp -implicitDefEqProofs (maxSteps := 1000000) (disch := omega) [go_sem, bdP, t0_17, t1_17, t6_17, t28_17, t29_17, t30_17, ob0_17, ob1_17, or0_17] <;> omega), by first | with_reducible rfl | with_reducible assumption | (simp -implicitDefEqProofs (maxSteps := 1000000) (disch := omega) [go_sem, bdP, t0_17, t1_17, t6_17, t28_17, t29_17, t30_17, ob0_17, ob1_17, or0_17] <;> omega), by first | with_reducible rfl | with_reducible assumption | (simp -implicitDefEqProofs (maxSteps := 1000000) (disch := omega) [go_sem, bdP, t0_17, t1_17, t6_17, t28_17, t29_17, t30_17, ob0_17, ob1_17, or0_17] <;> omega)⟩
     ·intro c26 h
      try simp -implicitDefEqProofs (disch := omega) at c26
      refine vcK ?_
      simp -implicitDefEqProofs only [go_sem]
      have e17 := Option.some.inj h
      subst e17
      have hy17 := hret17 _ rfl
      refine hc17 _ _ ?_
      refine .same ⟨n19, v18, hy17, by repeat (first | exact he17 | refine Ext.new ?_ _ | refine Ext.set ?_ (by first | omega | (simp [go_sem]; done) | (simp [go_sem]; omega)) _ | refine Ext.del ?_ (by first | omega | (simp [go_sem]; done) | (simp [go_sem]; omega))), by first | with_reducible rfl | with_reducible assumption | omega | (simp -implicitDefEqProofs (maxSteps := 1000000) (disch := omega) [go_sem, bdP, t0_17, t1_17, t6_17, t28_17, t29_17, t30_17, ob0_17, ob1_17, or0_17] <;> omega), by first | with_reducible rfl | with_reducible assumption | omega | (simp -implicitDefEqProofs (maxSteps := 1000000) (disch := omega) [go_sem, bdP, t0_17, t1_17, t6_17, t28_17, t29_17, t30_17, ob0_17, ob1_17, or0_17] <;> omega), by first | with_reducible rfl | with_reducible assumption | omega | (simp -implicitDefEqProofs (maxSteps := 1000000) (disch := omega) [go_sem, bdP, t0_17, t1_17, t6_17, t28_17, t29_17, t30_17, ob0_17, ob1_17, or0_17] <;> omega), by first | with_reducible rfl | with_reducible assumption | omega | (simp -implicitDefEqProofs (maxSteps := 1000000) (disch := omega) [go_sem, bdP, t0_17, t1_17, t6_17, t28_17, t29_17, t30_17, ob0_17, ob1_17, or0_17] <;> omega), by first | with_reducible rfl | with_reducible assumption | omega | (simp -implicitDefEqProofs (maxSteps := 1000000) (disch := omega) [go_sem, bdP, t0_17, t1_17, t6_17, t28_17, t29_17, t30_17, ob0_17, ob1_17, or0_17] <;> omega), by first | with_reducible rfl | with_reducible assumption | (simp -implicitDefEqProofs (maxSteps := 1000000) (disch := omega) [go_sem, bdP, t0_17, t1_17, t6_17, t28_17, t29_17, t30_17, ob0_17, ob1_17, or0_17] <;> omega), by first | with_reducible rfl | with_reducible assumption | (simp -implicitDefEqProofs (maxSteps := 1000000) (disch := omega) [go_sem, bdP, t0_17, t1_17, t6_17, t28_17, t29_17, t30_17, ob0_17, ob1_17, or0_17] <;> omega), by first | with_reducible rfl | with_reducible assumption | (simp -implicitDefEqProofs (maxSteps := 1000000) (disch := omega) [go_sem, bdP, t0_17, t1_17, t6_17, t28_17, t29_17, t30_17, ob0_17, ob1_17, or0_17] <;> omega), by first | with_reducible rfl | with_reducible assumption | (simp -implicitDefEqProofs (maxSteps := 1000000) (disch := omega) [go_sem, bdP, t0_17, t1_17, t6_17, t28_17, t29_17, t30_17, ob0_17, ob1_17, or0_17] <;> omega)⟩

/-! cardcase/cardcaselaw07.known -/

noncomputable def F13  : Option Bool :=
 (F19 ([(⟨[77, 97, 105, 108], [[98], [97]]⟩ : S50), (⟨[67, 78], [[120]]⟩ : S50)])).bind fun (x3 : (List S50) × Int) => (F14 x3.1 ([(⟨1, [99, 110], [[121]]⟩ : S48), (⟨2, [99, 110], [[120]]⟩ : S48)])).bind fun (x5 : (List S50) × Int) => (F24 x3.1 x5.1).bind fun (x7 : (List S48) × Int) => (F30 x5.1).bind fun (x9 : (List UInt8) × Int) => if x3.2 = 0 then (if x5.2 = 0 then (if x7.2 = 0 then (if x9.2 = 0 then (if (x7.1.length : Int) = 1 then (gd (0 < x7.1.length) (if ((x7.1.getD 0 S48.zero).fKind) = 3 then (some (decide (x9.1 = ([99, 110, 32, 49, 10, 49, 32, 121, 10, 109, 97, 105, 108, 32, 50, 10, 49, 32, 97, 10, 49, 32, 98, 10])))) else (some false))) else (some false)) else (some false)) else (some false)) else (some false)) else (some false)

set_option maxHeartbeats 8000000 in
set_option pp.deepTerms false in
set_option maxRecDepth 60000 in
theorem F13_ok {H : IHeap} {K : IEnd → IHeap → Prop}  {r : Bool} (h : F13  = some r) (hK : K (.ret (.v (.bool r))) H) : ICalls prog 13 [] H K := by
 refine ICalls_iwp (N := 69) func13 (by kernel_rfl) rfl (by kernel_rfl) (by kernel_rfl) fun cb hcb hw hbd hnb => ?_
 clear hbd hnb
 subst hcb
 unfold F13 at h
 refine IWp_seqF fun cb hc1 => ?_
 refine vcK ?_
 try simp -implicitDefEqProofs (maxSteps := 1000000) (disch := omega) [go_sem, bdP]
 subst hc1
 refine IWp_seqF fun cb hc2 => ?_
 refine vcK ?_
 try simp -implicitDefEqProofs (maxSteps := 1000000) (disch := omega) [go_sem, bdP]
 obtain ⟨x3, hx3, h⟩ := bind_some' h
 refine ICalls.eqA (args' := [.sl 2 (([(⟨[77, 97, 105, 108], [[98], [97]]⟩ : S50), (⟨[67, 78], [[120]]⟩ : S50)]).map fun x => [.v (str x.fName), .sl 1 (x.fValues.map fun x => [.v (str x)])])]) (by first | with_reducible rfl | (simp -implicitDefEqProofs (maxSteps := 1000000) (disch := omega) [go_sem, bdP] <;> omega)) (F19_ok ([(⟨[77, 97, 105, 108], [[98], [97]]⟩ : S50), (⟨[67, 78], [[120]]⟩ : S50)]) hx3 ?_)
 try simp -implicitDefEqProofs (maxSteps := 1000000) (disch := omega) [go_sem, bdP]
 subst hc2
 refine IWp_seqF fun cb hc4 => ?_
 refine vcK ?_
 try simp -implicitDefEqProofs (maxSteps := 1000000) (disch := omega) [go_sem, bdP]
 obtain ⟨x5, hx5, h⟩ := bind_some' h
 refine ICalls.eqA (args' := [.sl 2 (x3.1.map fun x => [.v (str x.fName), .sl 1 (x.fValues.map fun x => [.v (str x)])]), .sl 3 (([(⟨1, [99, 110], [[121]]⟩ : S48), (⟨2, [99, 110], [[120]]⟩ : S48)]).map fun x => [.v (.int .i64 x.fKind), .v (str x.fName), .sl 1 (x.fValues.map fun x => [.v (str x)])])]) (by first | with_reducible rfl | (simp -implicitDefEqProofs (maxSteps := 1000000) (disch := omega) [go_sem, bdP] <;> omega)) (F14_ok x3.1 ([(⟨1, [99, 110], [[121]]⟩ : S48), (⟨2, [99, 110], [[120]]⟩ : S48)]) hx5 ?_)
 try simp -implicitDefEqProofs (maxSteps := 1000000) (disch := omega) [go_sem, bdP]
 subst hc4
 refine IWp_seqF fun cb hc6 => ?_
 refine vcK ?_
 try simp -implicitDefEqProofs (maxSteps := 1000000) (disch := omega) [go_sem, bdP]
 obtain ⟨x7, hx7, h⟩ := bind_some' h
 refine ICalls.eqA (args' := [.sl 2 (x3.1.map fun x => [.v (str x.fName), .sl 1 (x.fValues.map fun x => [.v (str x)])]), .sl 2 (x5.1.map fun x => [.v (str x.fName), .sl 1 (x.fValues.map fun x => [.v (str x)])])]) (by first | with_reducible rfl | (simp -implicitDefEqProofs (maxSteps := 1000000) (disch := omega) [go_sem, bdP] <;> omega)) (F24_ok x3.1 x5.1 hx7 ?_)
 try simp -implicitDefEqProofs (maxSteps := 1000000) (disch := omega) [go_sem, bdP]
 subst hc6
 refine IWp_seqF fun cb hc8 => ?_
 refine vcK ?_
 try simp -implicitDefEqProofs (maxSteps := 1000000) (disch := omega) [go_sem, bdP]
 obtain ⟨x9, hx9, h⟩ := bind_some' h
 refine ICalls.eqA (args' := [.sl 2 (x5.1.map fun x => [.v (str x.fName), .sl 1 (x.fValues.map fun x => [.v (str x)])])]) (by first | with_reducible rfl | (simp -implicitDefEqProofs (maxSteps := 1000000) (disch := omega) [go_sem, bdP] <;> omega)) (F30_ok x5.1 hx9 ?_)
 try simp -implicitDefEqProofs (maxSteps := 1000000) (disch := omega) [go_sem, bdP]
 subst hc8
 refine IWp_seqF fun cb hc10 => ?_
 refine vcK ?_
 try simp -implicitDefEqProofs (maxSteps := 1000000) (disch := omega) [go_sem, bdP]
 refine splitG_f h (by first | with_reducible rfl | (simp -implicitDefEqProofs (maxSteps := 1000000) (disch := omega) [go_sem, bdP] <;> omega)) ?_ ?_
 ·intro c17 h
  try simp -implicitDefEqProofs (disch := omega) at c17
  try simp -implicitDefEqProofs (maxSteps := 1000000) (disch := omega) [go_sem, bdP]
  refine splitG_f h (by first | with_reducible rfl | (simp -implicitDefEqProofs (maxSteps := 1000000) (disch := omega) [go_sem, bdP] <;> omega)) ?_ ?_
  ·intro c16 h
   try simp -implicitDefEqProofs (disch := omega) at c16
   try simp -implicitDefEqProofs (maxSteps := 1000000) (disch := omega) [go_sem, bdP]
   refine splitG_f h (by first | with_reducible rfl | (simp -implicitDefEqProofs (maxSteps := 1000000) (disch := omega) [go_sem, bdP] <;> omega)) ?_ ?_
   ·intro c15 h
    try simp -implicitDefEqProofs (disch := omega) at c15
    try simp -implicitDefEqProofs (maxSteps := 1000000) (disch := omega) [go_sem, bdP]
    refine splitG_f h (by first | with_reducible rfl | (simp -implicitDefEqProofs (maxSteps := 1000000) (disch := omega) [go_sem, bdP] <;> omega)) ?_ ?_
    ·intro c14 h
     try simp -implicitDefEqProofs (disch := omega) at c14
     try simp -implicitDefEqProofs (maxSteps := 1000000) (disch := omega) [go_sem, bdP]
     refine splitG_f h (by first | with_reducible rfl | (simp -implicitDefEqProofs (maxSteps := 1000000) (disch := omega) [go_sem, bdP] <;> omega)) ?_ ?_
     ·intro c13 h
      try simp -implicitDefEqProofs (disch := omega) at c13
      obtain ⟨g11, h⟩ := gd_some.1 h
      try simp -implicitDefEqProofs (disch := omega) at g11
      try simp -implicitDefEqProofs (maxSteps := 1000000) (disch := omega) [go_sem, bdP]
      refine splitG_f h (by first | with_reducible rfl | (simp -implicitDefEqProofs (maxSteps := 1000000) (disch := omega) [go_sem, bdP] <;> omega)) ?_ ?_
      ·intro c12 h
       try simp -implicitDefEqProofs (disch := omega) at c12
       try simp -implicitDefEqProofs (maxSteps := 1000000) (disch := omega) [go_sem, bdP]
       subst hc10
       refine vcK ?_
       simp -implicitDefEqProofs only [go_sem]
       have er := Option.some.inj h
       subst er
       try simp -implicitDefEqProofs (maxSteps := 1000000) (disch := omega) [go_sem, bdP]
       refine retG_pureA (Ext.refl hw) hK (e := by first | with_reducible rfl | (simp -implicitDefEqProofs (maxSteps := 1000000) (disch := omega) [go_sem, bdP] <;> omega))
      ·intro c12 h
       try simp -implicitDefEqProofs (disch := omega) at c12
       try simp -implicitDefEqProofs (maxSteps := 1000000) (disch := omega) [go_sem, bdP]
       subst hc10
       refine vcK ?_
       simp -implicitDefEqProofs only [go_sem]
       have er := Option.some.inj h
       subst er
       try simp -implicitDefEqProofs (maxSteps := 1000000) (disch := omega) [go_sem, bdP]
       refine retG_pureA (Ext.refl hw) hK (e := by first | with_reducible rfl | (simp -implicitDefEqProofs (maxSteps := 1000000) (disch := omega) [go_sem, bdP] <;> omega))
     ·intro c13 h
      try simp -implicitDefEqProofs (disch := omega) at c13
      try simp -implicitDefEqProofs (maxSteps := 1000000) (disch := omega) [go_sem, bdP]
      subst hc10
      refine vcK ?_
      simp -implicitDefEqProofs only [go_sem]
      have er := Option.some.inj h
      subst er
      try simp -implicitDefEqProofs (maxSteps := 1000000) (disch := omega) [go_sem, bdP]
      refine retG_pureA (Ext.refl hw) hK (e := by first | with_reducible rfl | (simp -implicitDefEqProofs (maxSteps := 1000000) (disch := omega) [go_sem, bdP] <;> omega))
    ·intro c14 h
     try simp -implicitDefEqProofs (disch := omega) at c14
     try simp -implicitDefEqProofs (maxSteps := 1000000) (disch := omega) [go_sem, bdP]
     subst hc10
     refine vcK ?_
     simp -implicitDefEqProofs only [go_sem]
     have er := Option.some.inj h
     subst er
     try simp -implicitDefEqProofs (maxSteps := 1000000) (disch := omega) [go_sem, bdP]
     refine retG_pureA (Ext.refl hw) hK (e := by first | with_reducible rfl | (simp -implicitDefEqProofs (maxSteps := 1000000) (disch := omega) [go_sem, bdP] <;> omega))
   ·intro c15 h
    try simp -implicitDefEqProofs (disch := omega) at c15
    try simp -implicitDefEqProofs (maxSteps := 1000000) (disch := omega) [go_sem, bdP]
    subst hc10
    refine vcK ?_
    simp -implicitDefEqProofs only [go_sem]
    have er := Option.some.inj h
    subst er
    try simp -implicitDefEqProofs (maxSteps := 1000000) (disch := omega) [go_sem, bdP]
    refine retG_pureA (Ext.refl hw) hK (e := by first | with_reducible rfl | (simp -implicitDefEqProofs (maxSteps := 1000000) (disch := omega) [go_sem, bdP] <;> omega))
  ·intro c16 h
   try simp -implicitDefEqProofs (disch := omega) at c16
   try simp -implicitDefEqProofs (maxSteps := 1000000) (disch := omega) [go_sem, bdP]
   subst hc10
   refine vcK ?_
   simp -implicitDefEqProofs only [go_sem]
   have er := Option.some.inj h
   subst er
   try simp -implicitDefEqProofs (maxSteps := 1000000) (disch := omega) [go_sem, bdP]
   refine retG_pureA (Ext.refl hw) hK (e := by first | with_reducible rfl | (simp -implicitDefEqProofs (maxSteps := 1000000) (disch := omega) [go_sem, bdP] <;> omega))
 ·intro c17 h
  try simp -implicitDefEqProofs (disch := omega) at c17
  try simp -implicitDefEqProofs (maxSteps := 1000000) (disch := omega) [go_sem, bdP]
  subst hc10
  refine vcK ?_
  simp -implicitDefEqProofs only [go_sem]
  have er := Option.some.inj h
  subst er
  try simp -implicitDefEqProofs (maxSteps := 1000000) (disch := omega) [go_sem, bdP]
  refine retG_pureA (Ext.refl hw) hK (e := by first | with_reducible rfl | (simp -implicitDefEqProofs (maxSteps := 1000000) (disch := omega) [go_sem, bdP] <;> omega))

/-! cardcase/cardcaselaw07.mods -/

/-! cardcase/cardcaseref06.letter -/

noncomputable def F87 (a0 : Int) : Option Bool :=
 if 65 ≤ a0 then (if a0 ≤ 90 then (some true) else (if 97 ≤ a0 then (some (decide (a0 ≤ 122))) else (some false))) else (if 97 ≤ a0 then (some (decide (a0 ≤ 122))) else (some false))

set_option maxHeartbeats 8000000 in
set_option pp.deepTerms false in
set_option maxRecDepth 60000 in
theorem F87_ok {H : IHeap} {K : IEnd → IHeap → Prop} (a0 : Int) {r : Bool} (h : F87 a0 = some r) (hK : K (.ret (.v (.bool r))) H) : ICalls prog 87 [.v (.int .u8 a0)] H K := by
 refine ICalls_iwp (N := 17) func87 (by kernel_rfl) rfl (by kernel_rfl) (by kernel_rfl) fun cb hcb hw hbd hnb => ?_
 clear hbd hnb
 subst hcb
 unfold F87 at h
 refine IWp_seqF fun cb hc1 => ?_
 refine vcK ?_
 try simp -implicitDefEqProofs (maxSteps := 1000000) (disch := omega) [go_sem]
 subst hc1
 refine IWp_seqF fun cb hc2 => ?_
 refine vcK ?_
 try simp -implicitDefEqProofs (maxSteps := 1000000) (disch := omega) [go_sem]
 refine splitG_f h (by first | with_reducible rfl | (simp -implicitDefEqProofs (maxSteps := 1000000) (disch := omega) [go_sem] <;> omega)) ?_ ?_
 ·intro c6 h
  try simp -implicitDefEqProofs (disch := omega) at c6
  try simp -implicitDefEqProofs (maxSteps := 1000000) (disch := omega) [go_sem]
  refine splitG_f h (by first | with_reducible rfl | (simp -implicitDefEqProofs (maxSteps := 1000000) (disch := omega) [go_sem] <;> omega)) ?_ ?_
  ·intro c4 h
   try simp -implicitDefEqProofs (disch := omega) at c4
   try simp -implicitDefEqProofs (maxSteps := 1000000) (disch := omega) [go_sem]
   subst hc2
   refine vcK ?_
   simp -implicitDefEqProofs only [go_sem]
   have er := Option.some.inj h
   subst er
   try simp -implicitDefEqProofs (maxSteps := 1000000) (disch := omega) [go_sem]
   refine retG_pureA (Ext.refl hw) hK (e := by first | with_reducible rfl | (simp -implicitDefEqProofs (maxSteps := 1000000) (disch := omega) [go_sem] <;> omega))
  ·intro c4 h
   try simp -implicitDefEqProofs (disch := omega) at c4
   try simp -implicitDefEqProofs (maxSteps := 1000000) (disch := omega) [go_sem]
   refine splitG_f h (by first | with_reducible rfl | (simp -implicitDefEqProofs (maxSteps := 1000000) (disch := omega) [go_sem] <;> omega)) ?_ ?_
   ·intro c3 h
    try simp -implicitDefEqProofs (disch := omega) at c3
    try simp -implicitDefEqProofs (maxSteps := 1000000) (disch := omega) [go_sem]
    subst hc2
    refine vcK ?_
    simp -implicitDefEqProofs only [go_sem]
    have er := Option.some.inj h
    subst er
    try simp -implicitDefEqProofs (maxSteps := 1000000) (disch := omega) [go_sem]
    refine retG_pureA (Ext.refl hw) hK (e := by first | with_reducible rfl | (simp -implicitDefEqProofs (maxSteps := 1000000) (disch := omega) [go_sem] <;> omega))
   ·intro c3 h
    try simp -implicitDefEqProofs (disch := omega) at c3
    try simp -implicitDefEqProofs (maxSteps := 1000000) (disch := omega) [go_sem]
    subst hc2
    refine vcK ?_
    simp -implicitDefEqProofs only [go_sem]
    have er := Option.some.inj h
    subst er
    try simp -implicitDefEqProofs (maxSteps := 1000000) (disch := omega) [go_sem]
    refine retG_pureA (Ext.refl hw) hK (e := by first | with_reducible rfl | (simp -implicitDefEqProofs (maxSteps := 1000000) (disch := omega) [go_sem] <;> omega))
 ·intro c6 h
  try simp -implicitDefEqProofs (disch := omega) at c6
  try simp -implicitDefEqProofs (maxSteps := 1000000) (disch := omega) [go_sem]
  refine splitG_f h (by first | with_reducible rfl | (simp -implicitDefEqProofs (maxSteps := 1000000) (disch := omega) [go_sem] <;> omega)) ?_ ?_
  ·intro c5 h
   try simp -implicitDefEqProofs (disch := omega) at c5
   try simp -implicitDefEqProofs (maxSteps := 1000000) (disch := omega) [go_sem]
   subst hc2
   refine vcK ?_
   simp -implicitDefEqProofs only [go_sem]
   have er := Option.some.inj h
   subst er
   try simp -implicitDefEqProofs (maxSteps := 1000000) (disch := omega) [go_sem]
   refine retG_pureA (Ext.refl hw) hK (e := by first | with_reducible rfl | (simp -implicitDefEqProofs (maxSteps := 1000000) (disch := omega) [go_sem] <;> omega))
  ·intro c5 h
   try simp -implicitDefEqProofs (disch := omega) at c5
   try simp -implicitDefEqProofs (maxSteps := 1000000) (disch := omega) [go_sem]
   subst hc2
   refine vcK ?_
   simp -implicitDefEqProofs only [go_sem]
   have er := Option.some.inj h
   subst er
   try simp -implicitDefEqProofs (maxSteps := 1000000) (disch := omega) [go_sem]
   refine retG_pureA (Ext.refl hw) hK (e := by first | with_reducible rfl | (simp -implicitDefEqProofs (maxSteps := 1000000) (disch := omega) [go_sem] <;> omega))

end Go.Idl
