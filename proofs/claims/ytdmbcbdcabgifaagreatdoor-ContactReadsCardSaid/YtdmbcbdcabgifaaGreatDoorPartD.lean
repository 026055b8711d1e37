/- The contact of any text, or that it is of none. Part 4. Conditions: none. -/
import Derived.Test.YtdmbcbdcabgifaaGreatDoorPartC
import Derived.Test.YtdmbcbdcabgifaaGreatDoorProg
import Derived.Shelf.Sort.Plain
import Derived.Ground.NamesProg
import Derived.Shelf.Strings.Builder1
import Derived.Shelf.LaysC
import Derived.Shelf.LaysM
import Derived.Shelf.Strconv.Itoa3
import Derived.Shelf.Strconv.AtoiAll
import Derived.Shelf.Strings.Cut
import Derived.WalkSpells
import Derived.WalkLawsBesides
import Derived.Shelf.Strconv.ErrVarAll
set_option linter.unusedSimpArgs false
set_option linter.unusedVariables false

namespace Go.Idl

open Go

@[go_sem] theorem cells3 : Go.Proofs.Tryz.prog.cellsOf 3 = 1 := by kernel_rfl

@[go_sem] theorem bytes3 : Go.Proofs.Tryz.prog.bytesOf 3 = 8 := by kernel_rfl

@[go_sem] theorem zero3 : zeroOf Go.Proofs.Tryz.prog 3 = Option.some (Go.Value.int Go.IntKind.i64 0) := by kernel_rfl

@[go_sem] theorem cells4 : Go.Proofs.Tryz.prog.cellsOf 4 = 1 := by kernel_rfl

@[go_sem] theorem cells5 : Go.Proofs.Tryz.prog.cellsOf 5 = 1 := by kernel_rfl

@[go_sem] theorem bytes5 : Go.Proofs.Tryz.prog.bytesOf 5 = 1 := by kernel_rfl

@[go_sem] theorem zero5 : zeroOf Go.Proofs.Tryz.prog 5 = Option.some (Go.Value.int Go.IntKind.u8 0) := by kernel_rfl

@[go_sem] theorem cells9 : Go.Proofs.Tryz.prog.cellsOf 9 = 1 := by kernel_rfl

@[go_sem] theorem bytes9 : Go.Proofs.Tryz.prog.bytesOf 9 = 16 := by kernel_rfl

@[go_sem] theorem zero9 : zeroOf Go.Proofs.Tryz.prog 9 = Option.some (Go.Value.string { data := #[] }) := by kernel_rfl

@[go_sem] theorem cells22 : Go.Proofs.Tryz.prog.cellsOf 22 = 1 := by kernel_rfl

@[go_sem] theorem cells24 : Go.Proofs.Tryz.prog.cellsOf 24 = 8 := by kernel_rfl

@[go_sem] theorem isBld24 : isBld Go.Proofs.Tryz.prog 24 = false := by kernel_rfl

@[go_sem] theorem zero24 : zeroOf Go.Proofs.Tryz.prog 24 = Option.some (Go.Value.agg #[Go.Value.slice Option.none 0 0, Go.Value.slice Option.none 0 0, Go.Value.slice Option.none 0 0, Go.Value.slice Option.none 0 0, Go.Value.slice Option.none 0 0, Go.Value.slice Option.none 0 0, Go.Value.slice Option.none 0 0, Go.Value.slice Option.none 0 0]) := by kernel_rfl

@[go_sem] theorem cells27 : Go.Proofs.Tryz.prog.cellsOf 27 = 1 := by kernel_rfl

@[go_sem] theorem isBld27 : isBld Go.Proofs.Tryz.prog 27 = false := by kernel_rfl

@[go_sem] theorem zero27 : zeroOf Go.Proofs.Tryz.prog 27 = Option.some (Go.Value.int Go.IntKind.i64 0) := by kernel_rfl

@[go_sem] theorem cells37 : Go.Proofs.Tryz.prog.cellsOf 37 = 1 := by kernel_rfl

@[go_sem] theorem isBld37 : isBld Go.Proofs.Tryz.prog 37 = false := by kernel_rfl

@[go_sem] theorem zero37 : zeroOf Go.Proofs.Tryz.prog 37 = Option.some Go.Value.nilFunc := by kernel_rfl

@[go_sem] theorem cells41 : Go.Proofs.Tryz.prog.cellsOf 41 = 1 := by kernel_rfl

@[go_sem] theorem isBld43 : isBld Go.Proofs.Tryz.prog 43 = true := by kernel_rfl

@[go_sem] theorem zero43 : zeroOf Go.Proofs.Tryz.prog 43 = Option.some (Go.Value.agg #[Go.Value.pointer Option.none, Go.Value.slice Option.none 0 0]) := by kernel_rfl

@[go_sem] theorem cells48 : Go.Proofs.Tryz.prog.cellsOf 48 = 1 := by kernel_rfl

@[go_sem] theorem isBld48 : isBld Go.Proofs.Tryz.prog 48 = false := by kernel_rfl

@[go_sem] theorem zero48 : zeroOf Go.Proofs.Tryz.prog 48 = Option.some Go.Value.nilFunc := by kernel_rfl

@[go_sem] theorem cells52 : Go.Proofs.Tryz.prog.cellsOf 52 = 8 := by kernel_rfl

@[go_sem] theorem isBld52 : isBld Go.Proofs.Tryz.prog 52 = false := by kernel_rfl

@[go_sem] theorem zero52 : zeroOf Go.Proofs.Tryz.prog 52 = Option.some (Go.Value.agg #[Go.Value.string { data := #[] }, Go.Value.string { data := #[] }, Go.Value.string { data := #[] }, Go.Value.string { data := #[] }, Go.Value.string { data := #[] }, Go.Value.string { data := #[] }, Go.Value.string { data := #[] }, Go.Value.string { data := #[] }]) := by kernel_rfl

@[go_sem] theorem cells62 : Go.Proofs.Tryz.prog.cellsOf 62 = 1 := by kernel_rfl

@[go_sem] theorem zero62 : zeroOf Go.Proofs.Tryz.prog 62 = Option.some (Go.Value.agg #[Go.Value.string { data := #[] }]) := by kernel_rfl

@[go_sem] theorem zero64 : zeroOf Go.Proofs.Tryz.prog 64 = Option.some (Go.Value.agg #[Go.Value.string { data := #[] }, Go.Value.bool Bool.false]) := by kernel_rfl

@[go_sem] theorem cells141 : Go.Proofs.Tryz.prog.cellsOf 141 = 1 := by kernel_rfl

attribute [go_sem] Go.Proofs.Tryz.underlying0 Go.Proofs.Tryz.underlying1 Go.Proofs.Tryz.underlying2 Go.Proofs.Tryz.underlying3 Go.Proofs.Tryz.underlying4 Go.Proofs.Tryz.underlying5 Go.Proofs.Tryz.underlying6 Go.Proofs.Tryz.underlying7 Go.Proofs.Tryz.underlying8 Go.Proofs.Tryz.underlying9 Go.Proofs.Tryz.underlying10 Go.Proofs.Tryz.underlying11 Go.Proofs.Tryz.underlying12 Go.Proofs.Tryz.underlying13 Go.Proofs.Tryz.underlying14 Go.Proofs.Tryz.underlying15 Go.Proofs.Tryz.underlying16 Go.Proofs.Tryz.underlying17 Go.Proofs.Tryz.underlying18 Go.Proofs.Tryz.underlying19 Go.Proofs.Tryz.underlying20 Go.Proofs.Tryz.underlying21 Go.Proofs.Tryz.underlying22 Go.Proofs.Tryz.underlying23 Go.Proofs.Tryz.underlying24 Go.Proofs.Tryz.underlying25 Go.Proofs.Tryz.underlying26 Go.Proofs.Tryz.underlying27 Go.Proofs.Tryz.underlying28 Go.Proofs.Tryz.underlying29 Go.Proofs.Tryz.underlying30 Go.Proofs.Tryz.underlying31 Go.Proofs.Tryz.underlying32 Go.Proofs.Tryz.underlying33 Go.Proofs.Tryz.underlying34 Go.Proofs.Tryz.underlying35 Go.Proofs.Tryz.underlying36 Go.Proofs.Tryz.underlying37 Go.Proofs.Tryz.underlying38 Go.Proofs.Tryz.underlying39 Go.Proofs.Tryz.underlying40 Go.Proofs.Tryz.underlying41 Go.Proofs.Tryz.underlying42 Go.Proofs.Tryz.underlying43 Go.Proofs.Tryz.underlying44 Go.Proofs.Tryz.underlying45 Go.Proofs.Tryz.underlying46 Go.Proofs.Tryz.underlying47 Go.Proofs.Tryz.underlying48 Go.Proofs.Tryz.underlying49 Go.Proofs.Tryz.underlying50 Go.Proofs.Tryz.underlying51 Go.Proofs.Tryz.underlying52 Go.Proofs.Tryz.underlying53 Go.Proofs.Tryz.underlying54 Go.Proofs.Tryz.underlying55 Go.Proofs.Tryz.underlying56 Go.Proofs.Tryz.underlying57 Go.Proofs.Tryz.underlying58 Go.Proofs.Tryz.underlying59 Go.Proofs.Tryz.underlying60 Go.Proofs.Tryz.underlying61 Go.Proofs.Tryz.underlying62 Go.Proofs.Tryz.underlying63 Go.Proofs.Tryz.underlying64 Go.Proofs.Tryz.underlying65 Go.Proofs.Tryz.underlying66 Go.Proofs.Tryz.underlying67 Go.Proofs.Tryz.underlying68 Go.Proofs.Tryz.underlying69 Go.Proofs.Tryz.underlying70 Go.Proofs.Tryz.underlying71 Go.Proofs.Tryz.underlying72 Go.Proofs.Tryz.underlying73 Go.Proofs.Tryz.underlying74 Go.Proofs.Tryz.underlying75 Go.Proofs.Tryz.underlying76 Go.Proofs.Tryz.underlying77 Go.Proofs.Tryz.underlying78 Go.Proofs.Tryz.underlying79 Go.Proofs.Tryz.underlying80 Go.Proofs.Tryz.underlying81 Go.Proofs.Tryz.underlying82 Go.Proofs.Tryz.underlying83 Go.Proofs.Tryz.underlying84 Go.Proofs.Tryz.underlying85 Go.Proofs.Tryz.underlying86 Go.Proofs.Tryz.underlying87 Go.Proofs.Tryz.underlying88 Go.Proofs.Tryz.underlying89 Go.Proofs.Tryz.underlying90 Go.Proofs.Tryz.underlying91 Go.Proofs.Tryz.underlying92 Go.Proofs.Tryz.underlying93 Go.Proofs.Tryz.underlying94 Go.Proofs.Tryz.underlying95 Go.Proofs.Tryz.underlying96 Go.Proofs.Tryz.underlying97 Go.Proofs.Tryz.underlying98 Go.Proofs.Tryz.underlying99 Go.Proofs.Tryz.underlying100 Go.Proofs.Tryz.underlying101 Go.Proofs.Tryz.underlying102 Go.Proofs.Tryz.underlying103 Go.Proofs.Tryz.underlying104 Go.Proofs.Tryz.underlying105 Go.Proofs.Tryz.underlying106 Go.Proofs.Tryz.underlying107 Go.Proofs.Tryz.underlying108 Go.Proofs.Tryz.underlying109 Go.Proofs.Tryz.underlying110 Go.Proofs.Tryz.underlying111 Go.Proofs.Tryz.underlying112 Go.Proofs.Tryz.underlying113 Go.Proofs.Tryz.underlying114 Go.Proofs.Tryz.underlying115 Go.Proofs.Tryz.underlying116 Go.Proofs.Tryz.underlying117 Go.Proofs.Tryz.underlying118 Go.Proofs.Tryz.underlying119 Go.Proofs.Tryz.underlying120 Go.Proofs.Tryz.underlying121 Go.Proofs.Tryz.underlying122 Go.Proofs.Tryz.underlying123 Go.Proofs.Tryz.underlying124 Go.Proofs.Tryz.underlying125 Go.Proofs.Tryz.underlying126 Go.Proofs.Tryz.underlying127 Go.Proofs.Tryz.underlying128 Go.Proofs.Tryz.underlying129 Go.Proofs.Tryz.underlying130 Go.Proofs.Tryz.underlying131 Go.Proofs.Tryz.underlying132 Go.Proofs.Tryz.underlying133 Go.Proofs.Tryz.underlying134 Go.Proofs.Tryz.underlying135 Go.Proofs.Tryz.underlying136 Go.Proofs.Tryz.underlying137 Go.Proofs.Tryz.underlying138 Go.Proofs.Tryz.underlying139 Go.Proofs.Tryz.underlying140 Go.Proofs.Tryz.underlying141 Go.Proofs.Tryz.underlying142 Go.Proofs.Tryz.underlying143 Go.Proofs.Tryz.underlying144 Go.Proofs.Tryz.underlying145 Go.Proofs.Tryz.underlying146 Go.Proofs.Tryz.underlying147 Go.Proofs.Tryz.underlying148 Go.Proofs.Tryz.underlying149 Go.Proofs.Tryz.underlying150 Go.Proofs.Tryz.underlying151 Go.Proofs.Tryz.underlying152 Go.Proofs.Tryz.underlying153 Go.Proofs.Tryz.underlying154 Go.Proofs.Tryz.underlying155 Go.Proofs.Tryz.underlying156 Go.Proofs.Tryz.underlying157 Go.Proofs.Tryz.underlying158 Go.Proofs.Tryz.underlying159

end Go.Idl

namespace Go.Idl

open Go Go.Proofs.Tryz

@[go_sem] abbrev sS (l : List (List UInt8)) : IV := .sl 1 (l.map fun s => [.v (str s)])

end Go.Idl

namespace Go.Idl

open Go Go.Proofs.Tryz

def ixs (l : List IV) : List (List IV) := l.zipIdx.map fun p => [.v (.int .i64 p.2), p.1]

theorem ixs_length (l : List IV) : (ixs l).length = l.length := by simp [ixs]

theorem ixs_get {l : List IV} {i : Nat} (h : i < l.length) : (ixs l)[i]? = some [.v (.int .i64 i), l[i]] := by simp [ixs, h]

set_option pp.deepTerms false in
set_option maxRecDepth 4000 in
theorem all49 (l : List IV) : Iter prog 56 [.cp [.sl 1 (l.map fun x => [x])]] (ixs l) [] := by
  refine ⟨by kernel_rfl, fun lp I E H hC hy h0 => ?_⟩
  refine ICalls_vc (N := 18) func56 (by kernel_rfl) rfl (by kernel_rfl) (by kernel_rfl) fun hw hbd hnb => ?_
  simp only [List.mem_cons, List.not_mem_nil, or_false, forall_eq_or_imp, forall_eq] at hbd
  have hl : l.length ≤ 9223372036854775807 := by
    have h := hbd.2
    cases h with | cp _ h => exact (by simpa [maxN] using (Bd_sl.1 (h (.sl 1 (l.map fun x => [x])) (by simp))).1)
  simp (maxSteps := 1000000) (disch := omega) [go_sem]
  refine vcLoop_mk (fun tm' H' => ∃ i : Nat, tm' 0 = yv lp ∧ tm' 5 = .sl 1 (l.map fun x => [x]) ∧ tm' 6 = .v (.int .i64 l.length) ∧ tm' 7 = .v (.int .i64 i) ∧ i ≤ l.length ∧ I i H') (fun tm' _ => l.length - (intOf (tm' 7)).toNat) (.same ?_) ?_
  · exact ⟨0, by simp [go_sem], by simp [go_sem], by simp [go_sem], by simp [go_sem], by omega, h0⟩
  · rintro I' μ' hI hμ tm' H' ⟨i, h0, h5, h6, h7, hi, hI0⟩
    refine vc_sound _ (by kernel_rfl) _ _ _ ?_
    simp (maxSteps := 1000000) (disch := omega) [go_sem, h0, h5, h6, h7]
    refine condB ?_ ?_ <;> intro hc <;> (try simp at hc)
    · simp (maxSteps := 1000000) (disch := omega) [go_sem, h0, h5, h6, h7]
      refine IOper_yield' (l := lp) rfl (by kernel_rfl) (by simp [go_sem]) (by simp [go_sem]) ((hy i _ H' (ixs_get hc) hI0).mono ?_)
      rintro b H'' (⟨rfl, h⟩ | ⟨rfl, h⟩)
      · simp (maxSteps := 1000000) (disch := omega) [go_sem, h0, h5, h6, h7]
        exact .of hI hμ ⟨i + 1, by simp [go_sem, h0], by simp [go_sem, h5], by simp [go_sem, h6], by simp [go_sem], by omega, h⟩ (by simp [go_sem, h7]; omega)
      · simp (maxSteps := 1000000) (disch := omega) [go_sem, h0, h5, h6, h7]
        exact retG_all ⟨⟨_, rfl⟩, .inr h⟩
    · simp (maxSteps := 1000000) (disch := omega) [go_sem, h0, h5, h6, h7]
      have e : i = l.length := by omega
      subst e
      exact retG_all ⟨⟨_, rfl⟩, .inl (by rw [ixs_length]; exact hI0)⟩

theorem all41 {H : IHeap} {K : IEnd → IHeap → Prop} (x : IV) (hx : cellsI x = some [x]) (hK : K (.ret (.fn (.func 56) [] [.cp [x]])) H) : ICalls prog 43 [x] H K := by
  refine ICalls_vc (N := 4) func43 (by kernel_rfl) rfl (by kernel_rfl) (by kernel_rfl) fun hw hbd hnb => ?_
  have hnx := hnb x (by simp)
  simp (maxSteps := 1000000) (disch := omega) [go_sem, hx]
  exact retG_fz (J := H) (Ext.refl hw |>.new _).endH (.clos1 (.ptr (cs := [x]) (hw _ (Nat.le_refl _)) (by simp [go_sem]) (by simpa using hnx))) hK

end Go.Idl

namespace Go.Idl

open Go Go.Proofs.Tryz

@[go_sem] abbrev cS (c : List (List (List UInt8))) : IV := .ag (c.map sS)

set_option pp.deepTerms false in
set_option maxRecDepth 4000 in
theorem fields25 {H : IHeap} {K : IEnd → IHeap → Prop} (c : List (List (List UInt8))) (hc : c.length = 8) (hK : K (.ret (.fn (.func 56) [] [.cp [.sl 1 ((c.map sS).map fun x => [x])]])) H) : ICalls prog 18 [cS c] H K := by
  refine ICalls_vc (N := 5) func18 (by kernel_rfl) rfl (by kernel_rfl) (by kernel_rfl) fun hw hbd hnb => ?_
  simp (maxSteps := 1000000) (disch := omega) [go_sem, hc]
  refine all41 _ rfl ?_
  simp (maxSteps := 1000000) (disch := omega) [go_sem, hc]
  have e : (.sl 1 ((c.map sS).map fun x => [x]) : IV) = .sl 1 (chunks 1 8 ((c.map sS).drop 0)) := by rw [List.drop_zero, chunks_one' (by simp [hc])]
  have hbs := Fz.bs (H := H.new (.cells (c.map sS))) (J := H) H.next 0 8 1 (c.map sS) (c.map sS) (hw _ (Nat.le_refl _)) (by simp [go_sem]) rfl (by simp [hc]) (by simp [maxN]) (fzs (NB_ag.1 (hnb (cS c) (by simp))))
  rw [← e] at hbs
  exact retG_fz (J := H) (Ext.refl hw |>.new _).endH (.clos1 (.cp1 hbs)) hK

theorem clone20 {H : IHeap} {K : IEnd → IHeap → Prop} (l : List (List UInt8)) (hl : l.length ≤ 1000000) (hK : K (.ret (sS l)) H) : ICalls prog 38 [sS l] H K := by
  refine ICalls_vc (N := 8) func38 (by kernel_rfl) rfl (by kernel_rfl) (by kernel_rfl) fun hw hbd hnb => ?_
  have hnl := hnb (sS l) (by simp)
  simp (maxSteps := 1000000) (disch := omega) [go_sem]
  refine IOper_slnil rfl (by kernel_rfl) underlying22 (by simp [go_sem]; exact ⟨rfl, rfl⟩) rfl (.inl rfl) fun b hb => ?_
  simp (maxSteps := 1000000) (disch := omega) [go_sem]
  refine condB ?_ ?_ <;> intro hc <;> (try simp at hc)
  · simp (maxSteps := 1000000) (disch := omega) [go_sem]
    have e : l = [] := by simpa using hb hc
    subst e
    exact retG_fz (J := H) (Ext.refl hw).endH (.wk _ _ (.nil 1) hnl) hK
  · simp (maxSteps := 1000000) (disch := omega) [go_sem]
    refine IOper_buildEmpty (sz := 1) (rs := []) rfl (by simp [bsI, underlying22, zero9, cells9, Value.cells, Value.oneCell', rep, fillI]) ?_
    simp (maxSteps := 1000000) (disch := omega) [go_sem]
    exact retG_fz (J := H) ((Ext.refl hw).new _ |>.set (Nat.le_refl _) _).endH (.row (hw _ (Nat.le_refl _)) (by simp [go_sem]) (by simp) hnl) hK

end Go.Idl

namespace Go.Idl

open Go Go.Proofs.Tryz

set_option pp.deepTerms false in
set_option maxRecDepth 4000 in
theorem copy16 {H : IHeap} {K : IEnd → IHeap → Prop} (c : List (List (List UInt8))) (hc : c.length = 8) (hs : ∀ s, s ∈ c → s.length ≤ 1000000) (hK : K (.ret (cS c)) H) : ICalls prog 37 [cS c] H K := by
  refine ICalls_vc (N := 14) func37 (by kernel_rfl) rfl (by kernel_rfl) (by kernel_rfl) fun hw hbd hnb => ?_
  have hnc := hnb (cS c) (by simp)
  have ht : List.take 8 (c.map sS) = c.map sS := by rw [List.take_of_length_le]; simp [hc]
  simp (maxSteps := 1000000) (disch := omega) [go_sem, hc, ht]
  refine fields25 c hc ?_
  simp (maxSteps := 1000000) (disch := omega) [go_sem, hc]
  refine IWp_rangeFunc (gf := 56) (cap := [.cp [.sl 1 ((c.map sS).map fun x => [x])]]) (by kernel_rfl) (by simp [go_sem]) (all49 (c.map sS))
    (fun i Hu => Hu.obj H.next = some (.cells (c.map sS)) ∧ Hu.obj (H.next + 1) = some (.cells (List.replicate 8 (.v (.slice none 0 0)))) ∧ Ext H Hu ∧ H.next + 2 ≤ Hu.next) ?_ (by simp) ?_ ?_ ?_
  · refine ⟨by simp [go_sem], by simp [go_sem], (Ext.refl hw).new _ |>.new _, by simp [go_sem]⟩
  · intro args h
    obtain ⟨i, hi⟩ := List.getElem?_of_mem h
    simp only [ixs, List.getElem?_map, Option.map_eq_some_iff] at hi
    obtain ⟨p, _, rfl⟩ := hi
    rfl
  · rintro i args Hu hx ⟨h1, h2, h3, h4⟩
    have hi : i < c.length := by
      have := (List.getElem?_eq_some_iff.1 hx).1
      simpa [ixs_length] using this
    rw [ixs_get (by simpa using hi)] at hx
    cases hx
    refine vc_sound _ (by kernel_rfl) _ _ _ ?_
    simp (maxSteps := 1000000) (disch := omega) [go_sem, setPs, hc]
    refine vc_sound _ (by kernel_rfl) _ _ _ ?_
    simp (maxSteps := 1000000) (disch := omega) [go_sem, setPs, hc, h1, h2]
    refine clone20 _ (hs _ (List.getElem_mem _)) ?_
    simp (maxSteps := 1000000) (disch := omega) [go_sem, setPs, hc, h1, h2]
    have e : List.take i (List.map sS c) ++ sS c[i] :: List.drop (i + 1) (List.map sS c) = List.map sS c := by
      conv => rhs; rw [← List.take_append_drop i (List.map sS c), List.drop_eq_getElem_cons (by simpa using hi)]
      simp
    refine ⟨by simp [go_sem]; exact e, by simp [go_sem]; exact h2, h3.skip.set (Nat.le_refl _) _, by simp [go_sem]; omega⟩
  · rintro Hu ⟨h1, h2, h3, h4⟩
    simp (maxSteps := 1000000) (disch := omega) [go_sem, hc, h1, h2]
    rw [ht, ht]
    exact retG_fz (J := H) (h3.skip.set (by omega) _).endH (.same hnc) hK

end Go.Idl

namespace Go.Idl

open Go Go.Proofs.Tryz

set_option pp.deepTerms false in
set_option maxRecDepth 4000 in
theorem values39 (l : List IV) : Iter prog 54 [.cp [.sl 1 (l.map fun x => [x])]] (l.map fun x => [x]) [] := by
  refine ⟨by kernel_rfl, fun lp I E H hC hy h0 => ?_⟩
  refine ICalls_vc (N := 16) func54 (by kernel_rfl) rfl (by kernel_rfl) (by kernel_rfl) fun hw hbd hnb => ?_
  simp only [List.mem_cons, List.not_mem_nil, or_false, forall_eq_or_imp, forall_eq] at hbd
  have hl : l.length ≤ 9223372036854775807 := by
    have h := hbd.2
    cases h with | cp _ h => exact (by simpa [maxN] using (Bd_sl.1 (h (.sl 1 (l.map fun x => [x])) (by simp))).1)
  simp (maxSteps := 1000000) (disch := omega) [go_sem]
  refine vcLoop_mk (fun tm' H' => ∃ i : Nat, tm' 0 = yv lp ∧ tm' 5 = .sl 1 (l.map fun x => [x]) ∧ tm' 6 = .v (.int .i64 l.length) ∧ tm' 7 = .v (.int .i64 i) ∧ i ≤ l.length ∧ I i H') (fun tm' _ => l.length - (intOf (tm' 7)).toNat) (.same ?_) ?_
  · exact ⟨0, by simp [go_sem], by simp [go_sem], by simp [go_sem], by simp [go_sem], by omega, h0⟩
  · rintro I' μ' hI hμ tm' H' ⟨i, h0, h5, h6, h7, hi, hI0⟩
    refine vc_sound _ (by kernel_rfl) _ _ _ ?_
    simp (maxSteps := 1000000) (disch := omega) [go_sem, h0, h5, h6, h7]
    refine condB ?_ ?_ <;> intro hc <;> (try simp at hc)
    · simp (maxSteps := 1000000) (disch := omega) [go_sem, h0, h5, h6, h7]
      refine IOper_yield' (l := lp) (is := [l[i]]) rfl (by kernel_rfl) (by simp [go_sem]) (by simp [go_sem]) ((hy i _ H' (by simp [hc]) hI0).mono ?_)
      rintro b H'' (⟨rfl, h⟩ | ⟨rfl, h⟩)
      · simp (maxSteps := 1000000) (disch := omega) [go_sem, h0, h5, h6, h7]
        exact .of hI hμ ⟨i + 1, by simp [go_sem, h0], by simp [go_sem, h5], by simp [go_sem, h6], by simp [go_sem], by omega, h⟩ (by simp [go_sem, h7]; omega)
      · simp (maxSteps := 1000000) (disch := omega) [go_sem, h0, h5, h6, h7]
        exact retG_all ⟨⟨_, rfl⟩, .inr h⟩
    · simp (maxSteps := 1000000) (disch := omega) [go_sem, h0, h5, h6, h7]
      have e : i = l.length := by omega
      subst e
      exact retG_all ⟨⟨_, rfl⟩, .inl hI0⟩

theorem values23 {H : IHeap} {K : IEnd → IHeap → Prop} (x : IV) (hx : cellsI x = some [x]) (hK : K (.ret (.fn (.func 54) [] [.cp [x]])) H) : ICalls prog 41 [x] H K := by
  refine ICalls_vc (N := 4) func41 (by kernel_rfl) rfl (by kernel_rfl) (by kernel_rfl) fun hw hbd hnb => ?_
  have hnx := hnb x (by simp)
  simp (maxSteps := 1000000) (disch := omega) [go_sem, hx]
  exact retG_fz (J := H) (Ext.refl hw |>.new _).endH (.clos1 (.ptr (cs := [x]) (hw _ (Nat.le_refl _)) (by simp [go_sem]) (by simpa using hnx))) hK

def Own (J : IHeap) (n : Nat) (r : IV) (l : List (List UInt8)) : Prop :=
  (l = [] ∧ r = .v (.slice none 0 0)) ∨ (l ≠ [] ∧ ∃ k, n ≤ k ∧ r = .bs k 0 l.length ∧ J.obj k = some (.cells (l.map fun s => .v (str s))))

set_option pp.deepTerms false in
set_option maxRecDepth 4000 in
theorem appendSeq46 {H : IHeap} {K : IEnd → IHeap → Prop} (l : List (List UInt8)) (hl : l.length ≤ 1000000) (gf : FuncId) (cap : List IV) (C : List (Nat × HO)) (hit : Iter prog gf cap (l.map fun s => [.v (str s)]) C) (hC : ∀ p, p ∈ C → H.obj p.1 = some p.2)
    (hK : ∀ r J, Ext H J → Own J H.next r l → K (.ret r) J) : ICalls prog 61 [.v (.slice none 0 0), .fn (.func gf) [] cap] H K := by
  refine ICalls_vc (N := 13) func61 (by kernel_rfl) rfl (by kernel_rfl) (by kernel_rfl) fun hw hbd hnb => ?_
  simp (maxSteps := 1000000) (disch := omega) [go_sem]
  refine IWp_rangeFunc (gf := gf) (cap := cap) (by kernel_rfl) (by simp [go_sem]) hit
    (fun i Hu => Ext H Hu ∧ H.next < Hu.next ∧ ((i = 0 ∧ Hu.obj H.next = some (.cells [.v (.slice none 0 0)])) ∨ (0 < i ∧ ∃ k, H.next < k ∧ k < Hu.next ∧ Hu.obj H.next = some (.cells [.os k i]) ∧ Hu.obj k = some (.row 1 ((l.take i).map fun s => [.v (str s)]))))) ?_ ?_ ?_ ?_ ?_
  · exact ⟨(Ext.refl hw).new _, by simp [go_sem], .inl ⟨rfl, by simp [go_sem]⟩⟩
  · rintro i Hu ⟨he, _⟩ p hp
    exact he.sub _ _ (hC p hp)
  · intro args h
    simp at h
    obtain ⟨s, _, rfl⟩ := h
    rfl
  · rintro i args Hu hx ⟨he, hn, hI⟩
    have hi : i < l.length := by
      have := (List.getElem?_eq_some_iff.1 hx).1
      simpa using this
    simp [hi] at hx
    subst hx
    refine vc_sound _ (by kernel_rfl) _ _ _ ?_
    simp (maxSteps := 1000000) (disch := omega) [go_sem, setPs]
    refine vc_sound _ (by kernel_rfl) _ _ _ ?_
    rcases hI with ⟨rfl, h1⟩ | ⟨h0, k, hk, hk', h1, h2⟩
    · have e1 : ¬ H.next = Hu.next + 1 := by omega
      simp (maxSteps := 1000000) (disch := omega) [go_sem, setPs, h1, e1]
      refine ⟨((he.skip).new _).set (Nat.le_refl _) _, by simp [go_sem]; omega, Hu.next + 1, by omega, by simp [go_sem], by simp [go_sem], ?_⟩
      have e2 : ¬ Hu.next + 1 = H.next := by omega
      simp [go_sem, e2, List.take_one]
      rw [List.head?_eq_getElem?, List.getElem?_eq_getElem hi]
      simp
    · have e1 : ¬ H.next = k := by omega
      have e2 : ¬ k = H.next := by omega
      simp (maxSteps := 1000000) (disch := omega) [go_sem, setPs, h1, h2, e1, e2]
      refine ⟨((he.skip).set (by omega) _).set (Nat.le_refl _) _, by simp [go_sem]; omega, k, hk, by simp [go_sem]; omega, by simp [go_sem], ?_⟩
      simp [go_sem, e2]
      rw [List.take_succ_eq_append_getElem (by simpa using hi)]
      simp
  · rintro Hu ⟨he, hn, hI⟩
    rcases hI with ⟨e, h1⟩ | ⟨h0, k, hk, hk', h1, h2⟩
    · have e' : l = [] := by simpa using e
      simp (maxSteps := 1000000) (disch := omega) [go_sem, h1]
      exact retG_all (hK _ _ he.skip (.inl ⟨e', rfl⟩))
    · have hne : l ≠ [] := by rintro rfl; simp at h0
      have hpos : 0 < l.length := by simpa using h0
      have h2' : Hu.skip.obj k = some (.row 1 (l.map fun s => [.v (str s)])) := by simpa [go_sem] using h2
      simp (maxSteps := 1000000) (disch := omega) [go_sem, h1, h2]
      have hf : GhR (.os k (l.map fun s => ([.v (str s)] : List IV)).length) Hu.skip (.bs Hu.skip.next 0 (l.map fun s => ([.v (str s)] : List IV)).length) (Hu.skip.fix k (l.map fun s => ([.v (str s)] : List IV)).flatten) := GhR.fix h2' (by simpa using hpos)
      rw [List.length_map] at hf
      refine retG_gh hf (hK _ _ (he.skip.fix (by omega) _) (.inr ⟨hne, _, by simp [go_sem]; omega, rfl, ?_⟩))
      simp [go_sem, List.flatten_eq_flatMap, List.flatMap_map]
      clear hK hit hC hl hf h2' h2 h1 h0 hpos hne
      induction l with
      | nil => rfl
      | cons s l ih => simp [ih]

end Go.Idl

namespace Go.Idl

open Go Go.RowKit Go.Proofs Go.Shelf

variable {P : Program} {H : IHeap}

theorem ICalls_sortStr {ρ : Go.Shelf.Ren} {f : FuncId} (Ly : Lays.n190 P ρ) (hf : ρ.f 190 = f) (hb : hasBody P f = true) {K : IEnd → IHeap → Prop} (l : List (List UInt8)) (k : Nat) (hk : H.obj k = some (.cells (l.map fun s => .v (str s)))) (hl : l.length < 4611686018427387904)
    (hK : K (.ret (.tu [])) (H.set k (.cells ((l.mergeSort fun x y => decide (x ≤ y)).map fun s => .v (str s))))) : ICalls P f [.bs k 0 l.length] H K := by
  refine ⟨hb, fun w g vs s rl => ?_⟩
  obtain ⟨hsz, hrl⟩ := rl
  have h0 : 0 < vs.size := by rw [hsz]; simp
  have hv := hrl 0 vs[0] (.bs k 0 l.length) (Array.getElem?_eq_getElem (by rw [hsz]; simp)) rfl
  obtain ⟨b, xs, el, fr, h1, h2, h3, h4⟩ := s.obj k _ hk
  have hsh : g.sh k = some .fx := by rw [s.sh, IHeap.sh, hk]; rfl
  have ⟨cap, hx⟩ : ∃ cap, vs[0] = .slice (some ⟨b, 0, none⟩) l.length cap := by
    generalize vs[0] = x at hv
    cases hv with
    | bs _ _ _ _ _ _ h =>
      obtain ⟨b', cap, q1, q2⟩ := h .fx hsh rfl
      rw [h1] at q1
      cases q1
      exact ⟨cap, q2⟩
  have hvs : vs = #[.slice (some ⟨b, 0, none⟩) l.length cap] := by
    apply Array.ext
    · simpa using hsz
    · intro i h5 h6
      have e : i = 0 := by rw [hsz] at h5; simpa using h5
      subst e
      simpa using hx
  have hcell : ∀ j (hj : j < l.length), xs[j]? = some (str l[j]) := by
    intro j hj
    obtain ⟨x, q1, _, q2⟩ := h4.2 j (.v (str l[j])) (by simp [hj])
    rw [q1, q2.v_eq]
  have hH : Go.Sort.Holds encStr w b 0 l.toArray := by
    intro j hj
    have hj' : j < l.length := by simpa using hj
    have e : l.toArray[j]! = l[j] := by simp [hj']
    refine ⟨?_, ?_⟩
    · rw [e]
      simp only [World.cell?, h2, Nat.zero_add]
      simpa [encStr] using hcell j hj'
    · simp only [World.frozen?, h2, Nat.zero_add]
      have hlt : j < xs.size := (Array.getElem?_eq_some_iff.1 (hcell j hj')).1
      have := h3 j hlt
      obtain ⟨lo, hi⟩ := fr
      simp only [Bool.and_eq_false_iff, decide_eq_false_iff_not]
      by_cases e : lo ≤ j
      · exact .inr fun e' => this ⟨e, e'⟩
      · exact .inl e
  have hc := Go.Proofs.Any.slices_Sort_string Ly b 0 cap l w hH (heap_lt h2) hl
  rw [hf, ← hvs] at hc
  refine hc.mono ?_
  rintro e w' ⟨rfl, n, os, rfl⟩
  generalize hS : (l.mergeSort fun x y => decide (x ≤ y)) = S at *
  have hSl : S.length = l.length := by rw [← hS]; simp
  have hlt := heap_lt h2
  have hheap : (Go.Sort.grow (Go.Sort.putRow encStr (Go.Sort.ahead w n) b 0 S.toArray) os).heap = w.heap.modify b (Go.Sort.onCells (Go.Sort.putCells encStr 0 S.toArray)) ++ os := rfl
  have hat : (Go.Sort.grow (Go.Sort.putRow encStr (Go.Sort.ahead w n) b 0 S.toArray) os).heap[b]? = some (.cells (Go.Sort.putCells encStr 0 S.toArray xs) el fr) := by
    rw [hheap, Array.getElem?_append_left (by simpa using hlt), Array.getElem?_modify, if_pos rfl, h2]
    rfl
  have hne : ∀ i, i < w.heap.size → i ≠ b → (Go.Sort.grow (Go.Sort.putRow encStr (Go.Sort.ahead w n) b 0 S.toArray) os).heap[i]? = w.heap[i]? := by
    intro i hi hn
    rw [hheap, Array.getElem?_append_left (by simpa using hi), Array.getElem?_modify, if_neg (Ne.symm hn)]
  have hsize : w.heap.size ≤ (Go.Sort.grow (Go.Sort.putRow encStr (Go.Sort.ahead w n) b 0 S.toArray) os).heap.size := by
    rw [hheap]; simp
  have hg : ∀ o : HO, o.sh = .fx → g.put k (g.mu k) o.sh (H.set k o).next = g := by
    intro o ho
    rw [ho]
    show g.put k (g.mu k) .fx H.next = g
    rw [← s.nx]
    exact g.put_self k _ hsh
  have hu := s.upd (H' := H.set k (.cells (S.map fun s => .v (str s)))) (w' := Go.Sort.grow (Go.Sort.putRow encStr (Go.Sort.ahead w n) b 0 S.toArray) os) k (g.mu k) (.cells (S.map fun s => .v (str s))) rfl (Nat.le_refl _) (s.lt k (by rw [hk]; rfl)) hsize rfl rfl rfl
    (fun i hi => by
      by_cases e : i = b
      · exact .inl ⟨by rw [hsh]; rfl, by rw [h1, e]; rfl⟩
      · exact .inr (hne i hi e))
    (fun i hi => by
      rw [h1] at hi
      cases hi
      exact ⟨Nat.lt_of_lt_of_le hlt hsize, .inr ⟨by rw [hsh]; rfl, by rw [h1]; rfl⟩⟩)
    (.inr (.inl ⟨hsh, rfl, rfl⟩))
    (fun g' m e => by
      have hxl : l.length ≤ xs.size := by have := h4.1; simpa using this
      refine ⟨b, _, el, fr, h1, hat, ?_, ?_, ?_⟩
      · simpa [Go.Sort.putCells] using h3
      · simp [Go.Sort.putCells]; omega
      · intro j c hj
        simp only [List.getElem?_map, Option.map_eq_some_iff] at hj
        obtain ⟨x, hx', rfl⟩ := hj
        have hjl := (List.getElem?_eq_some_iff.1 hx').1
        have hjx : j < xs.size := by omega
        refine ⟨str x, ?_, rfl, .v _⟩
        have e2 : S[j]? = some x := hx'
        simp [Go.Sort.putCells, hjx, hjl, encStr]
        exact (List.getElem?_eq_some_iff.1 e2).2)
  rw [hg _ rfl] at hu
  exact ⟨.ret (.tu []), g, _, hu.2, hu.1, .ret _ _ (.tu #[] [] rfl (by simp)), hK⟩

end Go.Idl

namespace Go.Proofs

open Go.Shelf

def Tryz.lays190_ren : Go.Shelf.Ren := ⟨fun | 190 => 53 | 125 => 63 | 258 => 62 | 128 => 83 | 129 => 84 | 302 => 74 | 303 => 75 | 304 => 76 | 305 => 77 | 306 => 78 | 307 => 79 | 308 => 80 | 309 => 81 | 310 => 82 | 333 => 96 | 329 => 97 | 330 => 98 | 334 => 99 | 335 => 100 | 336 => 101 | 344 => 108 | n => n, fun | 31 => 22 | 9 => 9 | 3 => 3 | 46 => 95 | 0 => 0 | 51 => 118 | 53 => 97 | 4 => 4 | 183 => 111 | 182 => 110 | 131 => 65 | 5 => 5 | 218 => 130 | 222 => 134 | 228 => 142 | 229 => 143 | n => n, fun | n => n⟩

theorem Tryz.lays190 : Go.Proofs.Lays.n190 Tryz.prog Tryz.lays190_ren := {
  mixed := by kernel_rfl
  f125 := Tryz.func63.trans (congrArg some (by kernel_rfl))
  f128 := Tryz.func83.trans (congrArg some (by kernel_rfl))
  f129 := Tryz.func84.trans (congrArg some (by kernel_rfl))
  f190 := Tryz.func53.trans (congrArg some (by kernel_rfl))
  f258 := Tryz.func62.trans (congrArg some (by kernel_rfl))
  f302 := Tryz.func74.trans (congrArg some (by kernel_rfl))
  f303 := Tryz.func75.trans (congrArg some (by kernel_rfl))
  f304 := Tryz.func76.trans (congrArg some (by kernel_rfl))
  f305 := Tryz.func77.trans (congrArg some (by kernel_rfl))
  f306 := Tryz.func78.trans (congrArg some (by kernel_rfl))
  f307 := Tryz.func79.trans (congrArg some (by kernel_rfl))
  f308 := Tryz.func80.trans (congrArg some (by kernel_rfl))
  f309 := Tryz.func81.trans (congrArg some (by kernel_rfl))
  f310 := Tryz.func82.trans (congrArg some (by kernel_rfl))
  f329 := Tryz.func97.trans (congrArg some (by kernel_rfl))
  f330 := Tryz.func98.trans (congrArg some (by kernel_rfl))
  f333 := Tryz.func96.trans (congrArg some (by kernel_rfl))
  f334 := Tryz.func99.trans (congrArg some (by kernel_rfl))
  f335 := Tryz.func100.trans (congrArg some (by kernel_rfl))
  f336 := Tryz.func101.trans (congrArg some (by kernel_rfl))
  f344 := Tryz.func108.trans (congrArg some (by kernel_rfl))
  t0 := Tryz.underlying0
  a0 := Tryz.isAgg0
  z0 := Tryz.sizeOf0
  v0 := Tryz.zeroValue0
  t3 := Tryz.underlying3
  a3 := Tryz.isAgg3
  z3 := Tryz.sizeOf3
  v3 := Tryz.zeroValue3
  t4 := Tryz.underlying4
  a4 := Tryz.isAgg4
  z4 := Tryz.sizeOf4
  v4 := Tryz.zeroValue4
  t5 := Tryz.underlying5
  a5 := Tryz.isAgg5
  z5 := Tryz.sizeOf5
  v5 := Tryz.zeroValue5
  t9 := Tryz.underlying9
  a9 := Tryz.isAgg9
  z9 := Tryz.sizeOf9
  v9 := Tryz.zeroValue9
  t31 := Tryz.underlying22
  a31 := Tryz.isAgg22
  z31 := Tryz.sizeOf22
  v31 := Tryz.zeroValue22
  t46 := Tryz.underlying95
  a46 := Tryz.isAgg95
  z46 := Tryz.sizeOf95
  v46 := Tryz.zeroValue95
  t51 := Tryz.underlying118
  a51 := Tryz.isAgg118
  z51 := Tryz.sizeOf118
  v51 := Tryz.zeroValue118
  t53 := Tryz.underlying97
  a53 := Tryz.isAgg97
  z53 := Tryz.sizeOf97
  v53 := Tryz.zeroValue97
  t131 := Tryz.underlying65
  a131 := Tryz.isAgg65
  z131 := Tryz.sizeOf65
  v131 := Tryz.zeroValue65
  t182 := Tryz.underlying110
  a182 := Tryz.isAgg110
  z182 := Tryz.sizeOf110
  v182 := Tryz.zeroValue110
  t183 := Tryz.underlying111
  a183 := Tryz.isAgg111
  z183 := Tryz.sizeOf111
  v183 := Tryz.zeroValue111
  t218 := Tryz.underlying130
  a218 := Tryz.isAgg130
  z218 := Tryz.sizeOf130
  v218 := Tryz.zeroValue130
  t222 := Tryz.underlying134
  a222 := Tryz.isAgg134
  z222 := Tryz.sizeOf134
  v222 := Tryz.zeroValue134
  t228 := Tryz.underlying142
  a228 := Tryz.isAgg142
  z228 := Tryz.sizeOf142
  v228 := Tryz.zeroValue142
  t229 := Tryz.underlying143
  a229 := Tryz.isAgg143
  z229 := Tryz.sizeOf143
  v229 := Tryz.zeroValue143 }

def Tryz.lays169_ren : Go.Shelf.Ren := ⟨fun | 169 => 21 | n => n, fun | 70 => 40 | 9 => 9 | 0 => 0 | 72 => 43 | 37 => 41 | 127 => 82 | 3 => 3 | 5 => 5 | n => n, fun | n => n⟩

theorem Tryz.lays169 : Go.Proofs.Lays.n169 Tryz.prog Tryz.lays169_ren := {
  mixed := by kernel_rfl
  f169 := Tryz.func21.trans (congrArg some (by kernel_rfl))
  t0 := Tryz.underlying0
  a0 := Tryz.isAgg0
  z0 := Tryz.sizeOf0
  v0 := Tryz.zeroValue0
  t3 := Tryz.underlying3
  a3 := Tryz.isAgg3
  z3 := Tryz.sizeOf3
  v3 := Tryz.zeroValue3
  t9 := Tryz.underlying9
  a9 := Tryz.isAgg9
  z9 := Tryz.sizeOf9
  v9 := Tryz.zeroValue9
  t37 := Tryz.underlying41
  a37 := Tryz.isAgg41
  z37 := Tryz.sizeOf41
  v37 := Tryz.zeroValue41
  t70 := Tryz.underlying40
  a70 := Tryz.isAgg40
  z70 := Tryz.sizeOf40
  v70 := Tryz.zeroValue40
  t72 := Tryz.underlying43
  a72 := Tryz.isAgg43
  z72 := Tryz.sizeOf43
  v72 := Tryz.zeroValue43
  t127 := Tryz.underlying82
  a127 := Tryz.isAgg82
  z127 := Tryz.sizeOf82
  v127 := Tryz.zeroValue82 }

def Tryz.lays171_ren : Go.Shelf.Ren := ⟨fun | 171 => 20 | 243 => 44 | 246 => 57 | 283 => 64 | 284 => 65 | 285 => 66 | 286 => 67 | 129 => 84 | 317 => 85 | 318 => 86 | 319 => 87 | 320 => 88 | 337 => 102 | 338 => 103 | n => n, fun | 3 => 3 | 9 => 9 | 2 => 2 | 4 => 4 | 171 => 96 | 0 => 0 | 53 => 97 | 37 => 41 | 5 => 5 | 173 => 100 | 212 => 120 | 51 => 118 | 20 => 20 | 213 => 121 | 46 => 95 | 232 => 145 | 233 => 146 | n => n, fun | 17 => 0 | 18 => 4 | 19 => 5 | n => n⟩

theorem Tryz.lays171 : Go.Proofs.Lays.n171 Tryz.prog Tryz.lays171_ren := {
  mixed := by kernel_rfl
  f129 := Tryz.func84.trans (congrArg some (by kernel_rfl))
  f171 := Tryz.func20.trans (congrArg some (by kernel_rfl))
  f243 := Tryz.func44.trans (congrArg some (by kernel_rfl))
  f246 := Tryz.func57.trans (congrArg some (by kernel_rfl))
  f283 := Tryz.func64.trans (congrArg some (by kernel_rfl))
  f284 := Tryz.func65.trans (congrArg some (by kernel_rfl))
  f285 := Tryz.func66.trans (congrArg some (by kernel_rfl))
  f286 := Tryz.func67.trans (congrArg some (by kernel_rfl))
  f317 := Tryz.func85.trans (congrArg some (by kernel_rfl))
  f318 := Tryz.func86.trans (congrArg some (by kernel_rfl))
  f319 := Tryz.func87.trans (congrArg some (by kernel_rfl))
  f320 := Tryz.func88.trans (congrArg some (by kernel_rfl))
  f337 := Tryz.func102.trans (congrArg some (by kernel_rfl))
  f338 := Tryz.func103.trans (congrArg some (by kernel_rfl))
  t0 := Tryz.underlying0
  a0 := Tryz.isAgg0
  z0 := Tryz.sizeOf0
  v0 := Tryz.zeroValue0
  t2 := Tryz.underlying2
  a2 := Tryz.isAgg2
  z2 := Tryz.sizeOf2
  v2 := Tryz.zeroValue2
  t3 := Tryz.underlying3
  a3 := Tryz.isAgg3
  z3 := Tryz.sizeOf3
  v3 := Tryz.zeroValue3
  t4 := Tryz.underlying4
  a4 := Tryz.isAgg4
  z4 := Tryz.sizeOf4
  v4 := Tryz.zeroValue4
  t5 := Tryz.underlying5
  a5 := Tryz.isAgg5
  z5 := Tryz.sizeOf5
  v5 := Tryz.zeroValue5
  t9 := Tryz.underlying9
  a9 := Tryz.isAgg9
  z9 := Tryz.sizeOf9
  v9 := Tryz.zeroValue9
  t20 := Tryz.underlying20
  a20 := Tryz.isAgg20
  z20 := Tryz.sizeOf20
  v20 := Tryz.zeroValue20
  t37 := Tryz.underlying41
  a37 := Tryz.isAgg41
  z37 := Tryz.sizeOf41
  v37 := Tryz.zeroValue41
  t46 := Tryz.underlying95
  a46 := Tryz.isAgg95
  z46 := Tryz.sizeOf95
  v46 := Tryz.zeroValue95
  t51 := Tryz.underlying118
  a51 := Tryz.isAgg118
  z51 := Tryz.sizeOf118
  v51 := Tryz.zeroValue118
  t53 := Tryz.underlying97
  a53 := Tryz.isAgg97
  z53 := Tryz.sizeOf97
  v53 := Tryz.zeroValue97
  t171 := Tryz.underlying96
  a171 := Tryz.isAgg96
  z171 := Tryz.sizeOf96
  v171 := Tryz.zeroValue96
  t173 := Tryz.underlying100
  a173 := Tryz.isAgg100
  z173 := Tryz.sizeOf100
  v173 := Tryz.zeroValue100
  t212 := Tryz.underlying120
  a212 := Tryz.isAgg120
  z212 := Tryz.sizeOf120
  v212 := Tryz.zeroValue120
  t213 := Tryz.underlying121
  a213 := Tryz.isAgg121
  z213 := Tryz.sizeOf121
  t232 := Tryz.underlying145
  a232 := Tryz.isAgg145
  z232 := Tryz.sizeOf145
  v232 := Tryz.zeroValue145
  t233 := Tryz.underlying146
  a233 := Tryz.isAgg146
  z233 := Tryz.sizeOf146
  v233 := Tryz.zeroValue146
  g17 := by kernel_rfl
  g18 := by kernel_rfl
  g19 := by kernel_rfl }

def Tryz.laysM171_ren : Go.Shelf.Ren := ⟨fun | 171 => 20 | 243 => 44 | 246 => 57 | 283 => 64 | 284 => 65 | 285 => 66 | 286 => 67 | 129 => 84 | 317 => 85 | 318 => 86 | 319 => 87 | 320 => 88 | 337 => 102 | 338 => 103 | n => n, fun | 3 => 3 | 9 => 9 | 2 => 2 | 4 => 4 | 171 => 96 | 0 => 0 | 53 => 97 | 37 => 41 | 5 => 5 | 173 => 100 | 212 => 120 | 51 => 118 | 20 => 20 | 213 => 121 | 46 => 95 | 232 => 145 | 233 => 146 | n => n, fun | 17 => 0 | 18 => 4 | 19 => 5 | n => n⟩

theorem Tryz.laysM171 : Go.Proofs.LaysM.n171 Tryz.prog Tryz.laysM171_ren := {
  mixed := by kernel_rfl
  f129 := Tryz.func84.trans (congrArg some (by kernel_rfl))
  f171 := Tryz.func20.trans (congrArg some (by kernel_rfl))
  f243 := Tryz.func44.trans (congrArg some (by kernel_rfl))
  f246 := Tryz.func57.trans (congrArg some (by kernel_rfl))
  f283 := Tryz.func64.trans (congrArg some (by kernel_rfl))
  f284 := Tryz.func65.trans (congrArg some (by kernel_rfl))
  f285 := Tryz.func66.trans (congrArg some (by kernel_rfl))
  f286 := Tryz.func67.trans (congrArg some (by kernel_rfl))
  f317 := Tryz.func85.trans (congrArg some (by kernel_rfl))
  f318 := Tryz.func86.trans (congrArg some (by kernel_rfl))
  f319 := Tryz.func87.trans (congrArg some (by kernel_rfl))
  f320 := Tryz.func88.trans (congrArg some (by kernel_rfl))
  f337 := Tryz.func102.trans (congrArg some (by kernel_rfl))
  f338 := Tryz.func103.trans (congrArg some (by kernel_rfl))
  t0 := Tryz.underlying0
  a0 := Tryz.isAgg0
  z0 := Tryz.sizeOf0
  v0 := Tryz.zeroValue0
  t2 := Tryz.underlying2
  a2 := Tryz.isAgg2
  z2 := Tryz.sizeOf2
  v2 := Tryz.zeroValue2
  t3 := Tryz.underlying3
  a3 := Tryz.isAgg3
  z3 := Tryz.sizeOf3
  v3 := Tryz.zeroValue3
  t4 := Tryz.underlying4
  a4 := Tryz.isAgg4
  z4 := Tryz.sizeOf4
  v4 := Tryz.zeroValue4
  t5 := Tryz.underlying5
  a5 := Tryz.isAgg5
  z5 := Tryz.sizeOf5
  v5 := Tryz.zeroValue5
  t9 := Tryz.underlying9
  a9 := Tryz.isAgg9
  z9 := Tryz.sizeOf9
  v9 := Tryz.zeroValue9
  t20 := Tryz.underlying20
  a20 := Tryz.isAgg20
  z20 := Tryz.sizeOf20
  v20 := Tryz.zeroValue20
  t37 := Tryz.underlying41
  a37 := Tryz.isAgg41
  z37 := Tryz.sizeOf41
  v37 := Tryz.zeroValue41
  t46 := Tryz.underlying95
  a46 := Tryz.isAgg95
  z46 := Tryz.sizeOf95
  v46 := Tryz.zeroValue95
  t51 := Tryz.underlying118
  a51 := Tryz.isAgg118
  z51 := Tryz.sizeOf118
  v51 := Tryz.zeroValue118
  t53 := Tryz.underlying97
  a53 := Tryz.isAgg97
  z53 := Tryz.sizeOf97
  v53 := Tryz.zeroValue97
  t171 := Tryz.underlying96
  a171 := Tryz.isAgg96
  z171 := Tryz.sizeOf96
  v171 := Tryz.zeroValue96
  t173 := Tryz.underlying100
  a173 := Tryz.isAgg100
  z173 := Tryz.sizeOf100
  v173 := Tryz.zeroValue100
  t212 := Tryz.underlying120
  a212 := Tryz.isAgg120
  z212 := Tryz.sizeOf120
  v212 := Tryz.zeroValue120
  t213 := Tryz.underlying121
  a213 := Tryz.isAgg121
  z213 := Tryz.sizeOf121
  t232 := Tryz.underlying145
  a232 := Tryz.isAgg145
  z232 := Tryz.sizeOf145
  v232 := Tryz.zeroValue145
  t233 := Tryz.underlying146
  a233 := Tryz.isAgg146
  z233 := Tryz.sizeOf146
  v233 := Tryz.zeroValue146
  g17 := by kernel_rfl
  g18 := by kernel_rfl
  g19 := by kernel_rfl
  i0 := by kernel_rfl
  i2 := by kernel_rfl
  i3 := by kernel_rfl
  i4 := by kernel_rfl
  i5 := by kernel_rfl
  i9 := by kernel_rfl
  i20 := by kernel_rfl
  i37 := by kernel_rfl
  i46 := by kernel_rfl
  i51 := by kernel_rfl
  i53 := by kernel_rfl
  i171 := by kernel_rfl
  i173 := by kernel_rfl
  i212 := by kernel_rfl
  i232 := by kernel_rfl
  i233 := by kernel_rfl
  m17 := by kernel_rfl
  m18 := by kernel_rfl
  m19 := by kernel_rfl }

def Tryz.laysC172_ren : Go.Shelf.Ren := ⟨fun | 172 => 50 | 244 => 59 | 245 => 60 | 247 => 69 | 279 => 70 | 280 => 71 | 281 => 72 | 282 => 73 | 287 => 93 | 316 => 94 | 171 => 20 | 205 => 95 | 321 => 106 | 322 => 107 | 243 => 44 | 246 => 57 | 283 => 64 | 284 => 65 | 285 => 66 | 286 => 67 | 129 => 84 | 317 => 85 | 318 => 86 | 319 => 87 | 320 => 88 | 337 => 102 | 338 => 103 | n => n, fun | 9 => 9 | 3 => 3 | 75 => 45 | 76 => 46 | 4 => 4 | 5 => 5 | 167 => 103 | 37 => 41 | 0 => 0 | 85 => 104 | 2 => 2 | 168 => 106 | 53 => 97 | 175 => 124 | 46 => 95 | 210 => 128 | 127 => 82 | 145 => 141 | 143 => 139 | 21 => 21 | 171 => 96 | 173 => 100 | 212 => 120 | 51 => 118 | 20 => 20 | 213 => 121 | 232 => 145 | 233 => 146 | 80 => 55 | n => n, fun | 15 => 2 | 16 => 3 | 17 => 0 | 18 => 4 | 19 => 5 | n => n⟩

theorem Tryz.laysC172 : Go.Proofs.LaysC.n172 Tryz.prog Tryz.laysC172_ren := {
  mixed := by kernel_rfl
  f129 := Tryz.func84.trans (congrArg some (by kernel_rfl))
  f171 := Tryz.func20.trans (congrArg some (by kernel_rfl))
  f172 := Tryz.func50.trans (congrArg some (by kernel_rfl))
  f205 := Tryz.func95.trans (congrArg some (by kernel_rfl))
  f243 := Tryz.func44.trans (congrArg some (by kernel_rfl))
  f244 := Tryz.func59.trans (congrArg some (by kernel_rfl))
  f245 := Tryz.func60.trans (congrArg some (by kernel_rfl))
  f246 := Tryz.func57.trans (congrArg some (by kernel_rfl))
  f247 := Tryz.func69.trans (congrArg some (by kernel_rfl))
  f279 := Tryz.func70.trans (congrArg some (by kernel_rfl))
  f280 := Tryz.func71.trans (congrArg some (by kernel_rfl))
  f281 := Tryz.func72.trans (congrArg some (by kernel_rfl))
  f282 := Tryz.func73.trans (congrArg some (by kernel_rfl))
  f283 := Tryz.func64.trans (congrArg some (by kernel_rfl))
  f284 := Tryz.func65.trans (congrArg some (by kernel_rfl))
  f285 := Tryz.func66.trans (congrArg some (by kernel_rfl))
  f286 := Tryz.func67.trans (congrArg some (by kernel_rfl))
  f287 := Tryz.func93.trans (congrArg some (by kernel_rfl))
  f316 := Tryz.func94.trans (congrArg some (by kernel_rfl))
  f317 := Tryz.func85.trans (congrArg some (by kernel_rfl))
  f318 := Tryz.func86.trans (congrArg some (by kernel_rfl))
  f319 := Tryz.func87.trans (congrArg some (by kernel_rfl))
  f320 := Tryz.func88.trans (congrArg some (by kernel_rfl))
  f321 := Tryz.func106.trans (congrArg some (by kernel_rfl))
  f322 := Tryz.func107.trans (congrArg some (by kernel_rfl))
  f337 := Tryz.func102.trans (congrArg some (by kernel_rfl))
  f338 := Tryz.func103.trans (congrArg some (by kernel_rfl))
  t0 := Tryz.underlying0
  a0 := Tryz.isAgg0
  z0 := Tryz.sizeOf0
  v0 := Tryz.zeroValue0
  t2 := Tryz.underlying2
  a2 := Tryz.isAgg2
  z2 := Tryz.sizeOf2
  v2 := Tryz.zeroValue2
  t3 := Tryz.underlying3
  a3 := Tryz.isAgg3
  z3 := Tryz.sizeOf3
  v3 := Tryz.zeroValue3
  t4 := Tryz.underlying4
  a4 := Tryz.isAgg4
  z4 := Tryz.sizeOf4
  v4 := Tryz.zeroValue4
  t5 := Tryz.underlying5
  a5 := Tryz.isAgg5
  z5 := Tryz.sizeOf5
  v5 := Tryz.zeroValue5
  t9 := Tryz.underlying9
  a9 := Tryz.isAgg9
  z9 := Tryz.sizeOf9
  v9 := Tryz.zeroValue9
  t20 := Tryz.underlying20
  a20 := Tryz.isAgg20
  z20 := Tryz.sizeOf20
  v20 := Tryz.zeroValue20
  t21 := Tryz.underlying21
  a21 := Tryz.isAgg21
  z21 := Tryz.sizeOf21
  v21 := Tryz.zeroValue21
  t37 := Tryz.underlying41
  a37 := Tryz.isAgg41
  z37 := Tryz.sizeOf41
  v37 := Tryz.zeroValue41
  t46 := Tryz.underlying95
  a46 := Tryz.isAgg95
  z46 := Tryz.sizeOf95
  v46 := Tryz.zeroValue95
  t51 := Tryz.underlying118
  a51 := Tryz.isAgg118
  z51 := Tryz.sizeOf118
  v51 := Tryz.zeroValue118
  t53 := Tryz.underlying97
  a53 := Tryz.isAgg97
  z53 := Tryz.sizeOf97
  v53 := Tryz.zeroValue97
  t75 := Tryz.underlying45
  a75 := Tryz.isAgg45
  z75 := Tryz.sizeOf45
  v75 := Tryz.zeroValue45
  t76 := Tryz.underlying46
  a76 := Tryz.isAgg46
  z76 := Tryz.sizeOf46
  v76 := Tryz.zeroValue46
  t85 := Tryz.underlying104
  a85 := Tryz.isAgg104
  z85 := Tryz.sizeOf104
  v85 := Tryz.zeroValue104
  t127 := Tryz.underlying82
  a127 := Tryz.isAgg82
  z127 := Tryz.sizeOf82
  v127 := Tryz.zeroValue82
  t143 := Tryz.underlying139
  a143 := Tryz.isAgg139
  z143 := Tryz.sizeOf139
  v143 := Tryz.zeroValue139
  t145 := Tryz.underlying141
  a145 := Tryz.isAgg141
  z145 := Tryz.sizeOf141
  v145 := Tryz.zeroValue141
  t167 := Tryz.underlying103
  a167 := Tryz.isAgg103
  z167 := Tryz.sizeOf103
  v167 := Tryz.zeroValue103
  t168 := Tryz.underlying106
  a168 := Tryz.isAgg106
  z168 := Tryz.sizeOf106
  v168 := Tryz.zeroValue106
  t171 := Tryz.underlying96
  a171 := Tryz.isAgg96
  z171 := Tryz.sizeOf96
  v171 := Tryz.zeroValue96
  t173 := Tryz.underlying100
  a173 := Tryz.isAgg100
  z173 := Tryz.sizeOf100
  v173 := Tryz.zeroValue100
  t175 := Tryz.underlying124
  a175 := Tryz.isAgg124
  z175 := Tryz.sizeOf124
  v175 := Tryz.zeroValue124
  t210 := Tryz.underlying128
  a210 := Tryz.isAgg128
  z210 := Tryz.sizeOf128
  v210 := Tryz.zeroValue128
  t212 := Tryz.underlying120
  a212 := Tryz.isAgg120
  z212 := Tryz.sizeOf120
  v212 := Tryz.zeroValue120
  t213 := Tryz.underlying121
  a213 := Tryz.isAgg121
  z213 := Tryz.sizeOf121
  t232 := Tryz.underlying145
  a232 := Tryz.isAgg145
  z232 := Tryz.sizeOf145
  v232 := Tryz.zeroValue145
  t233 := Tryz.underlying146
  a233 := Tryz.isAgg146
  z233 := Tryz.sizeOf146
  v233 := Tryz.zeroValue146
  g15 := by kernel_rfl
  g16 := by kernel_rfl
  g17 := by kernel_rfl
  g18 := by kernel_rfl
  g19 := by kernel_rfl
  t80 := Tryz.underlying55
  a80 := Tryz.isAgg55
  z80 := Tryz.sizeOf55
  v80 := Tryz.zeroValue55
  i0 := by kernel_rfl
  i2 := by kernel_rfl
  i3 := by kernel_rfl
  i4 := by kernel_rfl
  i5 := by kernel_rfl
  i9 := by kernel_rfl
  i20 := by kernel_rfl
  i21 := by kernel_rfl
  i37 := by kernel_rfl
  i46 := by kernel_rfl
  i51 := by kernel_rfl
  i53 := by kernel_rfl
  i75 := by kernel_rfl
  i76 := by kernel_rfl
  i80 := by kernel_rfl
  i85 := by kernel_rfl
  i127 := by kernel_rfl
  i143 := by kernel_rfl
  i145 := by kernel_rfl
  i167 := by kernel_rfl
  i168 := by kernel_rfl
  i171 := by kernel_rfl
  i173 := by kernel_rfl
  i175 := by kernel_rfl
  i210 := by kernel_rfl
  i212 := by kernel_rfl
  i232 := by kernel_rfl
  i233 := by kernel_rfl
  m15 := by kernel_rfl
  m16 := by kernel_rfl
  m17 := by kernel_rfl
  m18 := by kernel_rfl
  m19 := by kernel_rfl
  c0 := by kernel_rfl
  c2 := by kernel_rfl
  c3 := by kernel_rfl
  c4 := by kernel_rfl
  c5 := by kernel_rfl
  c9 := by kernel_rfl
  c20 := by kernel_rfl
  c21 := by kernel_rfl
  c37 := by kernel_rfl
  c46 := by kernel_rfl
  c51 := by kernel_rfl
  c53 := by kernel_rfl
  c75 := by kernel_rfl
  c76 := by kernel_rfl
  c80 := by kernel_rfl
  c85 := by kernel_rfl
  c127 := by kernel_rfl
  c143 := by kernel_rfl
  c145 := by kernel_rfl
  c167 := by kernel_rfl
  c168 := by kernel_rfl
  c171 := by kernel_rfl
  c173 := by kernel_rfl
  c175 := by kernel_rfl
  c210 := by kernel_rfl
  c212 := by kernel_rfl
  c213 := by kernel_rfl
  c232 := by kernel_rfl
  c233 := by kernel_rfl }

def Tryz.lays145_ren : Go.Shelf.Ren := ⟨fun | 145 => 49 | 220 => 58 | 219 => 68 | 217 => 89 | 225 => 90 | 224 => 91 | 267 => 92 | 266 => 104 | 314 => 105 | n => n, fun | 9 => 9 | 4 => 4 | 59 => 72 | 3 => 3 | 5 => 5 | 46 => 95 | 146 => 136 | 51 => 118 | n => n, fun | 1 => 1 | n => n⟩

theorem Tryz.lays145 : Go.Proofs.Lays.n145 Tryz.prog Tryz.lays145_ren := {
  mixed := by kernel_rfl
  f145 := Tryz.func49.trans (congrArg some (by kernel_rfl))
  f217 := Tryz.func89.trans (congrArg some (by kernel_rfl))
  f219 := Tryz.func68.trans (congrArg some (by kernel_rfl))
  f220 := Tryz.func58.trans (congrArg some (by kernel_rfl))
  f224 := Tryz.func91.trans (congrArg some (by kernel_rfl))
  f225 := Tryz.func90.trans (congrArg some (by kernel_rfl))
  f266 := Tryz.func104.trans (congrArg some (by kernel_rfl))
  f267 := Tryz.func92.trans (congrArg some (by kernel_rfl))
  f314 := Tryz.func105.trans (congrArg some (by kernel_rfl))
  t3 := Tryz.underlying3
  a3 := Tryz.isAgg3
  z3 := Tryz.sizeOf3
  v3 := Tryz.zeroValue3
  t4 := Tryz.underlying4
  a4 := Tryz.isAgg4
  z4 := Tryz.sizeOf4
  v4 := Tryz.zeroValue4
  t5 := Tryz.underlying5
  a5 := Tryz.isAgg5
  z5 := Tryz.sizeOf5
  v5 := Tryz.zeroValue5
  t9 := Tryz.underlying9
  a9 := Tryz.isAgg9
  z9 := Tryz.sizeOf9
  v9 := Tryz.zeroValue9
  t46 := Tryz.underlying95
  a46 := Tryz.isAgg95
  z46 := Tryz.sizeOf95
  v46 := Tryz.zeroValue95
  t51 := Tryz.underlying118
  a51 := Tryz.isAgg118
  z51 := Tryz.sizeOf118
  v51 := Tryz.zeroValue118
  t59 := Tryz.underlying72
  a59 := Tryz.isAgg72
  z59 := Tryz.sizeOf72
  v59 := Tryz.zeroValue72
  t146 := Tryz.underlying136
  a146 := Tryz.isAgg136
  z146 := Tryz.sizeOf136
  v146 := Tryz.zeroValue136
  g1 := by kernel_rfl }

def Tryz.laysM145_ren : Go.Shelf.Ren := ⟨fun | 145 => 49 | 220 => 58 | 219 => 68 | 217 => 89 | 225 => 90 | 224 => 91 | 267 => 92 | 266 => 104 | 314 => 105 | n => n, fun | 9 => 9 | 4 => 4 | 59 => 72 | 3 => 3 | 5 => 5 | 46 => 95 | 146 => 136 | 51 => 118 | n => n, fun | 1 => 1 | n => n⟩

theorem Tryz.laysM145 : Go.Proofs.LaysM.n145 Tryz.prog Tryz.laysM145_ren := {
  mixed := by kernel_rfl
  f145 := Tryz.func49.trans (congrArg some (by kernel_rfl))
  f217 := Tryz.func89.trans (congrArg some (by kernel_rfl))
  f219 := Tryz.func68.trans (congrArg some (by kernel_rfl))
  f220 := Tryz.func58.trans (congrArg some (by kernel_rfl))
  f224 := Tryz.func91.trans (congrArg some (by kernel_rfl))
  f225 := Tryz.func90.trans (congrArg some (by kernel_rfl))
  f266 := Tryz.func104.trans (congrArg some (by kernel_rfl))
  f267 := Tryz.func92.trans (congrArg some (by kernel_rfl))
  f314 := Tryz.func105.trans (congrArg some (by kernel_rfl))
  t3 := Tryz.underlying3
  a3 := Tryz.isAgg3
  z3 := Tryz.sizeOf3
  v3 := Tryz.zeroValue3
  t4 := Tryz.underlying4
  a4 := Tryz.isAgg4
  z4 := Tryz.sizeOf4
  v4 := Tryz.zeroValue4
  t5 := Tryz.underlying5
  a5 := Tryz.isAgg5
  z5 := Tryz.sizeOf5
  v5 := Tryz.zeroValue5
  t9 := Tryz.underlying9
  a9 := Tryz.isAgg9
  z9 := Tryz.sizeOf9
  v9 := Tryz.zeroValue9
  t46 := Tryz.underlying95
  a46 := Tryz.isAgg95
  z46 := Tryz.sizeOf95
  v46 := Tryz.zeroValue95
  t51 := Tryz.underlying118
  a51 := Tryz.isAgg118
  z51 := Tryz.sizeOf118
  v51 := Tryz.zeroValue118
  t59 := Tryz.underlying72
  a59 := Tryz.isAgg72
  z59 := Tryz.sizeOf72
  v59 := Tryz.zeroValue72
  t146 := Tryz.underlying136
  a146 := Tryz.isAgg136
  z146 := Tryz.sizeOf136
  v146 := Tryz.zeroValue136
  g1 := by kernel_rfl
  i3 := by kernel_rfl
  i4 := by kernel_rfl
  i5 := by kernel_rfl
  i9 := by kernel_rfl
  i46 := by kernel_rfl
  i51 := by kernel_rfl
  i59 := by kernel_rfl
  i146 := by kernel_rfl
  m1 := by kernel_rfl
  s1_3 := fun w h => Go.Proofs.cell_of_shapedOpen_int (zero := #[.int .i64 0]) (t := 3) h (of_decide_eq_true (by kernel_rfl)) (by kernel_rfl) rfl (by kernel_rfl) (by kernel_rfl) Tryz.underlying3 }

end Go.Proofs

namespace Go.Idl

open Go Go.Proofs.Tryz

theorem collect37 {H : IHeap} {K : IEnd → IHeap → Prop} (l : List (List UInt8)) (hl : l.length ≤ 1000000) (gf : FuncId) (cap : List IV) (C : List (Nat × HO)) (hit : Iter prog gf cap (l.map fun s => [.v (str s)]) C) (hC : ∀ p, p ∈ C → H.obj p.1 = some p.2)
    (hK : ∀ r J, Ext H J → Own J H.next r l → K (.ret r) J) : ICalls prog 52 [.fn (.func gf) [] cap] H K := by
  refine ICalls_vc (N := 5) func52 (by kernel_rfl) rfl (by kernel_rfl) (by kernel_rfl) fun hw hbd hnb => ?_
  simp (maxSteps := 1000000) (disch := omega) [go_sem]
  refine appendSeq46 l hl gf cap C hit hC fun r J he ho => ?_
  simp (maxSteps := 1000000) (disch := omega) [go_sem]
  exact retG_all (hK r J he ho)

set_option maxRecDepth 4000 in
theorem len62 {H : IHeap} {K : IEnd → IHeap → Prop} (hK : K (.ret (.v (.int .i64 0))) H) : ICalls prog 84 [.v (.int .u64 0)] H K := by
  refine ICalls_vc (N := 25) func84 (by kernel_rfl) rfl (by kernel_rfl) (by kernel_rfl) fun hw hbd hnb => ?_
  simp (maxSteps := 1000000) (disch := omega) [go_sem]
  have e1 : (bytes Lib.len8tab).length = 256 := by kernel_rfl
  have e2 : (bytes Lib.len8tab)[0]? = some 0 := by kernel_rfl
  rw [e1, e2]
  exact ⟨by simp [Side], retG_pure (.refl hw) (.v _) hK⟩

set_option maxRecDepth 4000 in
theorem len48 {H : IHeap} {K : IEnd → IHeap → Prop} (hK : K (.ret (.v (.int .i64 0))) H) : ICalls prog 63 [.v (.int .u64 0)] H K := by
  refine ICalls_vc (N := 8) func63 (by kernel_rfl) rfl (by kernel_rfl) (by kernel_rfl) fun hw hbd hnb => ?_
  simp (maxSteps := 1000000) (disch := omega) [go_sem]
  refine len62 ?_
  simp (maxSteps := 1000000) (disch := omega) [go_sem]
  exact retG_pure (.refl hw) (.v _) hK

set_option maxRecDepth 4000 in
theorem ins52 {H : IHeap} {K : IEnd → IHeap → Prop} (hK : K (.ret (.tu [])) H) : ICalls prog 74 [.v (.slice none 0 0), .v (.int .i64 0), .v (.int .i64 0)] H K := by
  refine ICalls_vc (N := 49) func74 (by kernel_rfl) rfl (by kernel_rfl) (by kernel_rfl) fun hw hbd hnb => ?_
  simp (maxSteps := 1000000) (disch := omega) [go_sem]
  refine vcLoop_mk (fun tm' H' => H' = H ∧ tm' 6 = .v (.int .i64 1) ∧ tm' 2 = .v (.int .i64 0)) (fun _ _ => 0) (.same ?_) ?_
  · simp [go_sem]
  · rintro I' μ' hI hμ tm' H' ⟨rfl, h6, h2⟩
    refine vc_sound _ (by kernel_rfl) _ _ _ ?_
    simp (maxSteps := 1000000) (disch := omega) [go_sem, h6, h2]
    exact retG_pure (.refl hw) (by simp [NB_tu]) hK

set_option maxRecDepth 4000 in
theorem pdq47 {H : IHeap} {K : IEnd → IHeap → Prop} (hK : K (.ret (.tu [])) H) : ICalls prog 62 [.v (.slice none 0 0), .v (.int .i64 0), .v (.int .i64 0), .v (.int .i64 0)] H K := by
  refine ICalls_vc (N := 134) func62 (by kernel_rfl) rfl (by kernel_rfl) (by kernel_rfl) fun hw hbd hnb => ?_
  simp (maxSteps := 1000000) (disch := omega) [go_sem]
  refine vcLoop_mk (fun tm' H' => H' = H ∧ tm' 0 = .v (.slice none 0 0) ∧ tm' 1 = .v (.int .i64 0) ∧ tm' 2 = .v (.int .i64 0)) (fun _ _ => 0) (.same ?_) ?_
  · simp [go_sem]
  · rintro I' μ' hI hμ tm' H' ⟨rfl, h0, h1, h2⟩
    refine vc_sound _ (by kernel_rfl) _ _ _ ?_
    simp (maxSteps := 1000000) (disch := omega) [go_sem, h0, h1, h2]
    refine ins52 ?_
    simp (maxSteps := 1000000) (disch := omega) [go_sem]
    exact retG_pure (.refl hw) (by simp [NB_tu]) hK

theorem sort38 {H : IHeap} {K : IEnd → IHeap → Prop} (hK : K (.ret (.tu [])) H) : ICalls prog 53 [.v (.slice none 0 0)] H K := by
  refine ICalls_vc (N := 11) func53 (by kernel_rfl) rfl (by kernel_rfl) (by kernel_rfl) fun hw hbd hnb => ?_
  simp (maxSteps := 1000000) (disch := omega) [go_sem]
  refine len48 ?_
  simp (maxSteps := 1000000) (disch := omega) [go_sem]
  refine pdq47 ?_
  simp (maxSteps := 1000000) (disch := omega) [go_sem]
  exact retG_pure (.refl hw) (by simp [NB_tu]) hK

def sortS (l : List (List UInt8)) : List (List UInt8) := l.mergeSort fun x y => decide (x ≤ y)

theorem sortS_length (l : List (List UInt8)) : (sortS l).length = l.length := by simp [sortS]

theorem sorted22 {H : IHeap} {K : IEnd → IHeap → Prop} (l : List (List UInt8)) (hl : l.length ≤ 1000000) (gf : FuncId) (cap : List IV) (C : List (Nat × HO)) (hit : Iter prog gf cap (l.map fun s => [.v (str s)]) C) (hC : ∀ p, p ∈ C → H.obj p.1 = some p.2)
    (hK : ∀ r J, Ext H J → Own J H.next r (sortS l) → K (.ret r) J) : ICalls prog 40 [.fn (.func gf) [] cap] H K := by
  refine ICalls_vc (N := 9) func40 (by kernel_rfl) rfl (by kernel_rfl) (by kernel_rfl) fun hw hbd hnb => ?_
  simp (maxSteps := 1000000) (disch := omega) [go_sem]
  refine collect37 l hl gf cap C hit hC fun r J he ho => ?_
  simp (maxSteps := 1000000) (disch := omega) [go_sem]
  rcases ho with ⟨rfl, rfl⟩ | ⟨hne, k, hk, rfl, ho⟩
  · refine sort38 ?_
    simp (maxSteps := 1000000) (disch := omega) [go_sem]
    exact retG_all (hK _ J he (.inl ⟨by simp [sortS], rfl⟩))
  · refine ICalls_sortStr Go.Proofs.Tryz.lays190 rfl (by kernel_rfl) l k ho (by omega) ?_
    simp (maxSteps := 1000000) (disch := omega) [go_sem]
    refine retG_all (hK _ _ (he.set hk _) (.inr ⟨?_, k, hk, by rw [sortS_length], by simp [go_sem, sortS]⟩))
    intro e
    have := sortS_length l
    rw [e] at this
    exact hne (List.eq_nil_of_length_eq_zero this.symm)

end Go.Idl

namespace Go.Idl

open Go Go.RowKit

variable {P : Program} {N : Nat} {tm : Tm} {H : IHeap}

theorem IOper_clear {o : Oper} {K : IV → IHeap → Prop} {Qp : List PanicEntry → IHeap → Prop} {t e : TypeId} {x : Operand} {k off n : Nat} {z z0 : Value} {cs : List IV} (ho : o.op = .call { callee := .builtin .clear, args := #[x], argTypes := #[t] }) (hok : okO N o = true)
    (hu : P.underlying t = some (.slice e)) (hz : zeroOf P e = some z) (hz0 : z.cells = #[z0]) (hone : z0.oneCell' = true) (hx : ev tm x = .bs k off n) (hk : H.obj k = some (.cells cs)) (hn : 0 < n) (hl : off + n ≤ cs.length)
    (hK : K (.tu []) (H.set k (.cells (putL cs (List.replicate n (.v z0)) off)))) : IOper P N o tm H K Qp := by
  obtain ⟨dst, op, type, pos, after, guard⟩ := o
  simp only at ho
  subst ho
  refine IOper_of (by simp) fun w g a s r hN => ?_
  subst hN
  have rx := r.ev (x := x) (by simp [okO, Op.operands, Call.operands] at hok; exact hok.1)
  rw [hx] at rx
  obtain ⟨b, xs, el, f, hmu, hb, hf, hc⟩ := s.obj k _ hk
  have hsh : g.sh k = some .fx := by rw [s.sh, IHeap.sh, hk]; rfl
  have ⟨cap, hxe⟩ : ∃ cap, a.eval x = .slice (some ⟨b, off, none⟩) n cap := by
    generalize a.eval x = y at rx
    cases rx with
    | bs _ _ _ _ _ _ h =>
      obtain ⟨b', cap, q1, q2⟩ := h .fx hsh rfl
      rw [hmu] at q1
      cases q1
      exact ⟨cap, q2⟩
  have hlt := heap_lt hb
  have hzc : (Builtin.zeroCells z.cells n).toList = List.replicate n z0 := by
    unfold Builtin.zeroCells
    rw [hz0]
    apply List.ext_getElem
    · simp
    · intro i h1 h2
      simp [Nat.mod_one]
  have hcl := hc.1
  have hrun := run_storeCells_free (P := P) (b := b) (off := off) (el := el) (f := f) (List.replicate n z0) 0 xs w hb hf (by simp; omega) (fun v hv => by rw [List.eq_of_mem_replicate hv]; exact hone)
  have hp := s.put (w' := w.putObj b (.cells (putA xs (List.replicate n z0) off) el f)) k b (.cells cs) (.cells (putL cs (List.replicate n (.v z0)) off)) hk rfl (by rw [hmu]; rfl) (by simp) rfl rfl rfl
    (fun i hi => World.putObj_heap_other hi)
    (fun m => ⟨b, _, el, f, hmu, by rw [putObj_get _ _ _ hlt, if_pos rfl], by rw [putA_size]; exact hf, hc.put m (by simpa using hl) (by simp) (fun v hv => by rw [List.eq_of_mem_replicate hv]; exact hone) (fun j y c q1 q2 => by
      have e1 := List.eq_of_mem_replicate (List.mem_of_getElem? q1)
      have e2 := List.eq_of_mem_replicate (List.mem_of_getElem? q2)
      subst e1
      subst e2
      exact .v _)⟩)
  refine ⟨.tuple #[], _, g, _, .tu [], .inl ?_, hp.2, hp.1, .tu #[] [] rfl (by simp), hK⟩
  have hn' : n ≠ 0 := by omega
  obtain ⟨n, rfl⟩ : ∃ m, n = m + 1 := ⟨n - 1, by omega⟩
  rw [Nat.add_zero] at hrun
  have hcr : (Builtin.clear_ #[t] type #[.slice (some ⟨b, off, none⟩) (n + 1) cap]).run P w = .ok (.tuple #[]) (w.putObj b (.cells (putA xs (List.replicate (n + 1) z0) off) el f)) := by
    simp [Builtin.clear_, run_underlying hu, run_zeroValue hz, hzc, hrun]
  simp [execOp, resolve, invoke, builtin, hxe, hcr]

@[go_sem] theorem vcOp_clear {d : Option Tmp} {t : TypeId} {p : String} {af : Array Edge} {gd : Option (Nat × Bool)} {K : IV → IHeap → Prop} {Qp : List PanicEntry → IHeap → Prop} {x : Operand} {a : TypeId} :
    vcOp P N ⟨d, .call ⟨.builtin .clear, #[x], #[a]⟩, t, p, af, gd⟩ tm H K Qp = IOper P N ⟨d, .call ⟨.builtin .clear, #[x], #[a]⟩, t, p, af, gd⟩ tm H K Qp := rfl

end Go.Idl

namespace Go.Idl

open Go Go.Proofs.Tryz

def compT (p : List UInt8) : List (List UInt8) → List (List UInt8)
  | [] => []
  | x :: t => if x = p then compT x t else x :: compT x t

def compactS : List (List UInt8) → List (List UInt8)
  | [] => []
  | x :: t => x :: compT x t

theorem compT_snoc (x : List UInt8) : ∀ (t : List (List UInt8)) (p : List UInt8), compT p (t ++ [x]) = compT p t ++ (if x = (p :: t).getLast (by simp) then [] else [x])
  | [], p => by
    simp only [List.nil_append, compT, List.getLast_singleton]
    first | rfl | (split <;> rfl)
  | y :: t, p => by
    simp only [List.cons_append, compT]
    rw [compT_snoc x t y]
    have e : (p :: y :: t).getLast (by simp) = (y :: t).getLast (by simp) := by simp
    rw [e]
    split <;> simp

theorem compact_take (l : List (List UInt8)) (i : Nat) (h1 : 1 ≤ i) (h : i < l.length) : compactS (l.take (i + 1)) = compactS (l.take i) ++ (if l[i] = l[i - 1] then [] else [l[i]]) := by
  rw [List.take_succ_eq_append_getElem h]
  cases l with
  | nil => simp at h
  | cons x t =>
    obtain ⟨j, rfl⟩ : ∃ j, i = j + 1 := ⟨i - 1, by omega⟩
    simp only [List.take_succ_cons, List.cons_append, compactS, List.getElem_cons_succ]
    rw [compT_snoc]
    have hj : j < t.length := by simpa using h
    have e : (x :: t.take j).getLast (by simp) = (x :: t)[j + 1 - 1] := by
      rw [List.getLast_eq_getElem]
      simp only [List.length_cons, List.length_take]
      have : min j t.length = j := by omega
      simp only [this, Nat.add_sub_cancel]
      cases j with
      | zero => rfl
      | succ j => simp
    rw [e]

theorem chunks_take : ∀ (m : Nat) (l : List IV), m ≤ l.length → chunks 1 m l = (l.take m).map fun x => [x]
  | 0, l, _ => by simp [chunks]
  | m + 1, [], h => by simp at h
  | m + 1, x :: l, h => by
    simp [chunks, chunks_take m l (by simpa using h)]

theorem fz_bs {H J : IHeap} {k m : Nat} {cs : List (List UInt8)} {r : List (List UInt8)} (hk : J.obj k = none) (ho : H.obj k = some (.cells (cs.map fun s => .v (str s)))) (hr : cs.take m = r) (hm : m ≤ cs.length) (hl : cs.length ≤ 1000000) : Fz H J (.bs k 0 m) (sS r) := by
  have := Fz.bs (J := J) k 0 m 1 _ _ hk ho rfl (by simp; omega) (by simp only [maxN]; omega) (fzs (by simp [NB_v]))
  rw [List.drop_zero, chunks_take _ _ (by simpa using hm), ← List.map_take, hr] at this
  rw [List.map_map] at this
  exact this

theorem fz_bs' {H J : IHeap} {k m : Nat} {A : List IV} {r : List (List UInt8)} (hk : J.obj k = none) (ho : H.obj k = some (.cells A)) (hr : A.take m = r.map fun s => .v (str s)) (hm : m ≤ A.length) (hl : m ≤ 1000000) (hnb : ∀ c, c ∈ A → NB J.next c) : Fz H J (.bs k 0 m) (sS r) := by
  have := Fz.bs (J := J) k 0 m 1 _ _ hk ho rfl (by omega) (by simp only [maxN]; omega) (fzs hnb)
  rw [List.drop_zero, chunks_take _ _ hm, hr, List.map_map] at this
  exact this

theorem set_self {H : IHeap} {k : Nat} {o : HO} (h : H.obj k = some o) : H = H.set k o := by
  unfold IHeap.set
  have e : (fun i => if i = k then some o else H.obj i) = H.obj := by
    funext i
    by_cases e : i = k
    · rw [if_pos e, e, h]
    · rw [if_neg e]
  rw [e]

@[go_sem] theorem set_set {H : IHeap} {k : Nat} {a b : HO} : (H.set k a).set k b = H.set k b := by
  unfold IHeap.set
  simp only
  congr 1
  funext i
  split <;> rfl

theorem put_form {f : List UInt8 → IV} (cs : List (List UInt8)) (i : Nat) (x : List UInt8) (h : i < cs.length) : List.take i (cs.map f) ++ f x :: List.drop (i + 1) (cs.map f) = (cs.set i x).map f := by
  rw [List.set_eq_take_append_cons_drop, if_pos h]
  simp

set_option pp.deepTerms false in
set_option maxRecDepth 4000 in
theorem compact21 {H0 H : IHeap} {K : IEnd → IHeap → Prop} (l : List (List UInt8)) (hl : l.length ≤ 1000000) (r : IV) (h0 : Ext H0 H) (hr : Own H H0.next r l) (hK : ∀ J, Ext H0 J → K (.ret (sS (compactS l))) J) : ICalls prog 39 [r] H K := by
  refine ICalls_vc (N := 61) func39 (by kernel_rfl) rfl (by kernel_rfl) (by kernel_rfl) fun hw hbd hnb => ?_
  rcases hr with ⟨rfl, rfl⟩ | ⟨hne, kk, hkk, rfl, hob⟩
  · simp (maxSteps := 1000000) (disch := omega) [go_sem]
    exact retG_gh (GhR.wk (.nil 1)) (hK H h0)
  have hdel : Ext H0 (H.del kk) := h0.del hkk
  simp (maxSteps := 1000000) (disch := omega) [go_sem]
  refine condB ?_ ?_ <;> intro hc <;> (try simp at hc)
  · simp (maxSteps := 1000000) (disch := omega) [go_sem]
    refine retG_gh (GhR.drop (J := H.del kk) (fun i o h => ?_) rfl rfl (fz_bs (r := compactS l) (by simp [go_sem]) hob ?_ (Nat.le_refl _) hl)) (hK _ hdel)
    · simp only [IHeap.del] at h; split at h <;> simp_all
    · match l, hne, hc with
      | [x], _, _ => rfl
      | x :: y :: t, _, hc => simp at hc; omega
  · simp (maxSteps := 1000000) (disch := omega) [go_sem]
    refine vcLoop_mk (fun tm' H' => H' = H ∧ ∃ k : Nat, tm' 0 = .bs kk 0 l.length ∧ tm' 3 = .v (.int .i64 k) ∧ 1 ≤ k ∧ k ≤ l.length ∧ compactS (l.take k) = l.take k) (fun tm' _ => l.length - (intOf (tm' 3)).toNat) (.same ?_) ?_
    · refine ⟨rfl, 1, by simp [go_sem], by simp [go_sem], by omega, by omega, ?_⟩
      cases l with
      | nil => rfl
      | cons x t => simp [compactS, compT]
    rintro I' μ' hI hμ tm' H' ⟨rfl, k, h0', h3, hk1, hk2, hcomp⟩
    refine vc_sound _ (by kernel_rfl) _ _ _ ?_
    simp (maxSteps := 1000000) (disch := omega) [go_sem, h0', h3]
    refine condB ?_ ?_ <;> intro hc1 <;> (try simp at hc1)
    · simp (maxSteps := 1000000) (disch := omega) [go_sem, h0', h3]
      refine IWp_draw [0, 1, 2, 3, 4, 5, 6, 7, 8, 9] (by kernel_rfl) (by kernel_rfl) (fun _ _ _ _ h => h) ?_
      simp (maxSteps := 1000000) (disch := omega) [go_sem, h0', h3, hob]
      refine condB ?_ ?_ <;> intro he <;> (try simp at he)
      · simp (maxSteps := 1000000) (disch := omega) [go_sem, h0', h3]
        refine vcLoop_mk (fun tm' H2 => ∃ (cs : List (List UInt8)) (k2 kc : Nat), H2 = H'.set kk (.cells (cs.map fun s => .v (str s))) ∧ tm' 0 = .bs kk 0 l.length ∧ tm' 3 = .v (.int .i64 kc) ∧ tm' 4 = .bs kk k (l.length - k) ∧ tm' 5 = .v (.int .i64 k2) ∧
          1 ≤ k2 ∧ k + k2 ≤ l.length ∧ cs.length = l.length ∧ 1 ≤ kc ∧ kc + 1 ≤ k + k2 ∧ cs.take kc = compactS (l.take (k + k2)) ∧ cs.drop (k + k2 - 1) = l.drop (k + k2 - 1)) (fun tm' _ => l.length - (intOf (tm' 5)).toNat) (.same ?_) ?_
        · refine ⟨l, 1, k, set_self hob, by simp [go_sem, h0'], by simp [go_sem, h3], by simp [go_sem], by simp [go_sem], by omega, by omega, rfl, hk1, by omega, ?_, rfl⟩
          rw [compact_take l k hk1 hc1, if_pos he, List.append_nil, hcomp]
        rintro I2 μ2 hI2 hμ2 tm2 H2 ⟨cs, k2, kc, rfl, g0, g3, g4, g5, q1, q2, q3, q4, q5, q6, q7⟩
        refine vc_sound _ (by kernel_rfl) _ _ _ ?_
        simp (maxSteps := 1000000) (disch := omega) [go_sem, g0, g3, g4, g5]
        refine condB ?_ ?_ <;> intro hc2 <;> (try simp at hc2)
        · have hlt : k + k2 < cs.length := by omega
          simp (maxSteps := 1000000) (disch := omega) [go_sem, g0, g3, g4, g5]
          refine IWp_draw [0, 1, 2, 3, 4, 5, 6, 7, 8, 9] (by kernel_rfl) (by kernel_rfl) (fun _ _ _ _ h => h) ?_
          simp (maxSteps := 1000000) (disch := omega) [go_sem, g0, g3, g4, g5]
          have hge : ∀ j (h : j < cs.length) (h' : j < l.length), k + k2 - 1 ≤ j → cs[j] = l[j] := by
            intro j h h' hj
            have e := congrArg (fun x => x[j - (k + k2 - 1)]?) q7
            simp only [List.getElem?_drop] at e
            rw [show k + k2 - 1 + (j - (k + k2 - 1)) = j by omega, List.getElem?_eq_getElem h, List.getElem?_eq_getElem h'] at e
            exact Option.some.inj e
          have e1 := hge (k + k2) hlt (by omega) (by omega)
          have e2 : cs[k + (k2 - 1)] = l[k + k2 - 1] := by
            rw [hge _ _ (by omega) (by omega)]
            congr 1
            omega
          have hdrop : List.drop (k + (k2 + 1) - 1) cs = List.drop (k + (k2 + 1) - 1) l := by
            have e := congrArg (List.drop 1) q7
            simp only [List.drop_drop] at e
            rw [show k + (k2 + 1) - 1 = k + k2 - 1 + 1 by omega]
            exact e
          have hct := compact_take l (k + k2) (by omega) (by omega)
          refine condB ?_ ?_ <;> intro hd <;> (try simp at hd)
          · simp (maxSteps := 1000000) (disch := omega) [go_sem, g0, g3, g4, g5]
            refine .of hI2 hμ2 ⟨cs.set kc cs[k + k2], k2 + 1, kc + 1, ?_, by simp [go_sem, g0], by simp [go_sem], by simp [go_sem, g4], by simp [go_sem], by omega, by omega, by simpa using q3, by omega, by omega, ?_, ?_⟩ (by simp [go_sem, g5]; omega)
            · rw [← put_form cs kc _ (by omega)]
            · rw [show k + (k2 + 1) = k + k2 + 1 by omega, hct, if_neg (by rw [← e1, ← e2]; exact hd), ← q6, List.take_succ_eq_append_getElem (by simpa using (by omega : kc < cs.length)), List.take_set_of_le (Nat.le_refl _)]
              simp [e1]
            · rw [List.drop_set_of_lt (by omega)]
              exact hdrop
          · simp (maxSteps := 1000000) (disch := omega) [go_sem, g0, g3, g4, g5]
            refine .of hI2 hμ2 ⟨cs, k2 + 1, kc, rfl, by simp [go_sem, g0], by simp [go_sem, g3], by simp [go_sem, g4], by simp [go_sem], by omega, by omega, q3, q4, by omega, ?_, hdrop⟩ (by simp [go_sem, g5]; omega)
            rw [show k + (k2 + 1) = k + k2 + 1 by omega, hct, if_pos (by rw [← e1, ← e2]; exact hd), List.append_nil, q6]
        · simp (maxSteps := 1000000) (disch := omega) [go_sem, g0, g3, g4, g5]
          have e : k + k2 = l.length := by omega
          have hkc : kc < l.length := by omega
          refine IOper_clear (k := kk) (off := kc) (n := l.length - kc) rfl (by kernel_rfl) underlying22 zero9 rfl rfl (by simp [go_sem]) (by simp [go_sem]; rfl) (by omega) (by simp; omega) ?_
          simp (maxSteps := 1000000) (disch := omega) [go_sem, g0, g3, g4, g5]
          refine retG_gh (GhR.drop (J := H'.del kk) (fun i o h => ?_) rfl rfl (fz_bs' (r := compactS l) (by simp [go_sem]) (by simp [go_sem]; rfl) ?_ ?_ (by omega) ?_)) (hK _ hdel)
          · simp only [IHeap.del] at h
            split at h
            · cases h
            · rename_i hi
              simp [go_sem, hi]
              exact h
          · rw [List.take_append_of_le_length (by simp; omega), List.take_take, Nat.min_self, ← List.map_take, q6, e, List.take_length]
          · simp; omega
          · intro c hc
            simp only [List.mem_append] at hc
            rcases hc with hc | hc | hc
            · obtain ⟨s, _, rfl⟩ := List.mem_map.1 (List.mem_of_mem_take hc)
              exact .v _
            · rw [List.eq_of_mem_replicate hc]
              exact .v _
            · obtain ⟨s, _, rfl⟩ := List.mem_map.1 (List.mem_of_mem_drop hc)
              exact .v _
      · simp (maxSteps := 1000000) (disch := omega) [go_sem, h0', h3]
        refine .of hI hμ ⟨rfl, k + 1, by simp [go_sem, h0'], by simp [go_sem], by omega, by omega, ?_⟩ (by simp [go_sem, h3]; omega)
        rw [compact_take l k hk1 hc1, if_neg he, hcomp, List.take_succ_eq_append_getElem hc1]
    · simp (maxSteps := 1000000) (disch := omega) [go_sem, h0', h3]
      refine retG_gh (GhR.drop (J := H'.del kk) (fun i o h => ?_) rfl rfl (fz_bs (r := compactS l) (by simp [go_sem]) hob ?_ (Nat.le_refl _) hl)) (hK _ hdel)
      · simp only [IHeap.del] at h; split at h <;> simp_all
      · have e : k = l.length := by omega
        subst e
        simpa using hcomp.symm

end Go.Idl

namespace Go.Idl

open Go Go.Proofs.Tryz

theorem most33 {H : IHeap} {K : IEnd → IHeap → Prop} (f : Int) (hK : K (.ret (.v (.int .i64 (if 6 ≤ f then 8 else 1)))) H) : ICalls prog 24 [.v (.int .i64 f)] H K := by
  refine ICalls_vc (N := 5) func24 (by kernel_rfl) rfl (by kernel_rfl) (by kernel_rfl) fun hw hbd hnb => ?_
  simp (maxSteps := 1000000) (disch := omega) [go_sem]
  refine condB ?_ ?_ <;> intro hc <;> (try simp at hc)
  · simp (maxSteps := 1000000) (disch := omega) [go_sem]
    rw [if_pos hc] at hK
    exact retG_pure (.refl hw) (.v _) hK
  · simp (maxSteps := 1000000) (disch := omega) [go_sem]
    rw [if_neg (by omega)] at hK
    exact retG_pure (.refl hw) (.v _) hK

theorem value32 {H : IHeap} {K : IEnd → IHeap → Prop} (f : Int) (hK : K (.ret (.fn (.func 46) [] [.cp [.v (.int .i64 f)]])) H) : ICalls prog 23 [.v (.int .i64 f)] H K := by
  refine ICalls_vc (N := 4) func23 (by kernel_rfl) rfl (by kernel_rfl) (by kernel_rfl) fun hw hbd hnb => ?_
  simp (maxSteps := 1000000) (disch := omega) [go_sem]
  exact retG_fz (J := H) (Ext.refl hw |>.new _).endH (.clos1 (.ptr (cs := [.v (.int .i64 f)]) (hw _ (Nat.le_refl _)) (by simp [go_sem]) (by simp [NB_v]))) hK

def risesS : List (List UInt8) → Bool
  | x :: y :: t => Op.bytesLess x y && risesS (y :: t)
  | _ => true

theorem rises_take (l : List (List UInt8)) (i : Nat) (h1 : 1 ≤ i) (h : i < l.length) : risesS (l.take (i + 1)) = (risesS (l.take i) && Op.bytesLess l[i - 1] l[i]) := by
  induction l generalizing i with
  | nil => simp at h
  | cons x t ih =>
    obtain ⟨j, rfl⟩ : ∃ j, i = j + 1 := ⟨i - 1, by omega⟩
    cases t with
    | nil => simp at h
    | cons y t =>
      cases j with
      | zero => simp [risesS]
      | succ j =>
        have := ih (j + 1) (by omega) (by simpa using h)
        simp only [List.take_succ_cons, risesS, List.getElem_cons_succ] at this ⊢
        rw [this, Bool.and_assoc]
        rfl

theorem rises_pref : ∀ (l : List (List UInt8)) (n : Nat), risesS l = true → risesS (l.take n) = true
  | [], n, _ => by simp [risesS]
  | [x], n, _ => by cases n <;> simp [risesS]
  | x :: y :: t, n, h => by
    simp only [risesS, Bool.and_eq_true] at h
    match n with
    | 0 => simp [risesS]
    | 1 => simp [risesS]
    | n + 2 =>
      have := rises_pref (y :: t) (n + 1) h.2
      simp only [List.take_succ_cons] at this ⊢
      simp only [risesS, h.1, this, Bool.and_self]

set_option pp.deepTerms false in
set_option maxRecDepth 4000 in
theorem rises36 {H : IHeap} {K : IEnd → IHeap → Prop} (l : List (List UInt8)) (hl : l.length ≤ 1000000) (hK : K (.ret (.v (.bool (risesS l)))) H) : ICalls prog 27 [sS l] H K := by
  refine ICalls_vc (N := 20) func27 (by kernel_rfl) rfl (by kernel_rfl) (by kernel_rfl) fun hw hbd hnb => ?_
  simp (maxSteps := 1000000) (disch := omega) [go_sem]
  refine vcLoop_mk (fun tm' H' => H' = H ∧ ∃ i : Nat, tm' 0 = sS l ∧ tm' 3 = .v (.int .i64 i) ∧ 1 ≤ i ∧ (i ≤ l.length ∨ l = []) ∧ risesS (l.take i) = true) (fun tm' _ => l.length - (intOf (tm' 3)).toNat) (.same ?_) ?_
  · refine ⟨rfl, 1, by simp [go_sem], by simp [go_sem], by omega, ?_, ?_⟩
    · cases l with
      | nil => exact .inr rfl
      | cons x t => exact .inl (by simp)
    · cases l with
      | nil => rfl
      | cons x t => simp [risesS]
  rintro I' μ' hI hμ tm' H' ⟨rfl, i, h0, h3, hi, hi2, hr⟩
  refine vc_sound _ (by kernel_rfl) _ _ _ ?_
  have hix : (i : Int) ≤ 1000001 ∨ (l.length : Int) < i := by omega
  simp (maxSteps := 1000000) (disch := omega) [go_sem, h0, h3]
  refine condB ?_ ?_ <;> intro hc <;> (try simp at hc)
  · simp (maxSteps := 1000000) (disch := omega) [go_sem, h0, h3]
    refine IWp_draw [0, 1, 2, 3, 4, 5, 6, 7, 8, 9] (by kernel_rfl) (by kernel_rfl) (fun _ _ _ _ h => h) ?_
    simp (maxSteps := 1000000) (disch := omega) [go_sem, h0, h3]
    have hrt := rises_take l i hi hc
    refine condB ?_ ?_ <;> intro he <;> (try simp at he)
    · simp (maxSteps := 1000000) (disch := omega) [go_sem, h0, h3]
      have e : risesS l = false := by
        cases hh : risesS l with
        | false => rfl
        | true =>
          have := rises_pref l (i + 1) hh
          rw [hrt, he, Bool.and_false] at this
          cases this
      rw [e] at hK
      exact retG_pure (.refl hw) (.v _) hK
    · simp (maxSteps := 1000000) (disch := omega) [go_sem, h0, h3]
      refine .of hI hμ ⟨rfl, i + 1, by simp [go_sem, h0], by simp [go_sem], by omega, .inl (by omega), ?_⟩ (by simp [go_sem, h3]; omega)
      rw [hrt, hr, he]; rfl
  · simp (maxSteps := 1000000) (disch := omega) [go_sem, h0, h3]
    have e : l.take i = l := by rw [List.take_of_length_le (by omega)]
    rw [e] at hr
    rw [hr] at hK
    exact retG_pure (.refl hw) (.v _) hK

set_option pp.deepTerms false in
set_option maxRecDepth 4000 in
theorem index45 {H : IHeap} {K : IEnd → IHeap → Prop} (l : List (List UInt8)) (hl : l.length ≤ 1000000) (ff : FuncId) (cap : List IV) (p : List UInt8 → Bool)
    (hp : ∀ s, s ∈ l → ∀ K' : IEnd → IHeap → Prop, K' (.ret (.v (.bool (p s)))) H → ICalls prog ff (.v (str s) :: cap) H K')
    (hK : ∀ n : Int, (0 ≤ n ↔ l.any p = true) → K (.ret (.v (.int .i64 n))) H) : ICalls prog 47 [sS l, .fn (.func ff) [] cap] H K := by
  refine ICalls_vc (N := 19) func47 (by kernel_rfl) rfl (by kernel_rfl) (by kernel_rfl) fun hw hbd hnb => ?_
  simp (maxSteps := 1000000) (disch := omega) [go_sem]
  refine vcLoop_mk (fun tm' H' => H' = H ∧ ∃ i : Nat, tm' 0 = sS l ∧ tm' 1 = .fn (.func ff) [] cap ∧ tm' 7 = .v (.int .i64 l.length) ∧ tm' 8 = .v (.int .i64 i) ∧ i ≤ l.length ∧ ∀ s ∈ l.take i, p s = false) (fun tm' _ => l.length - (intOf (tm' 8)).toNat) (.same ?_) ?_
  · exact ⟨rfl, 0, by simp [go_sem], by simp [go_sem], by simp [go_sem], by simp [go_sem], by omega, by simp⟩
  rintro I' μ' hI hμ tm' H' ⟨rfl, i, h0, h1, h7, h8, hi, hr⟩
  refine vc_sound _ (by kernel_rfl) _ _ _ ?_
  simp (maxSteps := 1000000) (disch := omega) [go_sem, h0, h1, h7, h8]
  refine condB ?_ ?_ <;> intro hc <;> (try simp at hc)
  · simp (maxSteps := 1000000) (disch := omega) [go_sem, h0, h1, h7, h8]
    refine hp l[i] (List.getElem_mem _) _ ?_
    simp (maxSteps := 1000000) (disch := omega) [go_sem, h0, h1, h7, h8]
    refine condB ?_ ?_ <;> intro he <;> (try simp at he)
    · simp (maxSteps := 1000000) (disch := omega) [go_sem, h0, h1, h7, h8]
      refine retG_pure (.refl hw) (.v _) (hK _ ⟨fun _ => ?_, fun _ => by omega⟩)
      exact List.any_eq_true.2 ⟨l[i], List.getElem_mem _, he⟩
    · simp (maxSteps := 1000000) (disch := omega) [go_sem, h0, h1, h7, h8]
      refine .of hI hμ ⟨rfl, i + 1, by simp [go_sem, h0], by simp [go_sem, h1], by simp [go_sem, h7], by simp [go_sem], by omega, fun s hs => ?_⟩ (by simp [go_sem, h8]; omega)
      rw [List.take_succ_eq_append_getElem hc, List.mem_append] at hs
      rcases hs with hs | hs
      · exact hr s hs
      · simp at hs; subst hs; exact he
  · simp (maxSteps := 1000000) (disch := omega) [go_sem, h0, h1, h7, h8]
    refine retG_pure (.refl hw) (.v _) (hK _ ⟨fun h => by omega, fun h => ?_⟩)
    have e : i = l.length := by omega
    subst e
    obtain ⟨s, hs, hps⟩ := List.any_eq_true.1 h
    rw [hr s (by simpa using hs)] at hps
    cases hps

theorem contains34 {H : IHeap} {K : IEnd → IHeap → Prop} (l : List (List UInt8)) (hl : l.length ≤ 1000000) (ff : FuncId) (cap : List IV) (p : List UInt8 → Bool)
    (hp : ∀ s, s ∈ l → ∀ K' : IEnd → IHeap → Prop, K' (.ret (.v (.bool (p s)))) H → ICalls prog ff (.v (str s) :: cap) H K')
    (hK : K (.ret (.v (.bool (l.any p)))) H) : ICalls prog 25 [sS l, .fn (.func ff) [] cap] H K := by
  refine ICalls_vc (N := 9) func25 (by kernel_rfl) rfl (by kernel_rfl) (by kernel_rfl) fun hw hbd hnb => ?_
  simp (maxSteps := 1000000) (disch := omega) [go_sem]
  refine index45 l hl ff cap p hp fun n hn => ?_
  simp (maxSteps := 1000000) (disch := omega) [go_sem]
  have e : l.any p = decide (0 ≤ n) := by
    cases h : l.any p with
    | true => simp [hn.2 h]
    | false => simp only [h] at hn; simp at hn; simp; omega
  rw [e] at hK
  exact retG_pure (.refl hw) (.v _) hK

end Go.Idl

namespace Go.Idl

open Go Go.RowKit

variable {P : Program} {N : Nat} {tm : Tm} {H : IHeap}

theorem run_toBytes {e : TypeId} (s : ByteArray) (w : World) : ∃ w' cap xs f, (Conv.stringToBytes e s).run P w = .ok (.slice (some ⟨w.heap.size, 0, none⟩) s.size cap) w' ∧ s.size ≤ cap ∧
    w.heap.size < w'.heap.size ∧ w'.os = w.os ∧ w'.tape = w.tape ∧ w'.output = w.output ∧ (∀ b, b < w.heap.size → w'.heap[b]? = w.heap[b]?) ∧ w'.heap[w.heap.size]? = some (.cells xs e f) ∧ xs.size = cap ∧
    FreeZ xs.size f ∧ (∀ j, j < s.size → xs[j]? = some (.int .u8 ((bytes s).getD j 0).toNat)) := by
  let cap := grownCap w s.size 0 e
  let xs : Array Value := (s.data.map fun b => Value.int .u8 b.toNat) ++ Array.replicate (cap - s.size) (.int .u8 0)
  have hge : s.size ≤ cap := grownCap_ge w s.size 0 e
  have hsz : xs.size = cap := by
    have : s.data.size = s.size := rfl
    simp [xs]; omega
  have hhp : (w.drew.alloc (.cells xs e)).heap.size = w.heap.size + 1 := by
    show (w.heap.push _).size = _
    simp
  have hnew : (w.drew.alloc (.cells xs e)).heap[w.heap.size]? = some (.cells xs e (0, 0)) := by
    have := World.alloc_heap_new w.drew (.cells xs e)
    exact this
  have hfz : ∀ i, ((w.drew.alloc (.cells xs e)).freeze ⟨w.heap.size, xs.size, none⟩ 1).heap[i]? = if i = w.heap.size then some (.cells xs e (xs.size, xs.size + 1)) else w.heap[i]? := by
    intro i
    simp only [World.freeze]
    rw [if_neg (by omega), Array.getElem?_modify]
    by_cases h : i = w.heap.size
    · rw [if_pos h.symm, if_pos h, h, hnew]
      rfl
    · rw [if_neg (fun h' => h h'.symm), if_neg h, alloc_get]
      have : ¬ i = w.drew.heap.size := h
      rw [if_neg this]
      rfl
  refine ⟨(w.drew.alloc (.cells xs e)).freeze ⟨w.heap.size, xs.size, none⟩ 1, cap, xs, (xs.size, xs.size + 1), ?_, hge, ?_, rfl, rfl, rfl, fun b hb => by rw [hfz, if_neg (by omega)], by rw [hfz, if_pos rfl], hsz, fun i hi h => by simp at h; omega, fun j hj => ?_⟩
  · unfold Conv.stringToBytes
    have hsh : (w.drew.alloc (.cells xs e)).shape? w.heap.size = some (e, xs.size) := by simp only [World.shape?, hnew]
    have hch : (choose (.appendCap s.size 0 e)).run P w = .ok cap w.drew := by
      rw [run_choose]
      simp only [Question.forced, Bool.false_eq_true, if_false]
      rfl
    simp only [Sem.run_bind, hch, Result.andThen_ok, newRow, run_newObj_alloc, Sem.run_pure, markStringish, run_shape]
    have hxs : (s.data.map fun b => Value.int .u8 b.toNat) ++ Array.replicate (cap - s.size) (.int .u8 0) = xs := rfl
    rw [hxs]
    have hdh : w.drew.heap.size = w.heap.size := rfl
    rw [hdh, hsh]
    simp only [run_freeze, Result.andThen_ok]
  · show w.heap.size < ((w.drew.alloc (.cells xs e)).freeze ⟨w.heap.size, xs.size, none⟩ 1).heap.size
    simp only [World.freeze]
    rw [if_neg (by omega)]
    rw [Array.size_modify, hhp]
    omega
  · have hj' : j < s.data.size := hj
    have e1 : (bytes s).getD j 0 = s.data[j] := by
      simp only [bytes, List.getD_eq_getElem?_getD, Array.getElem?_toList, Array.getElem?_eq_getElem hj', Option.getD_some]
    rw [e1]
    simp only [xs]
    rw [Array.getElem?_append_left (by simpa using hj'), Array.getElem?_map, Array.getElem?_eq_getElem hj']
    rfl

@[go_sem] theorem roundQ_normal {K : IHeap → Prop} {J : Exit → IHeap → Prop} : roundQ K J .normal tm H = K H := rfl

@[go_sem] theorem roundQ_ret {K : IHeap → Prop} {J : Exit → IHeap → Prop} : roundQ K J .ret tm H = J .ret H := rfl

@[go_sem] theorem roundQ_exit {K : IHeap → Prop} {J : Exit → IHeap → Prop} {id : Nat} : roundQ K J (.exit id) tm H = J (.exit id) H := rfl

section

variable {l : Nat} {J : Tm → IHeap → Prop} {Q : Exit → Tm → IHeap → Prop}

@[go_sem] theorem jumpQ_normal : jumpQ l J Q .normal tm H = Q .normal tm H := rfl

@[go_sem] theorem jumpQ_ret : jumpQ l J Q .ret tm H = Q .ret tm H := rfl

@[go_sem] theorem jumpQ_exit {id : Nat} : jumpQ l J Q (.exit id) tm H = Q (.exit id) tm H := rfl

@[go_sem] theorem jumpQ_goto {l' : Nat} : jumpQ l J Q (.goto l') tm H = (l' = l ∧ J tm H) := rfl

@[go_sem] theorem jumpQ_panic {c : List PanicEntry} : jumpQ l J Q (.panic c) tm H = Q (.panic c) tm H := rfl

end

theorem IOper_toBytes {o : Oper} {K : IV → IHeap → Prop} {Qp : List PanicEntry → IHeap → Prop} {ta tb e : TypeId} {d : TypeDesc} {x : Operand} {s : ByteArray} (ho : o.op = .convert ta tb x) (hok : okO N o = true) (ha : P.underlying ta = some d)
    (hb : P.underlying tb = some (.slice e)) (he : P.underlying e = some (.int .u8)) (hx : ev tm x = .v (.string s)) (hs : (bytes s).length ≤ maxN) (hK : K (.sl 1 (byt (bytes s))) H) : IOper P N o tm H K Qp := by
  obtain ⟨dst, op, type, pos, after, guard⟩ := o
  simp only at ho
  subst ho
  refine IOper_of (by simp) fun w g a sm r hN => ?_
  subst hN
  have rx := r.ev (x := x) (by simp [okO, Op.operands] at hok; exact hok.1)
  rw [hx] at rx
  have hxe := rx.v_eq
  obtain ⟨w', cap, xs, f, h1, h2, h3, h4, h5, h6, h7, h8, h9, h10, h11⟩ := run_toBytes (P := P) (e := e) s w
  have hg := sm.grow (w' := w') (Nat.le_of_lt h3) h4 h5 h6 h7
  have hsz := bytes_size s
  have hcs : CellsR w g xs ((bytes s).map fun b => .v (.int .u8 b.toNat)) := by
    refine ⟨by rw [List.length_map, ← hsz, h9]; exact h2, fun j c hj => ?_⟩
    have hjl : j < (bytes s).length := by
      have := (List.getElem?_eq_some_iff.1 hj).1
      simpa using this
    have := h11 j (by rw [hsz]; exact hjl)
    refine ⟨_, this, rfl, ?_⟩
    simp only [List.getElem?_map, Option.map_eq_some_iff] at hj
    obtain ⟨b, hb', rfl⟩ := hj
    rw [List.getD_eq_getElem?_getD, hb']
    exact .v _
  have hR := frozen_new hg.2 (sz := 1) (n := s.size) (cap := cap) h8 (sm.fresh (Nat.le_refl _)) hcs (by rw [List.length_map, hsz]; omega) h2 (by rw [hsz]; exact hs)
  rw [chunks_one' (by rw [List.length_map, hsz]), List.map_map] at hR
  refine ⟨_, w', g, H, _, .inl ?_, hg.2, hg.1, hR, hK⟩
  simp [execOp, convert, hxe, run_underlying ha, run_underlying hb, run_underlying he, h1]

end Go.Idl

namespace Go.Idl

open Go Go.Proofs.Tryz

def byteOk (f : Int) (x : UInt8) : Bool := !(decide (x.toNat < 32) && (!decide (x.toNat = 10) || !decide (f = 5)))

def valueS (f : Int) (s : List UInt8) : Bool := s.all (byteOk f) && decide (1 ≤ s.length) && decide (s.length ≤ 200)

set_option pp.deepTerms false in
set_option maxRecDepth 4000 in
theorem value44 {H : IHeap} {K : IEnd → IHeap → Prop} (f : Int) (s : List UInt8) (hs : s.length ≤ 1000000) (hK : K (.ret (.v (.bool (valueS f s)))) H) : ICalls prog 46 [.v (str s), .cp [.v (.int .i64 f)]] H K := by
  refine ICalls_vc (N := 32) func46 (by kernel_rfl) rfl (by kernel_rfl) (by kernel_rfl) fun hw hbd hnb => ?_
  simp (maxSteps := 1000000) (disch := omega) [go_sem]
  refine IOper_toBytes rfl (by kernel_rfl) underlying9 underlying41 underlying5 (by simp [go_sem]; rfl) (by rw [bytes_mk]; simp only [maxN]; omega) ?_
  simp (maxSteps := 1000000) (disch := omega) [go_sem, byt]
  refine vcLoop_mk (fun tm' H' => H' = H ∧ ∃ i : Nat, tm' 0 = .v (str s) ∧ tm' 1 = .cp [.v (.int .i64 f)] ∧ tm' 7 = .sl 1 (s.map fun b => [.v (.int .u8 b.toNat)]) ∧ tm' 8 = .v (.int .i64 s.length) ∧ tm' 9 = .v (.int .i64 i) ∧ i ≤ s.length ∧ ∀ x ∈ s.take i, byteOk f x = true) (fun tm' _ => s.length - (intOf (tm' 9)).toNat) (.same ?_) ?_
  · exact ⟨rfl, 0, by simp [go_sem], by simp [go_sem], by simp [go_sem], by simp [go_sem], by simp [go_sem], by omega, by simp⟩
  rintro I' μ' hI hμ tm' H' ⟨rfl, i, h0, h1, h7, h8, h9, hi, hr⟩
  refine vc_sound _ (by kernel_rfl) _ _ _ ?_
  simp (maxSteps := 1000000) (disch := omega) [go_sem, h0, h1, h7, h8, h9]
  refine condB ?_ ?_ <;> intro hc <;> (try simp at hc)
  · simp (maxSteps := 1000000) (disch := omega) [go_sem, h0, h1, h7, h8, h9]
    have fin : byteOk f s[i] = false → valueS f s = false := by
      intro h
      have : s.all (byteOk f) = false := by
        rw [Bool.eq_false_iff]
        intro h'
        rw [List.all_eq_true.1 h' s[i] (List.getElem_mem _)] at h
        cases h
      simp [valueS, this]
    have go : byteOk f s[i] = true → ∀ x ∈ s.take (i + 1), byteOk f x = true := by
      intro h x hx
      rw [List.take_succ_eq_append_getElem hc, List.mem_append] at hx
      rcases hx with hx | hx
      · exact hr x hx
      · simp at hx; subst hx; exact h
    (first | refine splitG' ?_ ?_ | refine splitB' ?_ ?_) <;> intro g1 <;> (try simp at g1)
    · simp (maxSteps := 1000000) (disch := omega) [go_sem, h0, h1, h7, h8, h9]
      have g1' : s[i].toNat < 32 := by omega
      (first | refine splitG' ?_ ?_ | refine splitB' ?_ ?_) <;> intro g2 <;> (try simp at g2)
      · simp (maxSteps := 1000000) (disch := omega) [go_sem, h0, h1, h7, h8, h9]
        rw [fin (by have : ¬ s[i].toNat = 10 := by omega
                    simp [byteOk, g1', this])] at hK
        exact retG_pure (.refl hw) (.v _) hK
      · simp (maxSteps := 1000000) (disch := omega) [go_sem, h0, h1, h7, h8, h9]
        have g2' : s[i].toNat = 10 := by omega
        refine condB ?_ ?_ <;> intro g3 <;> (try simp at g3)
        · simp (maxSteps := 1000000) (disch := omega) [go_sem, h0, h1, h7, h8, h9]
          rw [fin (by simp [byteOk, g2', g3])] at hK
          exact retG_pure (.refl hw) (.v _) hK
        · simp (maxSteps := 1000000) (disch := omega) [go_sem, h0, h1, h7, h8, h9]
          exact .of hI hμ ⟨rfl, i + 1, by simp [go_sem, h0], by simp [go_sem, h1], by simp [go_sem, h7], by simp [go_sem, h8], by simp [go_sem], by omega, go (by simp [byteOk, g2', g3])⟩ (by simp [go_sem, h9]; omega)
    · simp (maxSteps := 1000000) (disch := omega) [go_sem, h0, h1, h7, h8, h9]
      have g1' : ¬ s[i].toNat < 32 := by omega
      exact .of hI hμ ⟨rfl, i + 1, by simp [go_sem, h0], by simp [go_sem, h1], by simp [go_sem, h7], by simp [go_sem, h8], by simp [go_sem], by omega, go (by simp [byteOk, g1'])⟩ (by simp [go_sem, h9]; omega)
  · simp (maxSteps := 1000000) (disch := omega) [go_sem, h0, h1, h7, h8, h9]
    have hall : s.all (byteOk f) = true := by
      rw [List.take_of_length_le (by omega)] at hr
      exact List.all_eq_true.2 hr
    (first | refine splitG' ?_ ?_ | refine splitB' ?_ ?_) <;> intro g1 <;> (try simp at g1)
    · simp (maxSteps := 1000000) (disch := omega) [go_sem, h0, h1, h7, h8, h9]
      have e : valueS f s = decide ((s.length : Int) ≤ 200) := by
        have : 1 ≤ s.length := by omega
        simp [valueS, hall, this]
        omega
      rw [e] at hK
      exact retG_pure (.refl hw) (.v _) hK
    · simp (maxSteps := 1000000) (disch := omega) [go_sem, h0, h1, h7, h8, h9]
      have e : valueS f s = false := by
        have : ¬ 1 ≤ s.length := by omega
        simp [valueS, this]
      rw [e] at hK
      exact retG_pure (.refl hw) (.v _) hK

end Go.Idl

namespace Go.Idl

open Go Go.Proofs.Tryz

theorem notvalue35 {H : IHeap} {K : IEnd → IHeap → Prop} (f : Int) (s : List UInt8) (k : Nat) (hs : s.length ≤ 1000000) (ho : H.obj k = some (.cells [.fn (.func 46) [] [.cp [.v (.int .i64 f)]]])) (hK : K (.ret (.v (.bool (!valueS f s)))) H) : ICalls prog 26 [.v (str s), .p k 0] H K := by
  refine ICalls_vc (N := 8) func26 (by kernel_rfl) rfl (by kernel_rfl) (by kernel_rfl) fun hw hbd hnb => ?_
  simp (maxSteps := 1000000) (disch := omega) [go_sem, ho]
  refine value44 f s hs ?_
  simp (maxSteps := 1000000) (disch := omega) [go_sem]
  exact retG_pure (.refl hw) (.v _) hK

def mostS (f : Int) : Int := if 6 ≤ f then 8 else 1

def fieldOk (f : Int) (l : List (List UInt8)) : Bool := decide ((l.length : Int) ≤ mostS f) && !(l.any fun s => !valueS f s) && risesS l

def checkS (c : List (List (List UInt8))) : Bool := (c.zipIdx.all fun p => fieldOk p.2 p.1) && decide ((c.getD 0 []).length = 1)

set_option pp.deepTerms false in
set_option maxRecDepth 4000 in
theorem check19 {H : IHeap} {K : IEnd → IHeap → Prop} (c : List (List (List UInt8))) (hc : c.length = 8) (hs : ∀ l, l ∈ c → l.length ≤ 1000000 ∧ ∀ s, s ∈ l → s.length ≤ 1000000) (hK : K (.ret (.v (.int .i64 (if checkS c = true then 0 else 2)))) H) : ICalls prog 9 [cS c] H K := by
  have ht : List.take 8 (c.map sS) = c.map sS := by rw [List.take_of_length_le]; simp [hc]
  refine ICalls_vc (N := 31) func9 (by kernel_rfl) rfl (by kernel_rfl) (by kernel_rfl) fun hw hbd hnb => ?_
  simp (maxSteps := 1000000) (disch := omega) [go_sem, hc, ht]
  refine fields25 c hc ?_
  simp (maxSteps := 1000000) (disch := omega) [go_sem, hc, ht]
  refine IWp_rangeFunc (gf := 56) (cap := [.cp [.sl 1 ((c.map sS).map fun x => [x])]]) (by kernel_rfl) (by simp [go_sem]) (all49 (c.map sS))
    (fun i Hu => Hu.obj H.next = some (.cells (c.map sS)) ∧ (∃ x, Hu.obj (H.next + 1) = some (.cells [x])) ∧ Ext H Hu ∧ H.next + 2 ≤ Hu.next ∧ ∀ p, p ∈ c.zipIdx.take i → fieldOk p.2 p.1 = true) ?_ (by simp) ?_ ?_ ?_
  · exact ⟨by simp [go_sem], ⟨_, by simp [go_sem]; rfl⟩, (Ext.refl hw).new _ |>.new _, by simp [go_sem], by simp⟩
  · intro args h
    obtain ⟨i, hi⟩ := List.getElem?_of_mem h
    simp only [ixs, List.getElem?_map, Option.map_eq_some_iff] at hi
    obtain ⟨p, _, rfl⟩ := hi
    rfl
  · rintro i args Hu hx ⟨h1, ⟨x2, h2⟩, h3, h4, h5⟩
    have hi : i < c.length := by
      have := (List.getElem?_eq_some_iff.1 hx).1
      simpa [ixs_length] using this
    rw [ixs_get (by simpa using hi)] at hx
    cases hx
    have hsi := hs c[i] (List.getElem_mem _)
    refine vc_sound _ (by kernel_rfl) _ _ _ ?_
    simp (maxSteps := 1000000) (disch := omega) [go_sem, setPs, hc]
    refine vc_sound _ (by kernel_rfl) _ _ _ ?_
    simp (maxSteps := 1000000) (disch := omega) [go_sem, setPs, hc, h1, h2]
    refine value32 _ ?_
    simp (maxSteps := 1000000) (disch := omega) [go_sem, setPs, hc, h1, h2]
    refine most33 _ ?_
    simp (maxSteps := 1000000) (disch := omega) [go_sem, setPs, hc, h1, h2]
    have n1 : ¬ H.next = Hu.next := by omega
    have n2 : ¬ H.next = Hu.next + 1 := by omega
    have bad : fieldOk i c[i] = false → checkS c = false := by
      intro h
      have : (c.zipIdx.all fun p => fieldOk p.2 p.1) = false := by
        rw [Bool.eq_false_iff]
        intro h'
        have hm : (c[i], i) ∈ c.zipIdx := by
          rw [List.mem_zipIdx_iff_getElem?]
          simp [hi]
        have := List.all_eq_true.1 h' _ hm
        rw [h] at this
        cases this
      rw [checkS, this, Bool.false_and]
    have fin : ∀ J : IHeap, checkS c = false → Ext H J → retG (.v (.int .i64 2)) H K J := by
      intro J h he
      rw [h] at hK
      exact retG_pure he (.v _) hK
    (first | refine splitG' ?_ ?_ | refine splitB' ?_ ?_) <;> intro g1 <;> (try simp at g1)
    · simp (maxSteps := 1000000) (disch := omega) [go_sem, setPs, hc, h1, h2, n1, n2]
      have hb : fieldOk i c[i] = false := by
        have : ¬ ((c[i].length : Int) ≤ mostS i) := by simp only [mostS]; omega
        simp [fieldOk, this]
      exact fin _ (bad hb) (((h3.skip.new _).set (by omega) _).set (by omega) _).skip
    · simp (maxSteps := 1000000) (disch := omega) [go_sem, setPs, hc, h1, h2, n1, n2]
      refine contains34 c[i] hsi.1 _ _ (fun s => !valueS i s) (fun s hs' K' hK' => notvalue35 i s _ (hsi.2 s hs') (by simp [go_sem]) hK') ?_
      simp (maxSteps := 1000000) (disch := omega) [go_sem, setPs, hc, h1, h2, n1, n2]
      (first | refine splitG' ?_ ?_ | refine splitB' ?_ ?_) <;> intro g2 <;> (try simp at g2)
      · simp (maxSteps := 1000000) (disch := omega) [go_sem, setPs, hc, h1, h2, n1, n2]
        have hb : fieldOk i c[i] = false := by
          have e : (c[i].any fun s => !valueS i s) = true := by simpa using g2
          simp [fieldOk, e]
        exact fin _ (bad hb) (((h3.skip.new _).set (by omega) _).set (by omega) _).skip
      · simp (maxSteps := 1000000) (disch := omega) [go_sem, setPs, hc, h1, h2, n1, n2]
        refine rises36 c[i] hsi.1 ?_
        simp (maxSteps := 1000000) (disch := omega) [go_sem, setPs, hc, h1, h2, n1, n2]
        refine condB ?_ ?_ <;> intro g3 <;> (try simp at g3)
        · simp (maxSteps := 1000000) (disch := omega) [go_sem, setPs, hc, h1, h2, n1, n2]
          have hb : fieldOk i c[i] = false := by simp [fieldOk, g3]
          exact fin _ (bad hb) (((h3.skip.new _).set (by omega) _).set (by omega) _).skip
        · simp (maxSteps := 1000000) (disch := omega) [go_sem, setPs, hc, h1, h2, n1, n2]
          refine ⟨(h3.skip.new _).set (by omega) _, by omega, fun a b hp => ?_⟩
          rw [List.take_succ_eq_append_getElem (by simpa using hi), List.mem_append] at hp
          rcases hp with hp | hp
          · exact h5 (a, b) hp
          · simp at hp
            obtain ⟨rfl, rfl⟩ := hp
            simp [fieldOk, g3]
            exact ⟨by simp only [mostS]; omega, g2⟩
  · rintro Hu ⟨h1, ⟨x2, h2⟩, h3, h4, h5⟩
    simp (maxSteps := 1000000) (disch := omega) [go_sem, hc, h1, h2]
    have hall : (c.zipIdx.all fun p => fieldOk p.2 p.1) = true := by
      rw [List.all_eq_true]
      intro p hp
      refine h5 p ?_
      rw [ixs_length, List.length_map, List.take_of_length_le (by simp)]
      exact hp
    have e0 : checkS c = decide (c[0].length = 1) := by
      have : c.getD 0 [] = c[0] := by simp [hc]
      simp only [checkS, hall, Bool.true_and, this]
    rw [e0] at hK
    refine condB ?_ ?_ <;> intro g1 <;> (try simp at g1)
    · simp (maxSteps := 1000000) (disch := omega) [go_sem, hc, h1, h2]
      have : ¬ c[0].length = 1 := by omega
      simp [this] at hK
      exact retG_pure ((h3.skip).set (by omega) _) (.v _) hK
    · simp (maxSteps := 1000000) (disch := omega) [go_sem, hc, h1, h2]
      have : c[0].length = 1 := by omega
      simp [this] at hK
      exact retG_pure ((h3.skip).set (by omega) _) (.v _) hK

end Go.Idl

namespace Go.Idl

open Go Go.Proofs.Tryz

def orderS (f : Int) (v : List (List UInt8)) : List (List UInt8) := if 6 ≤ f then compactS (sortS v) else v

def emptyC : List (List (List UInt8)) := List.replicate 8 []

def withS (c : List (List (List UInt8))) (f : Int) (v : List (List UInt8)) : List (List (List UInt8)) × Int :=
  if checkS c = true ∧ 0 ≤ f ∧ f < 8 then
    if checkS (c.set f.toNat (orderS f v)) = true then (c.set f.toNat (orderS f v), 0) else (emptyC, 2)
  else (emptyC, 2)

theorem Fz.nils {H J : IHeap} (n : Nat) : Fz H J (.ag (List.replicate n (.v (.slice none 0 0)))) (.ag (List.replicate n (.sl 1 []))) := .ag _ _ (by simp) fun j c c' h1 h2 => by
  rw [List.eq_of_mem_replicate (List.mem_of_getElem? h1), List.eq_of_mem_replicate (List.mem_of_getElem? h2)]
  exact .wk _ _ (.nil 1) (NB_sl.2 (by simp))

theorem compT_mem : ∀ (t : List (List UInt8)) (p x : List UInt8), x ∈ compT p t → x ∈ t
  | [], _, _, h => by simp [compT] at h
  | y :: t, p, x, h => by
    simp only [compT] at h
    split at h
    · exact List.mem_cons_of_mem _ (compT_mem t y x h)
    · rcases List.mem_cons.1 h with h | h
      · rw [h]; exact List.mem_cons_self
      · exact List.mem_cons_of_mem _ (compT_mem t y x h)

theorem compT_len : ∀ (t : List (List UInt8)) (p : List UInt8), (compT p t).length ≤ t.length
  | [], _ => by simp [compT]
  | y :: t, p => by
    simp only [compT]
    split
    · have := compT_len t y; simp; omega
    · have := compT_len t y; simp; omega

theorem compact_mem {l : List (List UInt8)} {x : List UInt8} (h : x ∈ compactS l) : x ∈ l := by
  cases l with
  | nil => simp [compactS] at h
  | cons y t =>
    rcases List.mem_cons.1 h with h | h
    · rw [h]; exact List.mem_cons_self
    · exact List.mem_cons_of_mem _ (compT_mem t y x h)

theorem compact_len (l : List (List UInt8)) : (compactS l).length ≤ l.length := by
  cases l with
  | nil => simp [compactS]
  | cons y t => have := compT_len t y; simp [compactS]; omega

theorem put_formS (cs : List (List (List UInt8))) (i : Nat) (x : List (List UInt8)) (h : i < cs.length) : List.take i (cs.map sS) ++ sS x :: List.drop (i + 1) (cs.map sS) = (cs.set i x).map sS := by
  rw [List.set_eq_take_append_cons_drop, if_pos h]
  simp

theorem NB_sS {n : Nat} (l : List (List UInt8)) : NB n (sS l) := by
  refine NB_sl.2 fun e he c hc => ?_
  obtain ⟨s, _, rfl⟩ := List.mem_map.1 he
  simp at hc
  subst hc
  exact .v _

theorem NB_cS {n : Nat} (c : List (List (List UInt8))) : NB n (cS c) := by
  refine NB_ag.2 fun e he => ?_
  obtain ⟨s, _, rfl⟩ := List.mem_map.1 he
  exact NB_sS s

theorem cS_empty : cS emptyC = .ag (List.replicate 8 (.sl 1 [])) := by simp [cS, emptyC, sS]

set_option pp.deepTerms false in
set_option maxRecDepth 8000 in
theorem with9 {H : IHeap} {K : IEnd → IHeap → Prop} (c : List (List (List UInt8))) (f : Int) (v : List (List UInt8)) (hc : c.length = 8) (hs : ∀ l, l ∈ c → l.length ≤ 1000000 ∧ ∀ s, s ∈ l → s.length ≤ 1000000) (hv : v.length ≤ 1000000 ∧ ∀ s, s ∈ v → s.length ≤ 1000000)
    (hK : K (.ret (.tu [cS (withS c f v).1, .v (.int .i64 (withS c f v).2)])) H) : ICalls prog 15 [cS c, .v (.int .i64 f), sS v] H K := by
  have ht : List.take 8 (c.map sS) = c.map sS := by rw [List.take_of_length_le]; simp [hc]
  refine ICalls_vc (N := 38) func15 (by kernel_rfl) rfl (by kernel_rfl) (by kernel_rfl) fun hw hbd hnb => ?_
  simp (maxSteps := 1000000) (disch := omega) [go_sem, hc, ht]
  refine IWp_scope 0 (fun tm' H' => tm' 3 = .p H.next 0 ∧ tm' 6 = .p (H.next + 1) 0 ∧ withS c f v = (emptyC, 2) ∧ (∃ cs, cs.length = 8 ∧ H'.obj (H.next + 1) = some (.cells cs)) ∧ Ext H H' ∧ H.next + 2 ≤ H'.next) (fun _ _ => 0) rfl ?_ ?_
  · refine vc_sound _ (by kernel_rfl) _ _ _ ?_
    simp (maxSteps := 1000000) (disch := omega) [go_sem, hc, ht]
    refine check19 c hc hs ?_
    simp (maxSteps := 1000000) (disch := omega) [go_sem, hc, ht]
    have H2 : Ext H ((H.new (.cells (c.map sS))).new (.cells (List.replicate 8 (.v (.slice none 0 0))))) := (Ext.refl hw).new _ |>.new _
    (first | refine splitG' ?_ ?_ | refine splitB' ?_ ?_) <;> intro g1 <;> (try simp at g1)
    · simp (maxSteps := 1000000) (disch := omega) [go_sem, hc, ht]
      have e : withS c f v = (emptyC, 2) := by simp [withS, g1]
      exact ⟨e, H2⟩
    · simp (maxSteps := 1000000) (disch := omega) [go_sem, hc, ht]
      (first | refine splitG' ?_ ?_ | refine splitB' ?_ ?_) <;> intro g2 <;> (try simp at g2)
      · simp (maxSteps := 1000000) (disch := omega) [go_sem, hc, ht]
        have e : withS c f v = (emptyC, 2) := by
          have : ¬ (0 ≤ f) := by omega
          simp [withS, this]
        exact ⟨e, H2⟩
      · simp (maxSteps := 1000000) (disch := omega) [go_sem, hc, ht]
        refine condB ?_ ?_ <;> intro g3 <;> (try simp at g3)
        · simp (maxSteps := 1000000) (disch := omega) [go_sem, hc, ht]
          have e : withS c f v = (emptyC, 2) := by
            have : ¬ (f < 8) := by omega
            simp [withS, this]
          exact ⟨e, H2⟩
        · simp (maxSteps := 1000000) (disch := omega) [go_sem, hc, ht]
          refine copy16 c hc (fun s h => (hs s h).1) ?_
          simp (maxSteps := 1000000) (disch := omega) [go_sem, hc, ht]
          refine clone20 v hv.1 ?_
          simp (maxSteps := 1000000) (disch := omega) [go_sem, hc, ht]
          have hput : List.take f.toNat (c.map sS) ++ .sl 1 (v.map fun s => [.v (str s)]) :: List.drop (f.toNat + 1) (c.map sS) = (c.set f.toNat v).map sS := by
            rw [List.set_eq_take_append_cons_drop, if_pos (by omega)]
            simp
          refine condB ?_ ?_ <;> intro g4 <;> (try simp at g4)
          · simp (maxSteps := 1000000) (disch := omega) [go_sem, hc, ht]
            refine values23 _ rfl ?_
            simp (maxSteps := 1000000) (disch := omega) [go_sem, hc, ht]
            refine sorted22 v hv.1 _ _ [] (by have := values39 (v.map fun s => .v (str s)); simp only [List.map_map] at this; exact this) (by simp) fun r J hJ ho => ?_
            simp (maxSteps := 1000000) (disch := omega) [go_sem]
            refine compact21 _ (by rw [sortS_length]; exact hv.1) r hJ ho fun J2 hJ2 => ?_
            have o1 := hJ2.sub (H.next + 1) _ (by simp [go_sem]; rfl)
            rw [hput] at o1
            have hx : (compactS (sortS v)).length ≤ 1000000 ∧ ∀ s, s ∈ compactS (sortS v) → s.length ≤ 1000000 := by
              refine ⟨Nat.le_trans (compact_len _) (by rw [sortS_length]; exact hv.1), fun s hs' => hv.2 s ?_⟩
              have := compact_mem hs'
              simpa [sortS] using this
            have hput2 : List.take f.toNat ((c.set f.toNat v).map sS) ++ .sl 1 ((compactS (sortS v)).map fun s => [.v (str s)]) :: List.drop (f.toNat + 1) ((c.set f.toNat v).map sS) = (c.set f.toNat (compactS (sortS v))).map sS := by
              have h := put_formS (c.set f.toNat v) f.toNat (compactS (sortS v)) (by simp; omega)
              rw [List.set_set] at h
              exact h
            have hlen : (c.set f.toNat (compactS (sortS v))).length = 8 := by simp [hc]
            have ht2 : List.take 8 ((c.set f.toNat (compactS (sortS v))).map sS) = (c.set f.toNat (compactS (sortS v))).map sS := by rw [List.take_of_length_le]; simp [hc]
            have hs2 : ∀ l, l ∈ c.set f.toNat (compactS (sortS v)) → l.length ≤ 1000000 ∧ ∀ s, s ∈ l → s.length ≤ 1000000 := by
              intro l hl
              rcases List.mem_or_eq_of_mem_set hl with h | h
              · exact hs l h
              · subst h; exact hx
            have ho : orderS f v = compactS (sortS v) := by simp only [orderS]; rw [if_pos g4]
            have hle : H.next + 2 ≤ J2.next := by
              have := hJ2.le
              simp [go_sem] at this
              omega
            have hE : Ext H J2 := ((((Ext.refl hw).new _).new _).set (by omega) _).trans hJ2
            generalize compactS (sortS v) = x at *
            simp (maxSteps := 1000000) (disch := omega) [go_sem, o1, -List.map_set]
            rw [hput2, ht2]
            refine check19 _ hlen hs2 ?_
            simp (maxSteps := 1000000) (disch := omega) [go_sem, -List.map_set]
            refine condB ?_ ?_ <;> intro g5 <;> (try simp at g5)
            · simp (maxSteps := 1000000) (disch := omega) [go_sem, -List.map_set]
              exact ⟨by simp [withS, g1, g2, g3, ho, g5], hc, hE.set (by omega) _, hle⟩
            · simp (maxSteps := 1000000) (disch := omega) [go_sem, ht2, -List.map_set]
              have e : withS c f v = (c.set f.toNat x, 0) := by simp [withS, g1, g2, g3, ho, g5]
              rw [e] at hK
              have hd : List.drop c.length (List.map sS (c.set f.toNat x)) = [] := by simp
              rw [hd, List.append_nil, ht2]
              exact retG_pure (hE.set (by omega) _) (NB_tu.2 (by
                intro c' hc'
                simp only [List.mem_cons, List.not_mem_nil, or_false] at hc'
                rcases hc' with rfl | rfl
                · exact NB_cS _
                · exact .v _)) hK
          · have hlen : (c.set f.toNat v).length = 8 := by simp [hc]
            have ht2 : List.take 8 ((c.set f.toNat v).map sS) = (c.set f.toNat v).map sS := by rw [List.take_of_length_le]; simp [hc]
            have hs2 : ∀ l, l ∈ c.set f.toNat v → l.length ≤ 1000000 ∧ ∀ s, s ∈ l → s.length ≤ 1000000 := by
              intro l hl
              rcases List.mem_or_eq_of_mem_set hl with h | h
              · exact hs l h
              · subst h; exact hv
            have ho : orderS f v = v := by simp only [orderS]; rw [if_neg (by omega)]
            simp (maxSteps := 1000000) (disch := omega) [go_sem, hc, ht]
            rw [hput, ht2]
            refine check19 _ hlen hs2 ?_
            simp (maxSteps := 1000000) (disch := omega) [go_sem, hc, ht]
            refine condB ?_ ?_ <;> intro g5 <;> (try simp at g5)
            · simp (maxSteps := 1000000) (disch := omega) [go_sem, hc, ht]
              have e : withS c f v = (emptyC, 2) := by simp [withS, g1, g2, g3, ho, g5]
              exact ⟨e, (((Ext.refl hw).new _).new _).set (by omega) _⟩
            · simp (maxSteps := 1000000) (disch := omega) [go_sem, hc, ht, ht2]
              have e : withS c f v = (c.set f.toNat v, 0) := by simp [withS, g1, g2, g3, ho, g5]
              rw [e] at hK
              have ht3 : List.take 8 ((List.map sS c).set f.toNat (.sl 1 (List.map (fun s => [.v (str s)]) v))) = (c.set f.toNat v).map sS := by
                rw [List.take_of_length_le (by simp [hc]), List.map_set]
              rw [ht3]
              exact retG_pure ((((Ext.refl hw).new _).new _).set (by omega) _) (NB_tu.2 (by
                intro c' hc'
                simp only [List.mem_cons, List.not_mem_nil, or_false] at hc'
                rcases hc' with rfl | rfl
                · exact NB_cS _
                · exact .v _)) hK
  · rintro tm' H' ⟨g3, g6, e, ⟨cs, hcs, h1⟩, he, hn⟩
    refine vc_sound _ (by kernel_rfl) _ _ _ ?_
    simp (maxSteps := 1000000) (disch := omega) [go_sem, hc, ht, g3, g6, h1, hcs, bdP]
    rw [e] at hK
    simp only [cS_empty] at hK
    exact retG_fz (J := H) (he.set (by omega) _).endH (.tu2 (.nils 8) (.same (.v _))) hK

end Go.Idl

namespace Go.Idl

open Go Go.Proofs.Tryz

end Go.Idl

namespace Go.Idl

open Go Go.Proofs.Tryz

def differS (a b : List (List (List UInt8))) (n : Nat) : List Nat := (List.range n).filter fun i => !decide (a.getD i [] = b.getD i [])

theorem differ_succ (a b : List (List (List UInt8))) (n : Nat) : differS a b (n + 1) = differS a b n ++ (if a.getD n [] = b.getD n [] then [] else [n]) := by
  simp only [differS, List.range_succ, List.filter_append, List.filter_cons, List.filter_nil]
  by_cases h : a.getD n [] = b.getD n []
  · simp [h]
  · simp [h]

theorem differ_nil {a b : List (List (List UInt8))} (ha : a.length = 8) (hb : b.length = 8) : differS a b 8 = [] ↔ a = b := by
  simp only [differS, List.filter_eq_nil_iff, List.mem_range]
  constructor
  · intro h
    refine List.ext_getElem (by omega) fun i h1 h2 => ?_
    have := h i (by omega)
    simpa [h1, h2] using this
  · rintro rfl i _
    simp

end Go.Idl

namespace Go.Idl

open Go Go.RowKit

/-! ### Loops as functions -/

inductive Runs {σ ρ : Type} (step : σ → Option (σ ⊕ ρ)) : σ → ρ → Prop
  | done {s : σ} {r : ρ} (h : step s = some (.inr r)) : Runs step s r
  | more {s s' : σ} {r : ρ} (h : step s = some (.inl s')) (k : Runs step s' r) : Runs step s r

theorem Runs.det {σ ρ : Type} {step : σ → Option (σ ⊕ ρ)} {s : σ} {r r' : ρ} (h : Runs step s r) (h' : Runs step s r') : r = r' := by
  induction h with
  | done h => cases h' with
    | done k => rw [h] at k; simpa using k
    | more k _ => rw [h] at k; simp at k
  | more h _ ih => cases h' with
    | done k => rw [h] at k; simp at k
    | more k k' => rw [h] at k; simp at k; subst k; exact ih k'

open Classical in

noncomputable def loopO {σ ρ : Type} (step : σ → Option (σ ⊕ ρ)) (s : σ) : Option ρ :=
  if h : ∃ r, Runs step s r then some h.choose else none

theorem loopO_some {σ ρ : Type} {step : σ → Option (σ ⊕ ρ)} {s : σ} {r : ρ} : loopO step s = some r ↔ Runs step s r := by
  unfold loopO
  constructor
  · intro h
    split at h
    · rename_i h'
      simp at h
      rw [← h]; exact h'.choose_spec
    · cases h
  · intro h
    have h' : ∃ r, Runs step s r := ⟨r, h⟩
    rw [dif_pos h']
    exact congrArg some (h'.choose_spec.det h)

theorem loopO_done {σ ρ : Type} {step : σ → Option (σ ⊕ ρ)} {s : σ} {r : ρ} (h : step s = some (.inr r)) : loopO step s = some r := loopO_some.2 (.done h)

theorem loopO_more {σ ρ : Type} {step : σ → Option (σ ⊕ ρ)} {s s' : σ} (h : step s = some (.inl s')) : loopO step s = loopO step s' := by
  cases h' : loopO step s' with
  | some r => exact loopO_some.2 (.more h (loopO_some.1 h'))
  | none =>
    cases h2 : loopO step s with
    | none => rfl
    | some r =>
      have := loopO_some.1 h2
      cases this with
      | done k => rw [h] at k; simp at k
      | more k k' => rw [h] at k; simp at k; subst k; rw [loopO_some.2 k'] at h'; cases h'

theorem loopO_inv {σ ρ : Type} {step : σ → Option (σ ⊕ ρ)} {Post : ρ → Prop} (I : σ → Prop) (μ : σ → Nat)
    (h : ∀ s, I s → (∃ s', step s = some (.inl s') ∧ I s' ∧ μ s' < μ s) ∨ ∃ r, step s = some (.inr r) ∧ Post r) {s : σ} (hs : I s) : ∃ r, loopO step s = some r ∧ Post r := by
  generalize hn : μ s = n
  induction n using Nat.strongRecOn generalizing s with
  | _ n ih =>
    rcases h s hs with ⟨s', h1, h2, h3⟩ | ⟨r, h1, h2⟩
    · obtain ⟨r, k1, k2⟩ := ih (μ s') (hn ▸ h3) h2 rfl
      exact ⟨r, (loopO_more h1).trans k1, k2⟩
    · exact ⟨r, loopO_done h1, h2⟩

def gd {α : Type} (p : Prop) [Decidable p] (x : Option α) : Option α := if p then x else none

theorem gd_some {α : Type} {p : Prop} [Decidable p] {x : Option α} {r : α} : gd p x = some r ↔ p ∧ x = some r := by
  unfold gd; split <;> simp [*]

theorem gd_pos {α : Type} {p : Prop} [Decidable p] {x : Option α} (h : p) : gd p x = x := if_pos h

theorem bind_some' {α β : Type} {x : Option α} {f : α → Option β} {r : β} (h : x.bind f = some r) : ∃ a, x = some a ∧ f a = some r := Option.bind_eq_some_iff.1 h

/-! ### The walk -/

variable {P : Program} {N : Nat} {tm : Tm} {H : IHeap} {Q : Exit → Tm → IHeap → Prop}

theorem IWp_seqF {a b : Code} (h : ∀ cb, cb = b → IWp P N a (thenQ (fun tm H => IWp P N cb Q tm H) Q) tm H) : IWp P N (.seq a b) Q tm H := IWp_seq (h b rfl)

theorem IWp_seqC {a b : Code} (J : Tm → IHeap → Prop) (hJ : ∀ tm H, J tm H → IWp P N b Q tm H) (h : ∀ cb, (∀ tm H, UpI J tm H → IWp P N cb Q tm H) → IWp P N a (thenQ (fun tm H => IWp P N cb Q tm H) Q) tm H) : IWp P N (.seq a b) Q tm H :=
  IWp_seq (h b fun _ _ ⟨_, _, hg, hj⟩ => IWp.gh hg (hJ _ _ hj))

def loopN {σ ρ : Type} (x : σ ⊕ ρ) (I : σ → Tm → IHeap → Prop) (tm : Tm) (H : IHeap) : Prop := ∃ s', x = .inl s' ∧ UpI (I s') tm H

theorem loopN_mk {σ ρ : Type} {I I' : σ → Tm → IHeap → Prop} (hI : I' = I) (s' : σ) (h : UpI (I s') tm H) : loopN (ρ := ρ) (.inl s') I' tm H := by subst hI; exact ⟨s', rfl, h⟩

theorem IWp_loopF {σ ρ : Type} {c : Code} {step : σ → Option (σ ⊕ ρ)} {r : ρ} (I : σ → Tm → IHeap → Prop) {s : σ} (hr : loopO step s = some r) (h0 : UpI (I s) tm H)
    (round' : ∀ I', I' = I → ∀ s x tm H, I s tm H → step s = some x → (∀ r', x = .inr r' → r' = r) → IWp P N c (thenQ (loopN x I') Q) tm H) : IWp P N (.loop c) Q tm H := by
  have round := round' I rfl
  clear round'
  replace hr := loopO_some.1 hr
  obtain ⟨tm1, H1, hg, hI⟩ := h0
  refine IWp.gh hg ?_
  refine ⟨fun rr B w0 g0 a0 s0 r0 hN0 hB0 hm0 => ?_⟩
  intro b k cs hro hb hrr
  have key : ∀ tm H, I s tm H → ∀ (w : World) (g : Gs) (a : Act), Mono w0 g0 w g → Sim w g H → RA w g a tm → a.tmps.size = N → Marks rr B w g a.defers →
      ∃ e a' w', Post rr B N Q w0 g0 e a' w' ∧ ArrivesIn (Machine.fenced P (FR rr)) P (lone (b.atR a (.code c :: .inLoop c :: k)) cs w) b k cs e a' w' := by
    clear hI hg
    induction hr with
    | @done s r hd =>
      intro tm H hI w g a m s' ra hN hm
      obtain ⟨e, a₁, w₁, ⟨tm1, g1, H1, m1, s1, r1, n1, k1, ne, q⟩, harr⟩ := (round s _ tm H hI hd fun r' e => by simpa using e.symm).run rr B w g a s' ra hN (Nat.le_trans hB0 m.size) hm b (.inLoop c :: k) cs hro hb hrr
      have mm := m.tr m1 s0 s'
      cases e with
      | normal => obtain ⟨s', hs, _⟩ := q; cases hs
      | exit id => exact ⟨_, a₁, w₁, ⟨tm1, g1, H1, mm, s1, r1, n1, k1, ne, q⟩, .pass (x := .inLoop c) rfl (fun _ _ => .inl (by simp)) harr⟩
      | goto l => exact ⟨_, a₁, w₁, ⟨tm1, g1, H1, mm, s1, r1, n1, k1, ne, q⟩, .pass (x := .inLoop c) rfl (fun _ _ => .inl (by simp)) harr⟩
      | ret => exact ⟨_, a₁, w₁, ⟨tm1, g1, H1, mm, s1, r1, n1, k1, ne, q⟩, .pass (x := .inLoop c) rfl (fun _ _ => .inl (by simp)) harr⟩
      | panic ch => exact ⟨_, a₁, w₁, ⟨tm1, g1, H1, mm, s1, r1, n1, k1, ne, q⟩, .pass (x := .inLoop c) rfl (fun _ _ => .inl (by simp)) harr⟩
      | outgrown => exact absurd rfl ne
    | @more s s2 r hd _ ih =>
      intro tm H hI w g a m s' ra hN hm
      obtain ⟨e, a₁, w₁, ⟨tm1, g1, H1, m1, s1, r1, n1, k1, ne, q⟩, harr⟩ := (round s _ tm H hI hd fun r' e => by cases e).run rr B w g a s' ra hN (Nat.le_trans hB0 m.size) hm b (.inLoop c :: k) cs hro hb hrr
      have mm := m.tr m1 s0 s'
      cases e with
      | normal =>
        obtain ⟨s3, hs, tm2, H2, hg, hI1⟩ := q
        cases hs
        obtain ⟨g2, m2, sm2, r2⟩ := hg w₁ g1 s1
        obtain ⟨e₂, a₂, w₂, hq₂, harr₂⟩ := ih round tm2 H2 hI1 w₁ g2 a₁ (mm.tr m2 s0 s1) sm2 (r2 _ r1) n1 (k1.mono m2)
        exact ⟨e₂, a₂, w₂, hq₂, .of_steps (StepsIn.trans harr (.one (fenced_calm hb hrr rfl) stepR_inLoop)) harr₂⟩
      | exit id => exact ⟨_, a₁, w₁, ⟨tm1, g1, H1, mm, s1, r1, n1, k1, ne, q⟩, .pass (x := .inLoop c) rfl (fun _ _ => .inl (by simp)) harr⟩
      | goto l => exact ⟨_, a₁, w₁, ⟨tm1, g1, H1, mm, s1, r1, n1, k1, ne, q⟩, .pass (x := .inLoop c) rfl (fun _ _ => .inl (by simp)) harr⟩
      | ret => exact ⟨_, a₁, w₁, ⟨tm1, g1, H1, mm, s1, r1, n1, k1, ne, q⟩, .pass (x := .inLoop c) rfl (fun _ _ => .inl (by simp)) harr⟩
      | panic ch => exact ⟨_, a₁, w₁, ⟨tm1, g1, H1, mm, s1, r1, n1, k1, ne, q⟩, .pass (x := .inLoop c) rfl (fun _ _ => .inl (by simp)) harr⟩
      | outgrown => exact absurd rfl ne
  obtain ⟨e, a', w', hq, harr⟩ := key tm1 H1 hI w0 g0 a0 (.refl _ _) s0 r0 hN0 hm0
  exact ⟨e, a', w', hq, .of_steps (.one (fenced_calm hb hrr rfl) stepR_loop) harr⟩

theorem ICalls_iwp {f : FuncId} {fn : Func} {c : Code} {args : List IV} {K : IEnd → IHeap → Prop} (hf : P.funcs[f]? = some fn) (hbd : hasBody P f = true) (hb : fn.body = some c) (hN : fn.ntmps = N)
    (hn : (decide (args.length ≤ N) && fn.results.toList.all (rvN N)) = true)
    (h : ∀ cb, cb = c → H.Wf → (∀ a, a ∈ args → Bd a) → (∀ a, a ∈ args → NB H.next a) → IWp P N cb (retQ P fn.results.toList H K) (tm0 args) H) : ICalls P f args H K := by
  subst hN
  refine ⟨hbd, fun w g vs s rl => ?_⟩
  simp only [Bool.and_eq_true, decide_eq_true_eq] at hn
  refine (ICalls_of_IWp hbd hf hb hn.1 hn.2 fun hw => h c rfl hw (fun a ha => ?_) (fun a ha => ?_)).run w g vs s rl
  · obtain ⟨j, hj⟩ := List.getElem?_of_mem ha
    have hlt : j < vs.size := by rw [rl.1]; exact (List.getElem?_eq_some_iff.1 hj).1
    exact (rl.2 j _ a (Array.getElem?_eq_getElem hlt) hj).bd
  · obtain ⟨j, hj⟩ := List.getElem?_of_mem ha
    have hlt : j < vs.size := by rw [rl.1]; exact (List.getElem?_eq_some_iff.1 hj).1
    have := (rl.2 j _ a (Array.getElem?_eq_getElem hlt) hj).nb
    rwa [s.nx] at this

theorem ICalls.wk {f : FuncId} {args args' : List IV} {K : IEnd → IHeap → Prop} (hl : args'.length = args.length) (hw : ∀ (j : Nat) (i i' : IV), args[j]? = some i → args'[j]? = some i' → Wk i i') (h : ICalls P f args' H K) : ICalls P f args H K := by
  refine ⟨h.body, fun w g vs s rl => h.run w g vs s ⟨by rw [rl.1, hl], fun j x c hx hc => ?_⟩⟩
  have hlt : j < args.length := by rw [← hl]; exact (List.getElem?_eq_some_iff.1 hc).1
  exact hw j _ c (List.getElem?_eq_getElem hlt) hc w g x (rl.2 j x _ hx (List.getElem?_eq_getElem hlt))

theorem ICalls.eqA {f : FuncId} {args args' : List IV} {K : IEnd → IHeap → Prop} (e : args = args') (h : ICalls P f args' H K) : ICalls P f args H K := e ▸ h

inductive WkL : List IV → List IV → Prop
  | nil : WkL [] []
  | cons {a b : IV} {l m : List IV} (h : Wk a b) (t : WkL l m) : WkL (a :: l) (b :: m)

theorem WkL.len {l m : List IV} (h : WkL l m) : m.length = l.length := by
  induction h with
  | nil => rfl
  | cons _ _ ih => simp [ih]

theorem WkL.get {l m : List IV} (h : WkL l m) : ∀ (j : Nat) (a b : IV), l[j]? = some a → m[j]? = some b → Wk a b := by
  induction h with
  | nil => intro j a b h; simp at h
  | cons h _ ih =>
    intro j a b h1 h2
    cases j with
    | zero => simp at h1 h2; subst h1; subst h2; exact h
    | succ j => exact ih j a b (by simpa using h1) (by simpa using h2)

theorem Wk.agL {l m : List IV} (h : WkL l m) : Wk (.ag l) (.ag m) := fun w g x hx => by
  cases hx with
  | ag xs _ hl ho hr =>
    refine .ag xs m (by rw [hl, h.len]) ho fun j x c h1 h2 => ?_
    have hlt : j < l.length := by rw [← h.len]; exact (List.getElem?_eq_some_iff.1 h2).1
    exact h.get j _ c (List.getElem?_eq_getElem hlt) h2 w g x (hr j x _ h1 (List.getElem?_eq_getElem hlt))

theorem WkL.refl : ∀ (l : List IV), WkL l l
  | [] => .nil
  | _ :: l => .cons (.refl _) (WkL.refl l)

theorem ICalls.wkL {f : FuncId} {args args' : List IV} {K : IEnd → IHeap → Prop} (hw : WkL args args') (h : ICalls P f args' H K) : ICalls P f args H K := ICalls.wk hw.len hw.get h

/-! ### Tests -/

theorem splitG_f {α : Type} {c : Prop} [Decidable c] {b : Bool} {X Y : Option α} {x : α} {K : Bool → Prop} {sk : Tm → Prop} (h : (if c then X else Y) = some x) (e : b = decide c) (h1 : c → X = some x → K true) (h2 : ¬ c → Y = some x → K false) : splitG (.v (.bool b)) K sk tm := by
  subst e
  refine splitG' (fun hc => ?_) (fun hc => ?_)
  · have hc : c := by simpa using hc
    rw [if_pos hc] at h
    simpa [hc] using h1 hc h
  · have hc : ¬ c := by simpa using hc
    rw [if_neg hc] at h
    simpa [hc] using h2 hc h

theorem Gh.nilrow {tm : Tm} {H : IHeap} {d sz : Nat} (h0 : 0 < sz) (hd : tm d = .v (.slice none 0 0)) : Gh tm H (upd tm d (.os H.next 0)) (H.new (.row sz [])) := by
  intro w g s
  have hu := s.upd (w' := w) (H' := H.new (.row sz [])) H.next (.slice none 0 0) (.row sz []) rfl (Nat.le_succ _) (Nat.lt_succ_self _) (Nat.le_refl _) rfl rfl rfl
    (fun b hb => .inr rfl) (fun b hb => by simp [blk] at hb) (.inl rfl) (fun g' m _ => ⟨none, 0, rfl, by simp, by simp [maxN], by simp, h0, .inl ⟨rfl, rfl⟩⟩)
  refine ⟨_, hu.2, hu.1, fun a r i hi => ?_⟩
  show R w _ _ (if i = d then _ else _)
  by_cases e : i = d
  · rw [if_pos e]
    subst e
    have h1 := r i hi
    rw [hd] at h1
    rw [h1.v_eq]
    exact os_of_put (Nat.lt_succ_self _) ⟨none, 0, rfl⟩
  · rw [if_neg e]
    exact (r i hi).mono hu.2

/-! ### Statements -/

theorem IWp_cond_i {α : Type} {c : Prop} [Decidable c] {o : Operand} {X Y : Option α} {r : α} {x y : Code} (h : (if c then X else Y) = some r) (ho : ev tm o = .v (.bool (decide c))) (hN : opd N o = true)
    (h1 : c → X = some r → IWp P N x Q tm H) (h2 : ¬ c → Y = some r → IWp P N y Q tm H) : IWp P N (.cond o x y) Q tm H := by
  refine IWp_cond ho hN (fun e => ?_) (fun e => ?_)
  · have hc : c := by simpa using e
    rw [if_pos hc] at h
    exact h1 hc h
  · have hc : ¬ c := by simpa using e
    rw [if_neg hc] at h
    exact h2 hc h

theorem IWp_cond_t {o : Operand} {x y : Code} (ho : ev tm o = .v (.bool true)) (hN : opd N o = true) (h1 : IWp P N x Q tm H) : IWp P N (.cond o x y) Q tm H := IWp_cond ho hN (fun _ => h1) (fun e => by cases e)

theorem IWp_cond_f {o : Operand} {x y : Code} (ho : ev tm o = .v (.bool false)) (hN : opd N o = true) (h1 : IWp P N y Q tm H) : IWp P N (.cond o x y) Q tm H := IWp_cond ho hN (fun e => by cases e) (fun _ => h1)

theorem IWp.up {a : Code} (h : IWp P N a (fun e tm H => ∃ tm1 H1, Gh tm H tm1 H1 ∧ Q e tm1 H1) tm H) : IWp P N a Q tm H := by
  refine ⟨fun rr B w g ac s r hN hB hm => wpIn_mono (h.run rr B w g ac s r hN hB hm) ?_⟩
  rintro e a' w' ⟨tm', g', H', h1, h2, h3, h4, h5, h6, tm1, H1, hg, hq⟩
  obtain ⟨g2, m2, s2, r2⟩ := hg w' g' h2
  exact ⟨tm1, g2, H1, h1.tr m2 s h2, s2, r2 _ h3, h4, h5.mono m2, h6, hq⟩

theorem IWp_tailC {a : Code} (J : Tm → IHeap → Prop) (hJ : ∀ tm H, J tm H → Q .normal tm H) (h : ∀ K', (∀ tm H, UpI J tm H → K' tm H) → IWp P N a (thenQ K' Q) tm H) : IWp P N a Q tm H := by
  refine IWp.up ((h (UpI J) fun _ _ h => h).mono fun e tm H hq => ?_)
  cases e with
  | normal => obtain ⟨tm1, H1, h1, h2⟩ := hq; exact ⟨tm1, H1, h1, hJ _ _ h2⟩
  | _ => exact ⟨tm, H, .refl _ _, hq⟩

/-! ### Ends -/

section

variable {H0 : IHeap} {K : IEnd → IHeap → Prop}

theorem retG_pureE {r r' : IV} (he : Ext H0 H) (e : r' = r) (hn : NB H0.next r) (h : K (.ret r) H0) : retG r' H0 K H := by subst e; exact retG_pure he hn h

theorem retG_fzE {r r' r2 : IV} {J : IHeap} (he : EndH H0 H J) (e : r2 = r') (hf : Fz H J r r2) (h : K (.ret r') J) : retG r H0 K H := by subst e; exact retG_fz he hf h

end

@[go_sem] theorem take_map_all {α β : Type} {l : List α} {f : α → β} {n : Nat} (h : l.length ≤ n) : (l.map f).take n = l.map f := List.take_of_length_le (by simpa using h)

/-! ### The named memory, at other names -/

@[go_sem high] theorem new_obj_ne {H : IHeap} {o : HO} {i : Nat} (h : ¬ i = H.next) : (H.new o).obj i = H.obj i := by simp [IHeap.new, h]

@[go_sem high] theorem set_obj_ne {H : IHeap} {k i : Nat} {o : HO} (h : ¬ i = k) : (H.set k o).obj i = H.obj i := by simp [IHeap.set, h]

end Go.Idl

namespace Go.Idl

open Go Go.Proofs.Tryz

/-! cardcase/cardcaselaw16.texts -/

noncomputable def F7_k8  : Option Bool :=
  some true

noncomputable def F7_b8 (l : List (List UInt8)) (v9 : Int) : Option (Int ⊕ (Unit ⊕ Bool)) :=
  if v9 < (l.length : Int) then (gd (0 ≤ v9 ∧ v9 < l.length) (if 400 < (((l.getD v9.toNat []).length : Int)) then (some (.inr (.inr false))) else (some (.inl (IntKind.i64.wrap (v9 + 1)))))) else (some (.inr (.inl ())))

noncomputable def F7 (l : List (List UInt8)) : Option Bool :=
  if 20 < (l.length : Int) then (some false) else ((loopO (fun (s : Int) => F7_b8 l s) 0).bind fun y => Sum.elim (fun (e : Unit) => F7_k8) (fun (q : Bool) => some q) y)

set_option maxHeartbeats 8000000 in
set_option pp.deepTerms false in
set_option maxRecDepth 8000 in
theorem F7_ok {H : IHeap} {K : IEnd → IHeap → Prop} (l : List (List UInt8)) {r : Bool} (h : F7 l = some r) (hK : K (.ret (.v (.bool r))) H) : ICalls prog 14 [.sl 1 (l.map fun x => [.v (str x)])] H K := by
  refine ICalls_iwp (N := 19) func14 (by kernel_rfl) rfl (by kernel_rfl) (by kernel_rfl) fun cb hcb hw hbd hnb => ?_
  clear hbd hnb
  subst hcb
  unfold F7 at h
  refine IWp_seqF fun cb hc1 => ?_
  refine vc_sound _ (by kernel_rfl) _ _ _ ?_
  simp -implicitDefEqProofs (maxSteps := 1000000) (disch := omega) [go_sem]
  subst hc1
  refine IWp_seqF fun cb hc2 => ?_
  refine IWp_seqF fun cb hc3 => ?_
  refine vc_sound _ (by kernel_rfl) _ _ _ ?_
  simp -implicitDefEqProofs (maxSteps := 1000000) (disch := omega) [go_sem]
  subst hc3
  refine IWp_cond_i h (by first | with_reducible rfl | (simp -implicitDefEqProofs (maxSteps := 1000000) (disch := omega) [go_sem] <;> omega)) rfl ?_ ?_
  · intro c4 h
    try simp -implicitDefEqProofs (disch := omega) at c4
    refine IWp_seqF fun cb hc5 => ?_
    refine vc_sound _ (by kernel_rfl) _ _ _ ?_
    simp -implicitDefEqProofs (maxSteps := 1000000) (disch := omega) [go_sem]
    subst hc5
    refine vc_sound _ (by kernel_rfl) _ _ _ ?_
    simp -implicitDefEqProofs only [go_sem]
    have er := Option.some.inj h
    subst er
    simp -implicitDefEqProofs (maxSteps := 1000000) (disch := omega) [go_sem]
    refine retG_pureE (by repeat (first | exact (Ext.refl hw) | refine Ext.new ?_ _ | refine Ext.set ?_ (by first | omega | (simp [go_sem]; omega)) _ | refine Ext.del ?_ (by first | omega | (simp [go_sem]; omega)))) (by first | with_reducible rfl | (simp -implicitDefEqProofs (maxSteps := 1000000) (disch := omega) [go_sem] <;> omega)) ?_ hK
    simp [NB_v, NB_sl, NB_ag, NB_tu]
  · intro c4 h
    try simp -implicitDefEqProofs (disch := omega) at c4
    refine vc_sound _ (by kernel_rfl) _ _ _ ?_
    simp -implicitDefEqProofs only [go_sem]
    subst hc2
    refine IWp_seqF fun cb hc6 => ?_
    refine IWp_seqF fun cb hc7 => ?_
    refine vc_sound _ (by kernel_rfl) _ _ _ ?_
    simp -implicitDefEqProofs (maxSteps := 1000000) (disch := omega) [go_sem]
    subst hc7
    obtain ⟨y8, hl8q, hk8⟩ := bind_some' h
    refine IWp_tailC (fun tm' H' => .inl () = y8 ∧ H = H') ?_ fun cb hc8 => ?_
    · rintro tm8e H8e ⟨rfl, rfl⟩
      have h : F7_k8 = some r := hk8
      unfold F7_k8 at h
      simp -implicitDefEqProofs only [go_sem]
      subst hc6
      refine IWp_seqF fun cb hc10 => ?_
      refine vc_sound _ (by kernel_rfl) _ _ _ ?_
      simp -implicitDefEqProofs (maxSteps := 1000000) (disch := omega) [go_sem]
      subst hc10
      refine vc_sound _ (by kernel_rfl) _ _ _ ?_
      simp -implicitDefEqProofs only [go_sem]
      have er := Option.some.inj h
      subst er
      simp -implicitDefEqProofs (maxSteps := 1000000) (disch := omega) [go_sem]
      refine retG_pureE (by repeat (first | exact (Ext.refl hw) | refine Ext.new ?_ _ | refine Ext.set ?_ (by first | omega | (simp [go_sem]; omega)) _ | refine Ext.del ?_ (by first | omega | (simp [go_sem]; omega)))) (by first | with_reducible rfl | (simp -implicitDefEqProofs (maxSteps := 1000000) (disch := omega) [go_sem] <;> omega)) ?_ hK
      simp [NB_v, NB_sl, NB_ag, NB_tu]
    · refine IWp_block ?_
      refine IWp_loopF (fun (s : Int) tm' H' => H = H' ∧ tm' 0 = .sl 1 (l.map fun x => [.v (str x)]) ∧ tm' 3 = .v (.int .i64 s)) hl8q ?_ ?_
      · refine .same ⟨rfl, by first | with_reducible rfl | assumption | omega | (simp -implicitDefEqProofs (maxSteps := 1000000) (disch := omega) [go_sem] <;> omega), by first | with_reducible rfl | assumption | omega | (simp -implicitDefEqProofs (maxSteps := 1000000) (disch := omega) [go_sem] <;> omega)⟩
      · rintro I8 hI8 v9 x8 tm8 H8 ⟨rfl, t0_8, t3_8⟩ h hret8
        replace h : F7_b8 l v9 = some x8 := h
        unfold F7_b8 at h
        refine IWp_seqF fun cb hc11 => ?_
        refine IWp_seqF fun cb hc12 => ?_
        refine vc_sound _ (by kernel_rfl) _ _ _ ?_
        simp -implicitDefEqProofs (maxSteps := 1000000) (disch := omega) [go_sem, t0_8, t3_8]
        subst hc12
        refine IWp_cond_i h (by first | with_reducible rfl | (simp -implicitDefEqProofs (maxSteps := 1000000) (disch := omega) [go_sem, t0_8, t3_8] <;> omega)) rfl ?_ ?_
        · intro c13 h
          try simp -implicitDefEqProofs (disch := omega) at c13
          refine vc_sound _ (by kernel_rfl) _ _ _ ?_
          simp -implicitDefEqProofs only [go_sem]
          subst hc11
          refine IWp_seqF fun cb hc14 => ?_
          refine IWp_block ?_
          refine IWp_seqF fun cb hc15 => ?_
          refine vc_sound _ (by kernel_rfl) _ _ _ ?_
          obtain ⟨g16, h⟩ := gd_some.1 h
          try simp -implicitDefEqProofs (disch := omega) at g16
          simp -implicitDefEqProofs (maxSteps := 1000000) (disch := omega) [go_sem, t0_8, t3_8]
          subst hc15
          refine IWp_cond_i h (by first | with_reducible rfl | (simp -implicitDefEqProofs (maxSteps := 1000000) (disch := omega) [go_sem, t0_8, t3_8] <;> omega)) rfl ?_ ?_
          · intro c17 h
            try simp -implicitDefEqProofs (disch := omega) at c17
            refine IWp_seqF fun cb hc18 => ?_
            refine vc_sound _ (by kernel_rfl) _ _ _ ?_
            simp -implicitDefEqProofs (maxSteps := 1000000) (disch := omega) [go_sem, t0_8, t3_8]
            subst hc18
            refine vc_sound _ (by kernel_rfl) _ _ _ ?_
            simp -implicitDefEqProofs only [go_sem]
            have e8 := Option.some.inj h
            subst e8
            have e8 := hret8 _ rfl
            subst e8
            replace h : some false = some r := hk8
            have er := Option.some.inj h
            subst er
            simp -implicitDefEqProofs (maxSteps := 1000000) (disch := omega) [go_sem, t0_8, t3_8]
            refine retG_pureE (by repeat (first | exact (Ext.refl hw) | refine Ext.new ?_ _ | refine Ext.set ?_ (by first | omega | (simp [go_sem]; omega)) _ | refine Ext.del ?_ (by first | omega | (simp [go_sem]; omega)))) (by first | with_reducible rfl | (simp -implicitDefEqProofs (maxSteps := 1000000) (disch := omega) [go_sem, t0_8, t3_8] <;> omega)) ?_ hK
            simp [NB_v, NB_sl, NB_ag, NB_tu]
          · intro c17 h
            try simp -implicitDefEqProofs (disch := omega) at c17
            refine vc_sound _ (by kernel_rfl) _ _ _ ?_
            simp -implicitDefEqProofs only [go_sem]
            subst hc14
            refine vc_sound _ (by kernel_rfl) _ _ _ ?_
            simp -implicitDefEqProofs (maxSteps := 1000000) (disch := omega) [go_sem, t0_8, t3_8]
            have e8 := Option.some.inj h
            subst e8
            refine loopN_mk hI8 (IntKind.i64.wrap (v9 + 1)) ?_
            refine .same ⟨rfl, by first | with_reducible rfl | assumption | omega | (simp -implicitDefEqProofs (maxSteps := 1000000) (disch := omega) [go_sem, t0_8, t3_8] <;> omega), by first | with_reducible rfl | assumption | omega | (simp -implicitDefEqProofs (maxSteps := 1000000) (disch := omega) [go_sem, t0_8, t3_8] <;> omega)⟩
        · intro c13 h
          try simp -implicitDefEqProofs (disch := omega) at c13
          refine vc_sound _ (by kernel_rfl) _ _ _ ?_
          simp -implicitDefEqProofs only [go_sem]
          have e8 := Option.some.inj h
          subst e8
          have hy8 := hret8 _ rfl
          refine hc8 _ _ ?_
          refine .same ⟨hy8, rfl⟩

/-! cardcase/cardcaselaw16.light -/

noncomputable def F6_k4  : Option Bool :=
  some true

noncomputable def F6_b4 (c : List (List (List UInt8))) (v5 : Int) : Option (Int ⊕ (Unit ⊕ Bool)) :=
  if v5 < 8 then (gd (0 ≤ v5 ∧ v5 < 8) (gd (c.length = 8) ((F7 (c.getD v5.toNat [])).bind fun (x14 : Bool) => if ¬ (x14 = true) then (some (.inr (.inr false))) else (some (.inl (IntKind.i64.wrap (v5 + 1))))))) else (some (.inr (.inl ())))

noncomputable def F6 (c : List (List (List UInt8))) : Option Bool :=
  (loopO (fun (s : Int) => F6_b4 c s) 0).bind fun y => Sum.elim (fun (e : Unit) => F6_k4) (fun (q : Bool) => some q) y

set_option maxHeartbeats 8000000 in
set_option pp.deepTerms false in
set_option maxRecDepth 8000 in
theorem F6_ok {H : IHeap} {K : IEnd → IHeap → Prop} (c : List (List (List UInt8))) {r : Bool} (h : F6 c = some r) (hK : K (.ret (.v (.bool r))) H) : ICalls prog 5 [.ag (c.map fun x => .sl 1 (x.map fun x => [.v (str x)]))] H K := by
  refine ICalls_iwp (N := 13) func5 (by kernel_rfl) rfl (by kernel_rfl) (by kernel_rfl) fun cb hcb hw hbd hnb => ?_
  clear hbd hnb
  subst hcb
  unfold F6 at h
  refine IWp_seqF fun cb hc1 => ?_
  refine vc_sound _ (by kernel_rfl) _ _ _ ?_
  simp -implicitDefEqProofs (maxSteps := 1000000) (disch := omega) [go_sem]
  subst hc1
  refine IWp_seqF fun cb hc2 => ?_
  refine IWp_seqF fun cb hc3 => ?_
  refine vc_sound _ (by kernel_rfl) _ _ _ ?_
  simp -implicitDefEqProofs (maxSteps := 1000000) (disch := omega) [go_sem]
  subst hc3
  obtain ⟨y4, hl4q, hk4⟩ := bind_some' h
  refine IWp_tailC (fun tm' H' => .inl () = y4 ∧ Ext H H' ∧ H.next + 1 ≤ H'.next ∧ H'.obj H.next = some (.cells (c.map fun x => .sl 1 (x.map fun x => [.v (str x)])))) ?_ fun cb hc4 => ?_
  · rintro tm4e H4e ⟨rfl, he4e, hl4e, ob0_4e⟩
    have h : F6_k4 = some r := hk4
    unfold F6_k4 at h
    simp -implicitDefEqProofs only [go_sem]
    subst hc2
    refine IWp_seqF fun cb hc6 => ?_
    refine vc_sound _ (by kernel_rfl) _ _ _ ?_
    simp -implicitDefEqProofs (maxSteps := 1000000) (disch := omega) [go_sem, ob0_4e]
    subst hc6
    refine vc_sound _ (by kernel_rfl) _ _ _ ?_
    simp -implicitDefEqProofs only [go_sem]
    have er := Option.some.inj h
    subst er
    simp -implicitDefEqProofs (maxSteps := 1000000) (disch := omega) [go_sem, ob0_4e]
    refine retG_pureE (by repeat (first | exact he4e | refine Ext.new ?_ _ | refine Ext.set ?_ (by first | omega | (simp [go_sem]; omega)) _ | refine Ext.del ?_ (by first | omega | (simp [go_sem]; omega)))) (by first | with_reducible rfl | (simp -implicitDefEqProofs (maxSteps := 1000000) (disch := omega) [go_sem, ob0_4e] <;> omega)) ?_ hK
    simp [NB_v, NB_sl, NB_ag, NB_tu]
  · refine IWp_block ?_
    refine IWp_loopF (fun (s : Int) tm' H' => Ext H H' ∧ H.next + 1 ≤ H'.next ∧ tm' 1 = .p H.next 0 ∧ tm' 3 = .v (.int .i64 s) ∧ H'.obj H.next = some (.cells (c.map fun x => .sl 1 (x.map fun x => [.v (str x)])))) hl4q ?_ ?_
    · refine .same ⟨by repeat (first | exact (Ext.refl hw) | refine Ext.new ?_ _ | refine Ext.set ?_ (by first | omega | (simp [go_sem]; omega)) _ | refine Ext.del ?_ (by first | omega | (simp [go_sem]; omega))), by first | with_reducible rfl | assumption | omega | (simp -implicitDefEqProofs (maxSteps := 1000000) (disch := omega) [go_sem] <;> omega), by first | with_reducible rfl | assumption | omega | (simp -implicitDefEqProofs (maxSteps := 1000000) (disch := omega) [go_sem] <;> omega), by first | with_reducible rfl | assumption | omega | (simp -implicitDefEqProofs (maxSteps := 1000000) (disch := omega) [go_sem] <;> omega), by first | with_reducible rfl | assumption | omega | (simp -implicitDefEqProofs (maxSteps := 1000000) (disch := omega) [go_sem] <;> omega)⟩
    · rintro I4 hI4 v5 x4 tm4 H4 ⟨he4, hl4, t1_4, t3_4, ob0_4⟩ h hret4
      replace h : F6_b4 c v5 = some x4 := h
      unfold F6_b4 at h
      refine IWp_seqF fun cb hc7 => ?_
      refine IWp_seqF fun cb hc8 => ?_
      refine vc_sound _ (by kernel_rfl) _ _ _ ?_
      simp -implicitDefEqProofs (maxSteps := 1000000) (disch := omega) [go_sem, t1_4, t3_4, ob0_4]
      subst hc8
      refine IWp_cond_i h (by first | with_reducible rfl | (simp -implicitDefEqProofs (maxSteps := 1000000) (disch := omega) [go_sem, t1_4, t3_4, ob0_4] <;> omega)) rfl ?_ ?_
      · intro c9 h
        try simp -implicitDefEqProofs (disch := omega) at c9
        refine vc_sound _ (by kernel_rfl) _ _ _ ?_
        simp -implicitDefEqProofs only [go_sem]
        subst hc7
        refine IWp_seqF fun cb hc10 => ?_
        refine IWp_block ?_
        refine IWp_seqF fun cb hc11 => ?_
        refine vc_sound _ (by kernel_rfl) _ _ _ ?_
        obtain ⟨g12, h⟩ := gd_some.1 h
        try simp -implicitDefEqProofs (disch := omega) at g12
        obtain ⟨g13, h⟩ := gd_some.1 h
        try simp -implicitDefEqProofs (disch := omega) at g13
        simp -implicitDefEqProofs (maxSteps := 1000000) (disch := omega) [go_sem, t1_4, t3_4, ob0_4, g13]
        obtain ⟨x14, hx14, h⟩ := bind_some' h
        refine ICalls.eqA (args' := [.sl 1 ((c.getD v5.toNat []).map fun x => [.v (str x)])]) (by first | with_reducible rfl | (simp -implicitDefEqProofs (maxSteps := 1000000) (disch := omega) [go_sem, t1_4, t3_4, ob0_4, g13] <;> omega)) (F7_ok (c.getD v5.toNat []) hx14 ?_)
        simp -implicitDefEqProofs (maxSteps := 1000000) (disch := omega) [go_sem, t1_4, t3_4, ob0_4, g13]
        subst hc11
        refine IWp_cond_i h (by first | with_reducible rfl | (simp -implicitDefEqProofs (maxSteps := 1000000) (disch := omega) [go_sem, t1_4, t3_4, ob0_4, g13] <;> omega)) rfl ?_ ?_
        · intro c15 h
          try simp -implicitDefEqProofs (disch := omega) at c15
          refine IWp_seqF fun cb hc16 => ?_
          refine vc_sound _ (by kernel_rfl) _ _ _ ?_
          simp -implicitDefEqProofs (maxSteps := 1000000) (disch := omega) [go_sem, t1_4, t3_4, ob0_4, g13]
          subst hc16
          refine vc_sound _ (by kernel_rfl) _ _ _ ?_
          simp -implicitDefEqProofs only [go_sem]
          have e4 := Option.some.inj h
          subst e4
          have e4 := hret4 _ rfl
          subst e4
          replace h : some false = some r := hk4
          have er := Option.some.inj h
          subst er
          simp -implicitDefEqProofs (maxSteps := 1000000) (disch := omega) [go_sem, t1_4, t3_4, ob0_4, g13]
          refine retG_pureE (by repeat (first | exact he4 | refine Ext.new ?_ _ | refine Ext.set ?_ (by first | omega | (simp [go_sem]; omega)) _ | refine Ext.del ?_ (by first | omega | (simp [go_sem]; omega)))) (by first | with_reducible rfl | (simp -implicitDefEqProofs (maxSteps := 1000000) (disch := omega) [go_sem, t1_4, t3_4, ob0_4, g13] <;> omega)) ?_ hK
          simp [NB_v, NB_sl, NB_ag, NB_tu]
        · intro c15 h
          try simp -implicitDefEqProofs (disch := omega) at c15
          refine vc_sound _ (by kernel_rfl) _ _ _ ?_
          simp -implicitDefEqProofs only [go_sem]
          subst hc10
          refine vc_sound _ (by kernel_rfl) _ _ _ ?_
          simp -implicitDefEqProofs (maxSteps := 1000000) (disch := omega) [go_sem, t1_4, t3_4, ob0_4, g13]
          have e4 := Option.some.inj h
          subst e4
          refine loopN_mk hI4 (IntKind.i64.wrap (v5 + 1)) ?_
          refine .same ⟨by repeat (first | exact he4 | refine Ext.new ?_ _ | refine Ext.set ?_ (by first | omega | (simp [go_sem]; omega)) _ | refine Ext.del ?_ (by first | omega | (simp [go_sem]; omega))), by first | with_reducible rfl | assumption | omega | (simp -implicitDefEqProofs (maxSteps := 1000000) (disch := omega) [go_sem, t1_4, t3_4, ob0_4, g13] <;> omega), by first | with_reducible rfl | assumption | omega | (simp -implicitDefEqProofs (maxSteps := 1000000) (disch := omega) [go_sem, t1_4, t3_4, ob0_4, g13] <;> omega), by first | with_reducible rfl | assumption | omega | (simp -implicitDefEqProofs (maxSteps := 1000000) (disch := omega) [go_sem, t1_4, t3_4, ob0_4, g13] <;> omega), by first | with_reducible rfl | assumption | omega | (simp -implicitDefEqProofs (maxSteps := 1000000) (disch := omega) [go_sem, t1_4, t3_4, ob0_4, g13] <;> omega)⟩
      · intro c9 h
        try simp -implicitDefEqProofs (disch := omega) at c9
        refine vc_sound _ (by kernel_rfl) _ _ _ ?_
        simp -implicitDefEqProofs only [go_sem]
        have e4 := Option.some.inj h
        subst e4
        have hy4 := hret4 _ rfl
        refine hc4 _ _ ?_
        refine .same ⟨hy4, by repeat (first | exact he4 | refine Ext.new ?_ _ | refine Ext.set ?_ (by first | omega | (simp [go_sem]; omega)) _ | refine Ext.del ?_ (by first | omega | (simp [go_sem]; omega))), by first | with_reducible rfl | assumption | omega | (simp -implicitDefEqProofs (maxSteps := 1000000) (disch := omega) [go_sem, t1_4, t3_4, ob0_4] <;> omega), by first | with_reducible rfl | assumption | omega | (simp -implicitDefEqProofs (maxSteps := 1000000) (disch := omega) [go_sem, t1_4, t3_4, ob0_4] <;> omega)⟩

/-! cardcase/cardcaseref16.most -/

noncomputable def F40 (f : Int) : Option Int :=
  if 6 ≤ f then (some 8) else (some 1)

set_option maxHeartbeats 8000000 in
set_option pp.deepTerms false in
set_option maxRecDepth 8000 in
theorem F40_ok {H : IHeap} {K : IEnd → IHeap → Prop} (f : Int) {r : Int} (h : F40 f = some r) (hK : K (.ret (.v (.int .i64 r))) H) : ICalls prog 45 [.v (.int .i64 f)] H K := by
  refine ICalls_iwp (N := 5) func45 (by kernel_rfl) rfl (by kernel_rfl) (by kernel_rfl) fun cb hcb hw hbd hnb => ?_
  clear hbd hnb
  subst hcb
  unfold F40 at h
  refine IWp_seqF fun cb hc1 => ?_
  refine vc_sound _ (by kernel_rfl) _ _ _ ?_
  simp -implicitDefEqProofs (maxSteps := 1000000) (disch := omega) [go_sem]
  subst hc1
  refine IWp_seqF fun cb hc2 => ?_
  refine IWp_seqF fun cb hc3 => ?_
  refine vc_sound _ (by kernel_rfl) _ _ _ ?_
  simp -implicitDefEqProofs (maxSteps := 1000000) (disch := omega) [go_sem]
  subst hc3
  refine IWp_cond_i h (by first | with_reducible rfl | (simp -implicitDefEqProofs (maxSteps := 1000000) (disch := omega) [go_sem] <;> omega)) rfl ?_ ?_
  · intro c4 h
    try simp -implicitDefEqProofs (disch := omega) at c4
    refine IWp_seqF fun cb hc5 => ?_
    refine vc_sound _ (by kernel_rfl) _ _ _ ?_
    simp -implicitDefEqProofs (maxSteps := 1000000) (disch := omega) [go_sem]
    subst hc5
    refine vc_sound _ (by kernel_rfl) _ _ _ ?_
    simp -implicitDefEqProofs only [go_sem]
    have er := Option.some.inj h
    subst er
    simp -implicitDefEqProofs (maxSteps := 1000000) (disch := omega) [go_sem]
    refine retG_pureE (by repeat (first | exact (Ext.refl hw) | refine Ext.new ?_ _ | refine Ext.set ?_ (by first | omega | (simp [go_sem]; omega)) _ | refine Ext.del ?_ (by first | omega | (simp [go_sem]; omega)))) (by first | with_reducible rfl | (simp -implicitDefEqProofs (maxSteps := 1000000) (disch := omega) [go_sem] <;> omega)) ?_ hK
    simp [NB_v, NB_sl, NB_ag, NB_tu]
  · intro c4 h
    try simp -implicitDefEqProofs (disch := omega) at c4
    refine vc_sound _ (by kernel_rfl) _ _ _ ?_
    simp -implicitDefEqProofs only [go_sem]
    subst hc2
    refine IWp_seqF fun cb hc6 => ?_
    refine vc_sound _ (by kernel_rfl) _ _ _ ?_
    simp -implicitDefEqProofs (maxSteps := 1000000) (disch := omega) [go_sem]
    subst hc6
    refine vc_sound _ (by kernel_rfl) _ _ _ ?_
    simp -implicitDefEqProofs only [go_sem]
    have er := Option.some.inj h
    subst er
    simp -implicitDefEqProofs (maxSteps := 1000000) (disch := omega) [go_sem]
    refine retG_pureE (by repeat (first | exact (Ext.refl hw) | refine Ext.new ?_ _ | refine Ext.set ?_ (by first | omega | (simp [go_sem]; omega)) _ | refine Ext.del ?_ (by first | omega | (simp [go_sem]; omega)))) (by first | with_reducible rfl | (simp -implicitDefEqProofs (maxSteps := 1000000) (disch := omega) [go_sem] <;> omega)) ?_ hK
    simp [NB_v, NB_sl, NB_ag, NB_tu]

/-! cardcase/cardcaseref16.Values -/

noncomputable def F24_k5  : Option Bool :=
  some true

noncomputable def F24_k14 (v6 : Int) : Option (Int ⊕ (Unit ⊕ Bool)) :=
  some (.inl (IntKind.i64.wrap (v6 + 1)))

noncomputable def F24_b14 (f : Int) (l : List (List UInt8)) (v6 : Int) (v15 : Int) : Option (Int ⊕ (Unit ⊕ Bool)) :=
  gd (0 ≤ v6 ∧ v6 < l.length) (if v15 < (((l.getD v6.toNat []).length : Int)) then (gd (0 ≤ v15 ∧ v15 < (l.getD v6.toNat []).length) (if ((((l.getD v6.toNat []).getD v15.toNat 0).toNat : Int)) < 32 then (if ¬ ((((l.getD v6.toNat []).getD v15.toNat 0).toNat : Int)) = 10 then (some (.inr (.inr false))) else (if ¬ f = 5 then (some (.inr (.inr false))) else (some (.inl (IntKind.i64.wrap (v15 + 1)))))) else (some (.inl (IntKind.i64.wrap (v15 + 1)))))) else (some (.inr (.inl ()))))

noncomputable def F24_k12 (f : Int) (l : List (List UInt8)) (v6 : Int) : Option (Int ⊕ (Unit ⊕ Bool)) :=
  (loopO (fun (s : Int) => F24_b14 f l v6 s) 0).bind fun y => Sum.elim (fun (e : Unit) => F24_k14 v6) (fun (q : Bool) => some (.inr (.inr q))) y

noncomputable def F24_b5 (f : Int) (l : List (List UInt8)) (v6 : Int) : Option (Int ⊕ (Unit ⊕ Bool)) :=
  if v6 < (l.length : Int) then (gd (0 ≤ v6 ∧ v6 < l.length) (if (((l.getD v6.toNat []).length : Int)) < 1 then (some (.inr (.inr false))) else (if 200 < (((l.getD v6.toNat []).length : Int)) then (some (.inr (.inr false))) else (if 0 < v6 then (gd (0 ≤ (IntKind.i64.wrap (v6 - 1)) ∧ (IntKind.i64.wrap (v6 - 1)) < l.length) (if ¬ Op.bytesLess (l.getD (IntKind.i64.wrap (v6 - 1)).toNat []) (l.getD v6.toNat []) = true then (some (.inr (.inr false))) else (F24_k12 f l v6))) else (F24_k12 f l v6))))) else (some (.inr (.inl ())))

noncomputable def F24_k2 (f : Int) (l : List (List UInt8)) : Option Bool :=
  (loopO (fun (s : Int) => F24_b5 f l s) 0).bind fun y => Sum.elim (fun (e : Unit) => F24_k5) (fun (q : Bool) => some q) y

noncomputable def F24 (f : Int) (l : List (List UInt8)) : Option Bool :=
  (F40 f).bind fun (x40 : Int) => if x40 < (l.length : Int) then (some false) else (if f = 0 then (if ¬ (l.length : Int) = 1 then (some false) else (F24_k2 f l)) else (F24_k2 f l))

set_option maxHeartbeats 8000000 in
set_option pp.deepTerms false in
set_option maxRecDepth 8000 in
theorem F24_ok {H : IHeap} {K : IEnd → IHeap → Prop} (f : Int) (l : List (List UInt8)) {r : Bool} (h : F24 f l = some r) (hK : K (.ret (.v (.bool r))) H) : ICalls prog 22 [.v (.int .i64 f), .sl 1 (l.map fun x => [.v (str x)])] H K := by
  refine ICalls_iwp (N := 83) func22 (by kernel_rfl) rfl (by kernel_rfl) (by kernel_rfl) fun cb hcb hw hbd hnb => ?_
  clear hbd hnb
  subst hcb
  unfold F24 at h
  refine IWp_seqF fun cb hc1 => ?_
  refine vc_sound _ (by kernel_rfl) _ _ _ ?_
  simp -implicitDefEqProofs (maxSteps := 1000000) (disch := omega) [go_sem]
  subst hc1
  refine IWp_seqC (fun tm' H' => H = H' ∧ tm' 0 = .v (.int .i64 f) ∧ tm' 1 = .sl 1 (l.map fun x => [.v (str x)]) ∧ F24_k2 f l = some r) ?_ fun cb hc2 => ?_
  · rintro tm2 H2 ⟨rfl, t0_2, t1_2, h⟩
    unfold F24_k2 at h
    refine IWp_seqF fun cb hc3 => ?_
    refine IWp_seqF fun cb hc4 => ?_
    refine vc_sound _ (by kernel_rfl) _ _ _ ?_
    simp -implicitDefEqProofs (maxSteps := 1000000) (disch := omega) [go_sem, t0_2, t1_2]
    subst hc4
    obtain ⟨y5, hl5q, hk5⟩ := bind_some' h
    refine IWp_tailC (fun tm' H' => .inl () = y5 ∧ H = H') ?_ fun cb hc5 => ?_
    · rintro tm5e H5e ⟨rfl, rfl⟩
      have h : F24_k5 = some r := hk5
      unfold F24_k5 at h
      simp -implicitDefEqProofs only [go_sem]
      subst hc3
      refine IWp_seqF fun cb hc7 => ?_
      refine vc_sound _ (by kernel_rfl) _ _ _ ?_
      simp -implicitDefEqProofs (maxSteps := 1000000) (disch := omega) [go_sem]
      subst hc7
      refine vc_sound _ (by kernel_rfl) _ _ _ ?_
      simp -implicitDefEqProofs only [go_sem]
      have er := Option.some.inj h
      subst er
      simp -implicitDefEqProofs (maxSteps := 1000000) (disch := omega) [go_sem]
      refine retG_pureE (by repeat (first | exact (Ext.refl hw) | refine Ext.new ?_ _ | refine Ext.set ?_ (by first | omega | (simp [go_sem]; omega)) _ | refine Ext.del ?_ (by first | omega | (simp [go_sem]; omega)))) (by first | with_reducible rfl | (simp -implicitDefEqProofs (maxSteps := 1000000) (disch := omega) [go_sem] <;> omega)) ?_ hK
      simp [NB_v, NB_sl, NB_ag, NB_tu]
    · refine IWp_block ?_
      refine IWp_loopF (fun (s : Int) tm' H' => H = H' ∧ tm' 0 = .v (.int .i64 f) ∧ tm' 1 = .sl 1 (l.map fun x => [.v (str x)]) ∧ tm' 5 = .v (.int .i64 s)) hl5q ?_ ?_
      · refine .same ⟨rfl, by first | with_reducible rfl | assumption | omega | (simp -implicitDefEqProofs (maxSteps := 1000000) (disch := omega) [go_sem, t0_2, t1_2] <;> omega), by first | with_reducible rfl | assumption | omega | (simp -implicitDefEqProofs (maxSteps := 1000000) (disch := omega) [go_sem, t0_2, t1_2] <;> omega), by first | with_reducible rfl | assumption | omega | (simp -implicitDefEqProofs (maxSteps := 1000000) (disch := omega) [go_sem, t0_2, t1_2] <;> omega)⟩
      · rintro I5 hI5 v6 x5 tm5 H5 ⟨rfl, t0_5, t1_5, t5_5⟩ h hret5
        replace h : F24_b5 f l v6 = some x5 := h
        unfold F24_b5 at h
        refine IWp_seqF fun cb hc8 => ?_
        refine IWp_seqF fun cb hc9 => ?_
        refine vc_sound _ (by kernel_rfl) _ _ _ ?_
        simp -implicitDefEqProofs (maxSteps := 1000000) (disch := omega) [go_sem, t0_5, t1_5, t5_5]
        subst hc9
        refine IWp_cond_i h (by first | with_reducible rfl | (simp -implicitDefEqProofs (maxSteps := 1000000) (disch := omega) [go_sem, t0_5, t1_5, t5_5] <;> omega)) rfl ?_ ?_
        · intro c10 h
          try simp -implicitDefEqProofs (disch := omega) at c10
          refine vc_sound _ (by kernel_rfl) _ _ _ ?_
          simp -implicitDefEqProofs only [go_sem]
          subst hc8
          refine IWp_seqF fun cb hc11 => ?_
          refine IWp_block ?_
          refine IWp_seqC (fun tm' H' => H = H' ∧ tm' 0 = .v (.int .i64 f) ∧ tm' 1 = .sl 1 (l.map fun x => [.v (str x)]) ∧ tm' 5 = .v (.int .i64 v6) ∧ F24_k12 f l v6 = some x5) ?_ fun cb hc12 => ?_
          · rintro tm12 H12 ⟨rfl, t0_12, t1_12, t5_12, h⟩
            unfold F24_k12 at h
            refine IWp_seqF fun cb hc13 => ?_
            refine vc_sound _ (by kernel_rfl) _ _ _ ?_
            simp -implicitDefEqProofs (maxSteps := 1000000) (disch := omega) [go_sem, t0_12, t1_12, t5_12]
            subst hc13
            obtain ⟨y14, hl14q, hk14⟩ := bind_some' h
            refine IWp_tailC (fun tm' H' => .inl () = y14 ∧ H = H' ∧ tm' 0 = .v (.int .i64 f) ∧ tm' 1 = .sl 1 (l.map fun x => [.v (str x)]) ∧ tm' 5 = .v (.int .i64 v6)) ?_ fun cb hc14 => ?_
            · rintro tm14e H14e ⟨rfl, rfl, t0_14e, t1_14e, t5_14e⟩
              have h : F24_k14 v6 = some x5 := hk14
              unfold F24_k14 at h
              simp -implicitDefEqProofs only [go_sem]
              subst hc11
              refine vc_sound _ (by kernel_rfl) _ _ _ ?_
              simp -implicitDefEqProofs (maxSteps := 1000000) (disch := omega) [go_sem, t0_14e, t1_14e, t5_14e]
              have e5 := Option.some.inj h
              subst e5
              refine loopN_mk hI5 (IntKind.i64.wrap (v6 + 1)) ?_
              refine .same ⟨rfl, by first | with_reducible rfl | assumption | omega | (simp -implicitDefEqProofs (maxSteps := 1000000) (disch := omega) [go_sem, t0_14e, t1_14e, t5_14e] <;> omega), by first | with_reducible rfl | assumption | omega | (simp -implicitDefEqProofs (maxSteps := 1000000) (disch := omega) [go_sem, t0_14e, t1_14e, t5_14e] <;> omega), by first | with_reducible rfl | assumption | omega | (simp -implicitDefEqProofs (maxSteps := 1000000) (disch := omega) [go_sem, t0_14e, t1_14e, t5_14e] <;> omega)⟩
            · refine IWp_block ?_
              refine IWp_loopF (fun (s : Int) tm' H' => H = H' ∧ tm' 0 = .v (.int .i64 f) ∧ tm' 1 = .sl 1 (l.map fun x => [.v (str x)]) ∧ tm' 5 = .v (.int .i64 v6) ∧ tm' 6 = .v (.int .i64 s)) hl14q ?_ ?_
              · refine .same ⟨rfl, by first | with_reducible rfl | assumption | omega | (simp -implicitDefEqProofs (maxSteps := 1000000) (disch := omega) [go_sem, t0_12, t1_12, t5_12] <;> omega), by first | with_reducible rfl | assumption | omega | (simp -implicitDefEqProofs (maxSteps := 1000000) (disch := omega) [go_sem, t0_12, t1_12, t5_12] <;> omega), by first | with_reducible rfl | assumption | omega | (simp -implicitDefEqProofs (maxSteps := 1000000) (disch := omega) [go_sem, t0_12, t1_12, t5_12] <;> omega), by first | with_reducible rfl | assumption | omega | (simp -implicitDefEqProofs (maxSteps := 1000000) (disch := omega) [go_sem, t0_12, t1_12, t5_12] <;> omega)⟩
              · rintro I14 hI14 v15 x14 tm14 H14 ⟨rfl, t0_14, t1_14, t5_14, t6_14⟩ h hret14
                replace h : F24_b14 f l v6 v15 = some x14 := h
                unfold F24_b14 at h
                refine IWp_seqF fun cb hc16 => ?_
                refine IWp_seqF fun cb hc17 => ?_
                refine vc_sound _ (by kernel_rfl) _ _ _ ?_
                obtain ⟨g18, h⟩ := gd_some.1 h
                try simp -implicitDefEqProofs (disch := omega) at g18
                simp -implicitDefEqProofs (maxSteps := 1000000) (disch := omega) [go_sem, t0_14, t1_14, t5_14, t6_14]
                subst hc17
                refine IWp_cond_i h (by first | with_reducible rfl | (simp -implicitDefEqProofs (maxSteps := 1000000) (disch := omega) [go_sem, t0_14, t1_14, t5_14, t6_14] <;> omega)) rfl ?_ ?_
                · intro c19 h
                  try simp -implicitDefEqProofs (disch := omega) at c19
                  refine vc_sound _ (by kernel_rfl) _ _ _ ?_
                  simp -implicitDefEqProofs only [go_sem]
                  subst hc16
                  refine IWp_seqF fun cb hc20 => ?_
                  refine IWp_block ?_
                  refine IWp_seqF fun cb hc21 => ?_
                  refine vc_sound _ (by kernel_rfl) _ _ _ ?_
                  obtain ⟨g22, h⟩ := gd_some.1 h
                  try simp -implicitDefEqProofs (disch := omega) at g22
                  simp -implicitDefEqProofs (maxSteps := 1000000) (disch := omega) [go_sem, t0_14, t1_14, t5_14, t6_14]
                  subst hc21
                  refine IWp_seqF fun cb hc23 => ?_
                  refine vc_sound _ (by kernel_rfl) _ _ _ ?_
                  simp -implicitDefEqProofs (maxSteps := 1000000) (disch := omega) [go_sem, t0_14, t1_14, t5_14, t6_14]
                  refine splitG_f h (by first | with_reducible rfl | (simp -implicitDefEqProofs (maxSteps := 1000000) (disch := omega) [go_sem, t0_14, t1_14, t5_14, t6_14] <;> omega)) ?_ ?_
                  · intro c28 h
                    try simp -implicitDefEqProofs (disch := omega) at c28
                    simp -implicitDefEqProofs (maxSteps := 1000000) (disch := omega) [go_sem, t0_14, t1_14, t5_14, t6_14]
                    refine splitG_f h (by first | with_reducible rfl | (simp -implicitDefEqProofs (maxSteps := 1000000) (disch := omega) [go_sem, t0_14, t1_14, t5_14, t6_14] <;> omega)) ?_ ?_
                    · intro c27 h
                      try simp -implicitDefEqProofs (disch := omega) at c27
                      simp -implicitDefEqProofs (maxSteps := 1000000) (disch := omega) [go_sem, t0_14, t1_14, t5_14, t6_14]
                      subst hc23
                      refine IWp_cond_t (by first | with_reducible rfl | (simp -implicitDefEqProofs (maxSteps := 1000000) (disch := omega) [go_sem, t0_14, t1_14, t5_14, t6_14] <;> omega)) rfl ?_
                      refine IWp_seqF fun cb hc24 => ?_
                      refine vc_sound _ (by kernel_rfl) _ _ _ ?_
                      simp -implicitDefEqProofs (maxSteps := 1000000) (disch := omega) [go_sem, t0_14, t1_14, t5_14, t6_14]
                      subst hc24
                      refine vc_sound _ (by kernel_rfl) _ _ _ ?_
                      simp -implicitDefEqProofs only [go_sem]
                      have e14 := Option.some.inj h
                      subst e14
                      have e14 := hret14 _ rfl
                      subst e14
                      replace h : some (.inr (.inr false)) = some x5 := hk14
                      have e5 := Option.some.inj h
                      subst e5
                      have e5 := hret5 _ rfl
                      subst e5
                      replace h : some false = some r := hk5
                      have er := Option.some.inj h
                      subst er
                      simp -implicitDefEqProofs (maxSteps := 1000000) (disch := omega) [go_sem, t0_14, t1_14, t5_14, t6_14]
                      refine retG_pureE (by repeat (first | exact (Ext.refl hw) | refine Ext.new ?_ _ | refine Ext.set ?_ (by first | omega | (simp [go_sem]; omega)) _ | refine Ext.del ?_ (by first | omega | (simp [go_sem]; omega)))) (by first | with_reducible rfl | (simp -implicitDefEqProofs (maxSteps := 1000000) (disch := omega) [go_sem, t0_14, t1_14, t5_14, t6_14] <;> omega)) ?_ hK
                      simp [NB_v, NB_sl, NB_ag, NB_tu]
                    · intro c27 h
                      try simp -implicitDefEqProofs (disch := omega) at c27
                      simp -implicitDefEqProofs (maxSteps := 1000000) (disch := omega) [go_sem, t0_14, t1_14, t5_14, t6_14]
                      subst hc23
                      refine IWp_cond_i h (by first | with_reducible rfl | (simp -implicitDefEqProofs (maxSteps := 1000000) (disch := omega) [go_sem, t0_14, t1_14, t5_14, t6_14] <;> omega)) rfl ?_ ?_
                      · intro c25 h
                        try simp -implicitDefEqProofs (disch := omega) at c25
                        refine IWp_seqF fun cb hc26 => ?_
                        refine vc_sound _ (by kernel_rfl) _ _ _ ?_
                        simp -implicitDefEqProofs (maxSteps := 1000000) (disch := omega) [go_sem, t0_14, t1_14, t5_14, t6_14]
                        subst hc26
                        refine vc_sound _ (by kernel_rfl) _ _ _ ?_
                        simp -implicitDefEqProofs only [go_sem]
                        have e14 := Option.some.inj h
                        subst e14
                        have e14 := hret14 _ rfl
                        subst e14
                        replace h : some (.inr (.inr false)) = some x5 := hk14
                        have e5 := Option.some.inj h
                        subst e5
                        have e5 := hret5 _ rfl
                        subst e5
                        replace h : some false = some r := hk5
                        have er := Option.some.inj h
                        subst er
                        simp -implicitDefEqProofs (maxSteps := 1000000) (disch := omega) [go_sem, t0_14, t1_14, t5_14, t6_14]
                        refine retG_pureE (by repeat (first | exact (Ext.refl hw) | refine Ext.new ?_ _ | refine Ext.set ?_ (by first | omega | (simp [go_sem]; omega)) _ | refine Ext.del ?_ (by first | omega | (simp [go_sem]; omega)))) (by first | with_reducible rfl | (simp -implicitDefEqProofs (maxSteps := 1000000) (disch := omega) [go_sem, t0_14, t1_14, t5_14, t6_14] <;> omega)) ?_ hK
                        simp [NB_v, NB_sl, NB_ag, NB_tu]
                      · intro c25 h
                        try simp -implicitDefEqProofs (disch := omega) at c25
                        refine vc_sound _ (by kernel_rfl) _ _ _ ?_
                        simp -implicitDefEqProofs only [go_sem]
                        subst hc20
                        refine vc_sound _ (by kernel_rfl) _ _ _ ?_
                        simp -implicitDefEqProofs (maxSteps := 1000000) (disch := omega) [go_sem, t0_14, t1_14, t5_14, t6_14]
                        have e14 := Option.some.inj h
                        subst e14
                        refine loopN_mk hI14 (IntKind.i64.wrap (v15 + 1)) ?_
                        refine .same ⟨rfl, by first | with_reducible rfl | assumption | omega | (simp -implicitDefEqProofs (maxSteps := 1000000) (disch := omega) [go_sem, t0_14, t1_14, t5_14, t6_14] <;> omega), by first | with_reducible rfl | assumption | omega | (simp -implicitDefEqProofs (maxSteps := 1000000) (disch := omega) [go_sem, t0_14, t1_14, t5_14, t6_14] <;> omega), by first | with_reducible rfl | assumption | omega | (simp -implicitDefEqProofs (maxSteps := 1000000) (disch := omega) [go_sem, t0_14, t1_14, t5_14, t6_14] <;> omega), by first | with_reducible rfl | assumption | omega | (simp -implicitDefEqProofs (maxSteps := 1000000) (disch := omega) [go_sem, t0_14, t1_14, t5_14, t6_14] <;> omega)⟩
                  · intro c28 h
                    try simp -implicitDefEqProofs (disch := omega) at c28
                    simp -implicitDefEqProofs (maxSteps := 1000000) (disch := omega) [go_sem, t0_14, t1_14, t5_14, t6_14]
                    subst hc23
                    refine IWp_cond_f (by first | with_reducible rfl | (simp -implicitDefEqProofs (maxSteps := 1000000) (disch := omega) [go_sem, t0_14, t1_14, t5_14, t6_14] <;> omega)) rfl ?_
                    refine vc_sound _ (by kernel_rfl) _ _ _ ?_
                    simp -implicitDefEqProofs only [go_sem]
                    subst hc20
                    refine vc_sound _ (by kernel_rfl) _ _ _ ?_
                    simp -implicitDefEqProofs (maxSteps := 1000000) (disch := omega) [go_sem, t0_14, t1_14, t5_14, t6_14]
                    have e14 := Option.some.inj h
                    subst e14
                    refine loopN_mk hI14 (IntKind.i64.wrap (v15 + 1)) ?_
                    refine .same ⟨rfl, by first | with_reducible rfl | assumption | omega | (simp -implicitDefEqProofs (maxSteps := 1000000) (disch := omega) [go_sem, t0_14, t1_14, t5_14, t6_14] <;> omega), by first | with_reducible rfl | assumption | omega | (simp -implicitDefEqProofs (maxSteps := 1000000) (disch := omega) [go_sem, t0_14, t1_14, t5_14, t6_14] <;> omega), by first | with_reducible rfl | assumption | omega | (simp -implicitDefEqProofs (maxSteps := 1000000) (disch := omega) [go_sem, t0_14, t1_14, t5_14, t6_14] <;> omega), by first | with_reducible rfl | assumption | omega | (simp -implicitDefEqProofs (maxSteps := 1000000) (disch := omega) [go_sem, t0_14, t1_14, t5_14, t6_14] <;> omega)⟩
                · intro c19 h
                  try simp -implicitDefEqProofs (disch := omega) at c19
                  refine vc_sound _ (by kernel_rfl) _ _ _ ?_
                  simp -implicitDefEqProofs only [go_sem]
                  have e14 := Option.some.inj h
                  subst e14
                  have hy14 := hret14 _ rfl
                  refine hc14 _ _ ?_
                  refine .same ⟨hy14, rfl, by first | with_reducible rfl | assumption | omega | (simp -implicitDefEqProofs (maxSteps := 1000000) (disch := omega) [go_sem, t0_14, t1_14, t5_14, t6_14] <;> omega), by first | with_reducible rfl | assumption | omega | (simp -implicitDefEqProofs (maxSteps := 1000000) (disch := omega) [go_sem, t0_14, t1_14, t5_14, t6_14] <;> omega), by first | with_reducible rfl | assumption | omega | (simp -implicitDefEqProofs (maxSteps := 1000000) (disch := omega) [go_sem, t0_14, t1_14, t5_14, t6_14] <;> omega)⟩
          · refine IWp_seqF fun cb hc29 => ?_
            refine IWp_drawP [] [0, 1, 2, 3, 4, 5, 6, 7, 8, 9, 10, 11, 12, 13, 14, 15, 16, 17, 18, 19, 20, 21, 22, 23, 24, 25, 26, 27, 28, 29] (by kernel_rfl) (by kernel_rfl) (fun _ _ _ _ h => h) ?_
            obtain ⟨g30, h⟩ := gd_some.1 h
            try simp -implicitDefEqProofs (disch := omega) at g30
            simp -implicitDefEqProofs (maxSteps := 1000000) (disch := omega) [go_sem, t0_5, t1_5, t5_5]
            refine splitG_f h (by first | with_reducible rfl | (simp -implicitDefEqProofs (maxSteps := 1000000) (disch := omega) [go_sem, t0_5, t1_5, t5_5] <;> omega)) ?_ ?_
            · intro c38 h
              try simp -implicitDefEqProofs (disch := omega) at c38
              simp -implicitDefEqProofs (maxSteps := 1000000) (disch := omega) [go_sem, t0_5, t1_5, t5_5]
              subst hc29
              refine IWp_cond_t (by first | with_reducible rfl | (simp -implicitDefEqProofs (maxSteps := 1000000) (disch := omega) [go_sem, t0_5, t1_5, t5_5] <;> omega)) rfl ?_
              refine IWp_seqF fun cb hc31 => ?_
              refine vc_sound _ (by kernel_rfl) _ _ _ ?_
              simp -implicitDefEqProofs (maxSteps := 1000000) (disch := omega) [go_sem, t0_5, t1_5, t5_5]
              subst hc31
              refine vc_sound _ (by kernel_rfl) _ _ _ ?_
              simp -implicitDefEqProofs only [go_sem]
              have e5 := Option.some.inj h
              subst e5
              have e5 := hret5 _ rfl
              subst e5
              replace h : some false = some r := hk5
              have er := Option.some.inj h
              subst er
              simp -implicitDefEqProofs (maxSteps := 1000000) (disch := omega) [go_sem, t0_5, t1_5, t5_5]
              refine retG_pureE (by repeat (first | exact (Ext.refl hw) | refine Ext.new ?_ _ | refine Ext.set ?_ (by first | omega | (simp [go_sem]; omega)) _ | refine Ext.del ?_ (by first | omega | (simp [go_sem]; omega)))) (by first | with_reducible rfl | (simp -implicitDefEqProofs (maxSteps := 1000000) (disch := omega) [go_sem, t0_5, t1_5, t5_5] <;> omega)) ?_ hK
              simp [NB_v, NB_sl, NB_ag, NB_tu]
            · intro c38 h
              try simp -implicitDefEqProofs (disch := omega) at c38
              simp -implicitDefEqProofs (maxSteps := 1000000) (disch := omega) [go_sem, t0_5, t1_5, t5_5]
              refine splitG_f h (by first | with_reducible rfl | (simp -implicitDefEqProofs (maxSteps := 1000000) (disch := omega) [go_sem, t0_5, t1_5, t5_5] <;> omega)) ?_ ?_
              · intro c37 h
                try simp -implicitDefEqProofs (disch := omega) at c37
                simp -implicitDefEqProofs (maxSteps := 1000000) (disch := omega) [go_sem, t0_5, t1_5, t5_5]
                subst hc29
                refine IWp_cond_t (by first | with_reducible rfl | (simp -implicitDefEqProofs (maxSteps := 1000000) (disch := omega) [go_sem, t0_5, t1_5, t5_5] <;> omega)) rfl ?_
                refine IWp_seqF fun cb hc32 => ?_
                refine vc_sound _ (by kernel_rfl) _ _ _ ?_
                simp -implicitDefEqProofs (maxSteps := 1000000) (disch := omega) [go_sem, t0_5, t1_5, t5_5]
                subst hc32
                refine vc_sound _ (by kernel_rfl) _ _ _ ?_
                simp -implicitDefEqProofs only [go_sem]
                have e5 := Option.some.inj h
                subst e5
                have e5 := hret5 _ rfl
                subst e5
                replace h : some false = some r := hk5
                have er := Option.some.inj h
                subst er
                simp -implicitDefEqProofs (maxSteps := 1000000) (disch := omega) [go_sem, t0_5, t1_5, t5_5]
                refine retG_pureE (by repeat (first | exact (Ext.refl hw) | refine Ext.new ?_ _ | refine Ext.set ?_ (by first | omega | (simp [go_sem]; omega)) _ | refine Ext.del ?_ (by first | omega | (simp [go_sem]; omega)))) (by first | with_reducible rfl | (simp -implicitDefEqProofs (maxSteps := 1000000) (disch := omega) [go_sem, t0_5, t1_5, t5_5] <;> omega)) ?_ hK
                simp [NB_v, NB_sl, NB_ag, NB_tu]
              · intro c37 h
                try simp -implicitDefEqProofs (disch := omega) at c37
                simp -implicitDefEqProofs (maxSteps := 1000000) (disch := omega) [go_sem, t0_5, t1_5, t5_5]
                refine splitG_f h (by first | with_reducible rfl | (simp -implicitDefEqProofs (maxSteps := 1000000) (disch := omega) [go_sem, t0_5, t1_5, t5_5] <;> omega)) ?_ ?_
                · intro c36 h
                  try simp -implicitDefEqProofs (disch := omega) at c36
                  obtain ⟨g33, h⟩ := gd_some.1 h
                  try simp -implicitDefEqProofs (disch := omega) at g33
                  simp -implicitDefEqProofs (maxSteps := 1000000) (disch := omega) [go_sem, t0_5, t1_5, t5_5]
                  subst hc29
                  refine IWp_cond_i h (by first | with_reducible rfl | (simp -implicitDefEqProofs (maxSteps := 1000000) (disch := omega) [go_sem, t0_5, t1_5, t5_5] <;> omega)) rfl ?_ ?_
                  · intro c34 h
                    try simp -implicitDefEqProofs (disch := omega) at c34
                    refine IWp_seqF fun cb hc35 => ?_
                    refine vc_sound _ (by kernel_rfl) _ _ _ ?_
                    simp -implicitDefEqProofs (maxSteps := 1000000) (disch := omega) [go_sem, t0_5, t1_5, t5_5]
                    subst hc35
                    refine vc_sound _ (by kernel_rfl) _ _ _ ?_
                    simp -implicitDefEqProofs only [go_sem]
                    have e5 := Option.some.inj h
                    subst e5
                    have e5 := hret5 _ rfl
                    subst e5
                    replace h : some false = some r := hk5
                    have er := Option.some.inj h
                    subst er
                    simp -implicitDefEqProofs (maxSteps := 1000000) (disch := omega) [go_sem, t0_5, t1_5, t5_5]
                    refine retG_pureE (by repeat (first | exact (Ext.refl hw) | refine Ext.new ?_ _ | refine Ext.set ?_ (by first | omega | (simp [go_sem]; omega)) _ | refine Ext.del ?_ (by first | omega | (simp [go_sem]; omega)))) (by first | with_reducible rfl | (simp -implicitDefEqProofs (maxSteps := 1000000) (disch := omega) [go_sem, t0_5, t1_5, t5_5] <;> omega)) ?_ hK
                    simp [NB_v, NB_sl, NB_ag, NB_tu]
                  · intro c34 h
                    try simp -implicitDefEqProofs (disch := omega) at c34
                    refine vc_sound _ (by kernel_rfl) _ _ _ ?_
                    simp -implicitDefEqProofs only [go_sem]
                    refine hc12 _ _ ?_
                    refine .same ⟨rfl, by first | with_reducible rfl | assumption | omega | (simp -implicitDefEqProofs (maxSteps := 1000000) (disch := omega) [go_sem, t0_5, t1_5, t5_5] <;> omega), by first | with_reducible rfl | assumption | omega | (simp -implicitDefEqProofs (maxSteps := 1000000) (disch := omega) [go_sem, t0_5, t1_5, t5_5] <;> omega), by first | with_reducible rfl | assumption | omega | (simp -implicitDefEqProofs (maxSteps := 1000000) (disch := omega) [go_sem, t0_5, t1_5, t5_5] <;> omega), h⟩
                · intro c36 h
                  try simp -implicitDefEqProofs (disch := omega) at c36
                  simp -implicitDefEqProofs (maxSteps := 1000000) (disch := omega) [go_sem, t0_5, t1_5, t5_5]
                  subst hc29
                  refine IWp_cond_f (by first | with_reducible rfl | (simp -implicitDefEqProofs (maxSteps := 1000000) (disch := omega) [go_sem, t0_5, t1_5, t5_5] <;> omega)) rfl ?_
                  refine vc_sound _ (by kernel_rfl) _ _ _ ?_
                  simp -implicitDefEqProofs only [go_sem]
                  refine hc12 _ _ ?_
                  refine .same ⟨rfl, by first | with_reducible rfl | assumption | omega | (simp -implicitDefEqProofs (maxSteps := 1000000) (disch := omega) [go_sem, t0_5, t1_5, t5_5] <;> omega), by first | with_reducible rfl | assumption | omega | (simp -implicitDefEqProofs (maxSteps := 1000000) (disch := omega) [go_sem, t0_5, t1_5, t5_5] <;> omega), by first | with_reducible rfl | assumption | omega | (simp -implicitDefEqProofs (maxSteps := 1000000) (disch := omega) [go_sem, t0_5, t1_5, t5_5] <;> omega), h⟩
        · intro c10 h
          try simp -implicitDefEqProofs (disch := omega) at c10
          refine vc_sound _ (by kernel_rfl) _ _ _ ?_
          simp -implicitDefEqProofs only [go_sem]
          have e5 := Option.some.inj h
          subst e5
          have hy5 := hret5 _ rfl
          refine hc5 _ _ ?_
          refine .same ⟨hy5, rfl⟩
  · refine IWp_seqF fun cb hc39 => ?_
    refine vc_sound _ (by kernel_rfl) _ _ _ ?_
    simp -implicitDefEqProofs (maxSteps := 1000000) (disch := omega) [go_sem]
    obtain ⟨x40, hx40, h⟩ := bind_some' h
    refine ICalls.eqA (args' := [.v (.int .i64 f)]) (by first | with_reducible rfl | (simp -implicitDefEqProofs (maxSteps := 1000000) (disch := omega) [go_sem] <;> omega)) (F40_ok f hx40 ?_)
    simp -implicitDefEqProofs (maxSteps := 1000000) (disch := omega) [go_sem]
    refine splitG_f h (by first | with_reducible rfl | (simp -implicitDefEqProofs (maxSteps := 1000000) (disch := omega) [go_sem] <;> omega)) ?_ ?_
    · intro c45 h
      try simp -implicitDefEqProofs (disch := omega) at c45
      simp -implicitDefEqProofs (maxSteps := 1000000) (disch := omega) [go_sem]
      subst hc39
      refine IWp_cond_t (by first | with_reducible rfl | (simp -implicitDefEqProofs (maxSteps := 1000000) (disch := omega) [go_sem] <;> omega)) rfl ?_
      refine IWp_seqF fun cb hc41 => ?_
      refine vc_sound _ (by kernel_rfl) _ _ _ ?_
      simp -implicitDefEqProofs (maxSteps := 1000000) (disch := omega) [go_sem]
      subst hc41
      refine vc_sound _ (by kernel_rfl) _ _ _ ?_
      simp -implicitDefEqProofs only [go_sem]
      have er := Option.some.inj h
      subst er
      simp -implicitDefEqProofs (maxSteps := 1000000) (disch := omega) [go_sem]
      refine retG_pureE (by repeat (first | exact (Ext.refl hw) | refine Ext.new ?_ _ | refine Ext.set ?_ (by first | omega | (simp [go_sem]; omega)) _ | refine Ext.del ?_ (by first | omega | (simp [go_sem]; omega)))) (by first | with_reducible rfl | (simp -implicitDefEqProofs (maxSteps := 1000000) (disch := omega) [go_sem] <;> omega)) ?_ hK
      simp [NB_v, NB_sl, NB_ag, NB_tu]
    · intro c45 h
      try simp -implicitDefEqProofs (disch := omega) at c45
      simp -implicitDefEqProofs (maxSteps := 1000000) (disch := omega) [go_sem]
      refine splitG_f h (by first | with_reducible rfl | (simp -implicitDefEqProofs (maxSteps := 1000000) (disch := omega) [go_sem] <;> omega)) ?_ ?_
      · intro c44 h
        try simp -implicitDefEqProofs (disch := omega) at c44
        simp -implicitDefEqProofs (maxSteps := 1000000) (disch := omega) [go_sem]
        subst hc39
        refine IWp_cond_i h (by first | with_reducible rfl | (simp -implicitDefEqProofs (maxSteps := 1000000) (disch := omega) [go_sem] <;> omega)) rfl ?_ ?_
        · intro c42 h
          try simp -implicitDefEqProofs (disch := omega) at c42
          refine IWp_seqF fun cb hc43 => ?_
          refine vc_sound _ (by kernel_rfl) _ _ _ ?_
          simp -implicitDefEqProofs (maxSteps := 1000000) (disch := omega) [go_sem]
          subst hc43
          refine vc_sound _ (by kernel_rfl) _ _ _ ?_
          simp -implicitDefEqProofs only [go_sem]
          have er := Option.some.inj h
          subst er
          simp -implicitDefEqProofs (maxSteps := 1000000) (disch := omega) [go_sem]
          refine retG_pureE (by repeat (first | exact (Ext.refl hw) | refine Ext.new ?_ _ | refine Ext.set ?_ (by first | omega | (simp [go_sem]; omega)) _ | refine Ext.del ?_ (by first | omega | (simp [go_sem]; omega)))) (by first | with_reducible rfl | (simp -implicitDefEqProofs (maxSteps := 1000000) (disch := omega) [go_sem] <;> omega)) ?_ hK
          simp [NB_v, NB_sl, NB_ag, NB_tu]
        · intro c42 h
          try simp -implicitDefEqProofs (disch := omega) at c42
          refine vc_sound _ (by kernel_rfl) _ _ _ ?_
          simp -implicitDefEqProofs only [go_sem]
          refine hc2 _ _ ?_
          refine .same ⟨rfl, by first | with_reducible rfl | assumption | omega | (simp -implicitDefEqProofs (maxSteps := 1000000) (disch := omega) [go_sem] <;> omega), by first | with_reducible rfl | assumption | omega | (simp -implicitDefEqProofs (maxSteps := 1000000) (disch := omega) [go_sem] <;> omega), h⟩
      · intro c44 h
        try simp -implicitDefEqProofs (disch := omega) at c44
        simp -implicitDefEqProofs (maxSteps := 1000000) (disch := omega) [go_sem]
        subst hc39
        refine IWp_cond_f (by first | with_reducible rfl | (simp -implicitDefEqProofs (maxSteps := 1000000) (disch := omega) [go_sem] <;> omega)) rfl ?_
        refine vc_sound _ (by kernel_rfl) _ _ _ ?_
        simp -implicitDefEqProofs only [go_sem]
        refine hc2 _ _ ?_
        refine .same ⟨rfl, by first | with_reducible rfl | assumption | omega | (simp -implicitDefEqProofs (maxSteps := 1000000) (disch := omega) [go_sem] <;> omega), by first | with_reducible rfl | assumption | omega | (simp -implicitDefEqProofs (maxSteps := 1000000) (disch := omega) [go_sem] <;> omega), h⟩

/-! cardcase/cardcaseref16.Right -/

noncomputable def F10_k4  : Option Bool :=
  some true

noncomputable def F10_b4 (c : List (List (List UInt8))) (v5 : Int) : Option (Int ⊕ (Unit ⊕ Bool)) :=
  if v5 < 8 then (gd (0 ≤ v5 ∧ v5 < 8) (gd (c.length = 8) ((F24 v5 (c.getD v5.toNat [])).bind fun (x14 : Bool) => if ¬ (x14 = true) then (some (.inr (.inr false))) else (some (.inl (IntKind.i64.wrap (v5 + 1))))))) else (some (.inr (.inl ())))

noncomputable def F10 (c : List (List (List UInt8))) : Option Bool :=
  (loopO (fun (s : Int) => F10_b4 c s) 0).bind fun y => Sum.elim (fun (e : Unit) => F10_k4) (fun (q : Bool) => some q) y

set_option maxHeartbeats 8000000 in
set_option pp.deepTerms false in
set_option maxRecDepth 8000 in
theorem F10_ok {H : IHeap} {K : IEnd → IHeap → Prop} (c : List (List (List UInt8))) {r : Bool} (h : F10 c = some r) (hK : K (.ret (.v (.bool r))) H) : ICalls prog 8 [.ag (c.map fun x => .sl 1 (x.map fun x => [.v (str x)]))] H K := by
  refine ICalls_iwp (N := 14) func8 (by kernel_rfl) rfl (by kernel_rfl) (by kernel_rfl) fun cb hcb hw hbd hnb => ?_
  clear hbd hnb
  subst hcb
  unfold F10 at h
  refine IWp_seqF fun cb hc1 => ?_
  refine vc_sound _ (by kernel_rfl) _ _ _ ?_
  simp -implicitDefEqProofs (maxSteps := 1000000) (disch := omega) [go_sem]
  subst hc1
  refine IWp_seqF fun cb hc2 => ?_
  refine IWp_seqF fun cb hc3 => ?_
  refine vc_sound _ (by kernel_rfl) _ _ _ ?_
  simp -implicitDefEqProofs (maxSteps := 1000000) (disch := omega) [go_sem]
  subst hc3
  obtain ⟨y4, hl4q, hk4⟩ := bind_some' h
  refine IWp_tailC (fun tm' H' => .inl () = y4 ∧ Ext H H' ∧ H.next + 1 ≤ H'.next ∧ H'.obj H.next = some (.cells (c.map fun x => .sl 1 (x.map fun x => [.v (str x)])))) ?_ fun cb hc4 => ?_
  · rintro tm4e H4e ⟨rfl, he4e, hl4e, ob0_4e⟩
    have h : F10_k4 = some r := hk4
    unfold F10_k4 at h
    simp -implicitDefEqProofs only [go_sem]
    subst hc2
    refine IWp_seqF fun cb hc6 => ?_
    refine vc_sound _ (by kernel_rfl) _ _ _ ?_
    simp -implicitDefEqProofs (maxSteps := 1000000) (disch := omega) [go_sem, ob0_4e]
    subst hc6
    refine vc_sound _ (by kernel_rfl) _ _ _ ?_
    simp -implicitDefEqProofs only [go_sem]
    have er := Option.some.inj h
    subst er
    simp -implicitDefEqProofs (maxSteps := 1000000) (disch := omega) [go_sem, ob0_4e]
    refine retG_pureE (by repeat (first | exact he4e | refine Ext.new ?_ _ | refine Ext.set ?_ (by first | omega | (simp [go_sem]; omega)) _ | refine Ext.del ?_ (by first | omega | (simp [go_sem]; omega)))) (by first | with_reducible rfl | (simp -implicitDefEqProofs (maxSteps := 1000000) (disch := omega) [go_sem, ob0_4e] <;> omega)) ?_ hK
    simp [NB_v, NB_sl, NB_ag, NB_tu]
  · refine IWp_block ?_
    refine IWp_loopF (fun (s : Int) tm' H' => Ext H H' ∧ H.next + 1 ≤ H'.next ∧ tm' 1 = .p H.next 0 ∧ tm' 3 = .v (.int .i64 s) ∧ H'.obj H.next = some (.cells (c.map fun x => .sl 1 (x.map fun x => [.v (str x)])))) hl4q ?_ ?_
    · refine .same ⟨by repeat (first | exact (Ext.refl hw) | refine Ext.new ?_ _ | refine Ext.set ?_ (by first | omega | (simp [go_sem]; omega)) _ | refine Ext.del ?_ (by first | omega | (simp [go_sem]; omega))), by first | with_reducible rfl | assumption | omega | (simp -implicitDefEqProofs (maxSteps := 1000000) (disch := omega) [go_sem] <;> omega), by first | with_reducible rfl | assumption | omega | (simp -implicitDefEqProofs (maxSteps := 1000000) (disch := omega) [go_sem] <;> omega), by first | with_reducible rfl | assumption | omega | (simp -implicitDefEqProofs (maxSteps := 1000000) (disch := omega) [go_sem] <;> omega), by first | with_reducible rfl | assumption | omega | (simp -implicitDefEqProofs (maxSteps := 1000000) (disch := omega) [go_sem] <;> omega)⟩
    · rintro I4 hI4 v5 x4 tm4 H4 ⟨he4, hl4, t1_4, t3_4, ob0_4⟩ h hret4
      replace h : F10_b4 c v5 = some x4 := h
      unfold F10_b4 at h
      refine IWp_seqF fun cb hc7 => ?_
      refine IWp_seqF fun cb hc8 => ?_
      refine vc_sound _ (by kernel_rfl) _ _ _ ?_
      simp -implicitDefEqProofs (maxSteps := 1000000) (disch := omega) [go_sem, t1_4, t3_4, ob0_4]
      subst hc8
      refine IWp_cond_i h (by first | with_reducible rfl | (simp -implicitDefEqProofs (maxSteps := 1000000) (disch := omega) [go_sem, t1_4, t3_4, ob0_4] <;> omega)) rfl ?_ ?_
      · intro c9 h
        try simp -implicitDefEqProofs (disch := omega) at c9
        refine vc_sound _ (by kernel_rfl) _ _ _ ?_
        simp -implicitDefEqProofs only [go_sem]
        subst hc7
        refine IWp_seqF fun cb hc10 => ?_
        refine IWp_block ?_
        refine IWp_seqF fun cb hc11 => ?_
        refine vc_sound _ (by kernel_rfl) _ _ _ ?_
        obtain ⟨g12, h⟩ := gd_some.1 h
        try simp -implicitDefEqProofs (disch := omega) at g12
        obtain ⟨g13, h⟩ := gd_some.1 h
        try simp -implicitDefEqProofs (disch := omega) at g13
        simp -implicitDefEqProofs (maxSteps := 1000000) (disch := omega) [go_sem, t1_4, t3_4, ob0_4, g13]
        obtain ⟨x14, hx14, h⟩ := bind_some' h
        refine ICalls.eqA (args' := [.v (.int .i64 v5), .sl 1 ((c.getD v5.toNat []).map fun x => [.v (str x)])]) (by first | with_reducible rfl | (simp -implicitDefEqProofs (maxSteps := 1000000) (disch := omega) [go_sem, t1_4, t3_4, ob0_4, g13] <;> omega)) (F24_ok v5 (c.getD v5.toNat []) hx14 ?_)
        simp -implicitDefEqProofs (maxSteps := 1000000) (disch := omega) [go_sem, t1_4, t3_4, ob0_4, g13]
        subst hc11
        refine IWp_cond_i h (by first | with_reducible rfl | (simp -implicitDefEqProofs (maxSteps := 1000000) (disch := omega) [go_sem, t1_4, t3_4, ob0_4, g13] <;> omega)) rfl ?_ ?_
        · intro c15 h
          try simp -implicitDefEqProofs (disch := omega) at c15
          refine IWp_seqF fun cb hc16 => ?_
          refine vc_sound _ (by kernel_rfl) _ _ _ ?_
          simp -implicitDefEqProofs (maxSteps := 1000000) (disch := omega) [go_sem, t1_4, t3_4, ob0_4, g13]
          subst hc16
          refine vc_sound _ (by kernel_rfl) _ _ _ ?_
          simp -implicitDefEqProofs only [go_sem]
          have e4 := Option.some.inj h
          subst e4
          have e4 := hret4 _ rfl
          subst e4
          replace h : some false = some r := hk4
          have er := Option.some.inj h
          subst er
          simp -implicitDefEqProofs (maxSteps := 1000000) (disch := omega) [go_sem, t1_4, t3_4, ob0_4, g13]
          refine retG_pureE (by repeat (first | exact he4 | refine Ext.new ?_ _ | refine Ext.set ?_ (by first | omega | (simp [go_sem]; omega)) _ | refine Ext.del ?_ (by first | omega | (simp [go_sem]; omega)))) (by first | with_reducible rfl | (simp -implicitDefEqProofs (maxSteps := 1000000) (disch := omega) [go_sem, t1_4, t3_4, ob0_4, g13] <;> omega)) ?_ hK
          simp [NB_v, NB_sl, NB_ag, NB_tu]
        · intro c15 h
          try simp -implicitDefEqProofs (disch := omega) at c15
          refine vc_sound _ (by kernel_rfl) _ _ _ ?_
          simp -implicitDefEqProofs only [go_sem]
          subst hc10
          refine vc_sound _ (by kernel_rfl) _ _ _ ?_
          simp -implicitDefEqProofs (maxSteps := 1000000) (disch := omega) [go_sem, t1_4, t3_4, ob0_4, g13]
          have e4 := Option.some.inj h
          subst e4
          refine loopN_mk hI4 (IntKind.i64.wrap (v5 + 1)) ?_
          refine .same ⟨by repeat (first | exact he4 | refine Ext.new ?_ _ | refine Ext.set ?_ (by first | omega | (simp [go_sem]; omega)) _ | refine Ext.del ?_ (by first | omega | (simp [go_sem]; omega))), by first | with_reducible rfl | assumption | omega | (simp -implicitDefEqProofs (maxSteps := 1000000) (disch := omega) [go_sem, t1_4, t3_4, ob0_4, g13] <;> omega), by first | with_reducible rfl | assumption | omega | (simp -implicitDefEqProofs (maxSteps := 1000000) (disch := omega) [go_sem, t1_4, t3_4, ob0_4, g13] <;> omega), by first | with_reducible rfl | assumption | omega | (simp -implicitDefEqProofs (maxSteps := 1000000) (disch := omega) [go_sem, t1_4, t3_4, ob0_4, g13] <;> omega), by first | with_reducible rfl | assumption | omega | (simp -implicitDefEqProofs (maxSteps := 1000000) (disch := omega) [go_sem, t1_4, t3_4, ob0_4, g13] <;> omega)⟩
      · intro c9 h
        try simp -implicitDefEqProofs (disch := omega) at c9
        refine vc_sound _ (by kernel_rfl) _ _ _ ?_
        simp -implicitDefEqProofs only [go_sem]
        have e4 := Option.some.inj h
        subst e4
        have hy4 := hret4 _ rfl
        refine hc4 _ _ ?_
        refine .same ⟨hy4, by repeat (first | exact he4 | refine Ext.new ?_ _ | refine Ext.set ?_ (by first | omega | (simp [go_sem]; omega)) _ | refine Ext.del ?_ (by first | omega | (simp [go_sem]; omega))), by first | with_reducible rfl | assumption | omega | (simp -implicitDefEqProofs (maxSteps := 1000000) (disch := omega) [go_sem, t1_4, t3_4, ob0_4] <;> omega), by first | with_reducible rfl | assumption | omega | (simp -implicitDefEqProofs (maxSteps := 1000000) (disch := omega) [go_sem, t1_4, t3_4, ob0_4] <;> omega)⟩

/-! cardcase/cardcaseref07.Texts -/

noncomputable def F17_k8  : Option Bool :=
  some true

noncomputable def F17_b8 (a : List (List UInt8)) (b : List (List UInt8)) (v9 : Int) : Option (Int ⊕ (Unit ⊕ Bool)) :=
  if v9 < (a.length : Int) then (gd (0 ≤ v9 ∧ v9 < a.length) (gd (0 ≤ v9 ∧ v9 < b.length) (if ¬ (a.getD v9.toNat []) = (b.getD v9.toNat []) then (some (.inr (.inr false))) else (some (.inl (IntKind.i64.wrap (v9 + 1))))))) else (some (.inr (.inl ())))

noncomputable def F17 (a : List (List UInt8)) (b : List (List UInt8)) : Option Bool :=
  if ¬ (a.length : Int) = (b.length : Int) then (some false) else ((loopO (fun (s : Int) => F17_b8 a b s) 0).bind fun y => Sum.elim (fun (e : Unit) => F17_k8) (fun (q : Bool) => some q) y)

set_option maxHeartbeats 8000000 in
set_option pp.deepTerms false in
set_option maxRecDepth 8000 in
theorem F17_ok {H : IHeap} {K : IEnd → IHeap → Prop} (a : List (List UInt8)) (b : List (List UInt8)) {r : Bool} (h : F17 a b = some r) (hK : K (.ret (.v (.bool r))) H) : ICalls prog 51 [.sl 1 (a.map fun x => [.v (str x)]), .sl 1 (b.map fun x => [.v (str x)])] H K := by
  refine ICalls_iwp (N := 26) func51 (by kernel_rfl) rfl (by kernel_rfl) (by kernel_rfl) fun cb hcb hw hbd hnb => ?_
  clear hbd hnb
  subst hcb
  unfold F17 at h
  refine IWp_seqF fun cb hc1 => ?_
  refine vc_sound _ (by kernel_rfl) _ _ _ ?_
  simp -implicitDefEqProofs (maxSteps := 1000000) (disch := omega) [go_sem]
  subst hc1
  refine IWp_seqF fun cb hc2 => ?_
  refine IWp_seqF fun cb hc3 => ?_
  refine vc_sound _ (by kernel_rfl) _ _ _ ?_
  simp -implicitDefEqProofs (maxSteps := 1000000) (disch := omega) [go_sem]
  subst hc3
  refine IWp_cond_i h (by first | with_reducible rfl | (simp -implicitDefEqProofs (maxSteps := 1000000) (disch := omega) [go_sem] <;> omega)) rfl ?_ ?_
  · intro c4 h
    try simp -implicitDefEqProofs (disch := omega) at c4
    refine IWp_seqF fun cb hc5 => ?_
    refine vc_sound _ (by kernel_rfl) _ _ _ ?_
    simp -implicitDefEqProofs (maxSteps := 1000000) (disch := omega) [go_sem]
    subst hc5
    refine vc_sound _ (by kernel_rfl) _ _ _ ?_
    simp -implicitDefEqProofs only [go_sem]
    have er := Option.some.inj h
    subst er
    simp -implicitDefEqProofs (maxSteps := 1000000) (disch := omega) [go_sem]
    refine retG_pureE (by repeat (first | exact (Ext.refl hw) | refine Ext.new ?_ _ | refine Ext.set ?_ (by first | omega | (simp [go_sem]; omega)) _ | refine Ext.del ?_ (by first | omega | (simp [go_sem]; omega)))) (by first | with_reducible rfl | (simp -implicitDefEqProofs (maxSteps := 1000000) (disch := omega) [go_sem] <;> omega)) ?_ hK
    simp [NB_v, NB_sl, NB_ag, NB_tu]
  · intro c4 h
    try simp -implicitDefEqProofs (disch := omega) at c4
    refine vc_sound _ (by kernel_rfl) _ _ _ ?_
    simp -implicitDefEqProofs only [go_sem]
    subst hc2
    refine IWp_seqF fun cb hc6 => ?_
    refine IWp_seqF fun cb hc7 => ?_
    refine vc_sound _ (by kernel_rfl) _ _ _ ?_
    simp -implicitDefEqProofs (maxSteps := 1000000) (disch := omega) [go_sem]
    subst hc7
    obtain ⟨y8, hl8q, hk8⟩ := bind_some' h
    refine IWp_tailC (fun tm' H' => .inl () = y8 ∧ H = H') ?_ fun cb hc8 => ?_
    · rintro tm8e H8e ⟨rfl, rfl⟩
      have h : F17_k8 = some r := hk8
      unfold F17_k8 at h
      simp -implicitDefEqProofs only [go_sem]
      subst hc6
      refine IWp_seqF fun cb hc10 => ?_
      refine vc_sound _ (by kernel_rfl) _ _ _ ?_
      simp -implicitDefEqProofs (maxSteps := 1000000) (disch := omega) [go_sem]
      subst hc10
      refine vc_sound _ (by kernel_rfl) _ _ _ ?_
      simp -implicitDefEqProofs only [go_sem]
      have er := Option.some.inj h
      subst er
      simp -implicitDefEqProofs (maxSteps := 1000000) (disch := omega) [go_sem]
      refine retG_pureE (by repeat (first | exact (Ext.refl hw) | refine Ext.new ?_ _ | refine Ext.set ?_ (by first | omega | (simp [go_sem]; omega)) _ | refine Ext.del ?_ (by first | omega | (simp [go_sem]; omega)))) (by first | with_reducible rfl | (simp -implicitDefEqProofs (maxSteps := 1000000) (disch := omega) [go_sem] <;> omega)) ?_ hK
      simp [NB_v, NB_sl, NB_ag, NB_tu]
    · refine IWp_block ?_
      refine IWp_loopF (fun (s : Int) tm' H' => H = H' ∧ tm' 0 = .sl 1 (a.map fun x => [.v (str x)]) ∧ tm' 1 = .sl 1 (b.map fun x => [.v (str x)]) ∧ tm' 5 = .v (.int .i64 s)) hl8q ?_ ?_
      · refine .same ⟨rfl, by first | with_reducible rfl | assumption | omega | (simp -implicitDefEqProofs (maxSteps := 1000000) (disch := omega) [go_sem] <;> omega), by first | with_reducible rfl | assumption | omega | (simp -implicitDefEqProofs (maxSteps := 1000000) (disch := omega) [go_sem] <;> omega), by first | with_reducible rfl | assumption | omega | (simp -implicitDefEqProofs (maxSteps := 1000000) (disch := omega) [go_sem] <;> omega)⟩
      · rintro I8 hI8 v9 x8 tm8 H8 ⟨rfl, t0_8, t1_8, t5_8⟩ h hret8
        replace h : F17_b8 a b v9 = some x8 := h
        unfold F17_b8 at h
        refine IWp_seqF fun cb hc11 => ?_
        refine IWp_seqF fun cb hc12 => ?_
        refine vc_sound _ (by kernel_rfl) _ _ _ ?_
        simp -implicitDefEqProofs (maxSteps := 1000000) (disch := omega) [go_sem, t0_8, t1_8, t5_8]
        subst hc12
        refine IWp_cond_i h (by first | with_reducible rfl | (simp -implicitDefEqProofs (maxSteps := 1000000) (disch := omega) [go_sem, t0_8, t1_8, t5_8] <;> omega)) rfl ?_ ?_
        · intro c13 h
          try simp -implicitDefEqProofs (disch := omega) at c13
          refine vc_sound _ (by kernel_rfl) _ _ _ ?_
          simp -implicitDefEqProofs only [go_sem]
          subst hc11
          refine IWp_seqF fun cb hc14 => ?_
          refine IWp_block ?_
          refine IWp_seqF fun cb hc15 => ?_
          refine IWp_drawP [] [0, 1, 2, 3, 4, 5, 6, 7, 8] (by kernel_rfl) (by kernel_rfl) (fun _ _ _ _ h => h) ?_
          obtain ⟨g16, h⟩ := gd_some.1 h
          try simp -implicitDefEqProofs (disch := omega) at g16
          obtain ⟨g17, h⟩ := gd_some.1 h
          try simp -implicitDefEqProofs (disch := omega) at g17
          simp -implicitDefEqProofs (maxSteps := 1000000) (disch := omega) [go_sem, t0_8, t1_8, t5_8]
          subst hc15
          refine IWp_cond_i h (by first | with_reducible rfl | (simp -implicitDefEqProofs (maxSteps := 1000000) (disch := omega) [go_sem, t0_8, t1_8, t5_8] <;> omega)) rfl ?_ ?_
          · intro c18 h
            try simp -implicitDefEqProofs (disch := omega) at c18
            refine IWp_seqF fun cb hc19 => ?_
            refine vc_sound _ (by kernel_rfl) _ _ _ ?_
            simp -implicitDefEqProofs (maxSteps := 1000000) (disch := omega) [go_sem, t0_8, t1_8, t5_8]
            subst hc19
            refine vc_sound _ (by kernel_rfl) _ _ _ ?_
            simp -implicitDefEqProofs only [go_sem]
            have e8 := Option.some.inj h
            subst e8
            have e8 := hret8 _ rfl
            subst e8
            replace h : some false = some r := hk8
            have er := Option.some.inj h
            subst er
            simp -implicitDefEqProofs (maxSteps := 1000000) (disch := omega) [go_sem, t0_8, t1_8, t5_8]
            refine retG_pureE (by repeat (first | exact (Ext.refl hw) | refine Ext.new ?_ _ | refine Ext.set ?_ (by first | omega | (simp [go_sem]; omega)) _ | refine Ext.del ?_ (by first | omega | (simp [go_sem]; omega)))) (by first | with_reducible rfl | (simp -implicitDefEqProofs (maxSteps := 1000000) (disch := omega) [go_sem, t0_8, t1_8, t5_8] <;> omega)) ?_ hK
            simp [NB_v, NB_sl, NB_ag, NB_tu]
          · intro c18 h
            try simp -implicitDefEqProofs (disch := omega) at c18
            refine vc_sound _ (by kernel_rfl) _ _ _ ?_
            simp -implicitDefEqProofs only [go_sem]
            subst hc14
            refine vc_sound _ (by kernel_rfl) _ _ _ ?_
            simp -implicitDefEqProofs (maxSteps := 1000000) (disch := omega) [go_sem, t0_8, t1_8, t5_8]
            have e8 := Option.some.inj h
            subst e8
            refine loopN_mk hI8 (IntKind.i64.wrap (v9 + 1)) ?_
            refine .same ⟨rfl, by first | with_reducible rfl | assumption | omega | (simp -implicitDefEqProofs (maxSteps := 1000000) (disch := omega) [go_sem, t0_8, t1_8, t5_8] <;> omega), by first | with_reducible rfl | assumption | omega | (simp -implicitDefEqProofs (maxSteps := 1000000) (disch := omega) [go_sem, t0_8, t1_8, t5_8] <;> omega), by first | with_reducible rfl | assumption | omega | (simp -implicitDefEqProofs (maxSteps := 1000000) (disch := omega) [go_sem, t0_8, t1_8, t5_8] <;> omega)⟩
        · intro c13 h
          try simp -implicitDefEqProofs (disch := omega) at c13
          refine vc_sound _ (by kernel_rfl) _ _ _ ?_
          simp -implicitDefEqProofs only [go_sem]
          have e8 := Option.some.inj h
          subst e8
          have hy8 := hret8 _ rfl
          refine hc8 _ _ ?_
          refine .same ⟨hy8, rfl⟩

/-! cardcase/cardcaseref16.Differ -/

noncomputable def F14_k5 (v9 : List Int) : Option (List Int) :=
  some v9

noncomputable def F14_b5 (a : List (List (List UInt8))) (b : List (List (List UInt8))) (v6 : List Int) (v8 : Int) : Option (((List Int) × Int) ⊕ (List Int)) :=
  if v8 < 8 then (gd (0 ≤ v8 ∧ v8 < 8) (gd (a.length = 8) (gd (b.length = 8) ((F17 (a.getD v8.toNat []) (b.getD v8.toNat [])).bind fun (x20 : Bool) => if ¬ (x20 = true) then (gd ((v6.length + ([v8]).length) * 8 ≤ 140737488355328) (some (.inl ((v6 ++ ([v8]), IntKind.i64.wrap (v8 + 1)))))) else (some (.inl ((v6, IntKind.i64.wrap (v8 + 1))))))))) else (some (.inr v6))

noncomputable def F14 (a : List (List (List UInt8))) (b : List (List (List UInt8))) : Option (List Int) :=
  (loopO (fun (s : (List Int) × Int) => F14_b5 a b s.1 s.2) ([], 0)).bind fun (e : (List Int)) => F14_k5 e

set_option maxHeartbeats 8000000 in
set_option pp.deepTerms false in
set_option maxRecDepth 8000 in
theorem F14_ok {H : IHeap} {K : IEnd → IHeap → Prop} (a : List (List (List UInt8))) (b : List (List (List UInt8))) {r : List Int} (h : F14 a b = some r) (hK : K (.ret (.sl 1 (r.map fun x => [.v (.int .i64 x)]))) H) : ICalls prog 34 [.ag (a.map fun x => .sl 1 (x.map fun x => [.v (str x)])), .ag (b.map fun x => .sl 1 (x.map fun x => [.v (str x)]))] H K := by
  refine ICalls_iwp (N := 24) func34 (by kernel_rfl) rfl (by kernel_rfl) (by kernel_rfl) fun cb hcb hw hbd hnb => ?_
  clear hbd hnb
  subst hcb
  unfold F14 at h
  refine IWp_seqF fun cb hc1 => ?_
  refine vc_sound _ (by kernel_rfl) _ _ _ ?_
  simp -implicitDefEqProofs (maxSteps := 1000000) (disch := omega) [go_sem]
  subst hc1
  refine IWp_seqF fun cb hc2 => ?_
  refine vc_sound _ (by kernel_rfl) _ _ _ ?_
  simp -implicitDefEqProofs (maxSteps := 1000000) (disch := omega) [go_sem]
  subst hc2
  refine IWp_seqF fun cb hc3 => ?_
  refine IWp_seqF fun cb hc4 => ?_
  refine vc_sound _ (by kernel_rfl) _ _ _ ?_
  simp -implicitDefEqProofs (maxSteps := 1000000) (disch := omega) [go_sem]
  subst hc4
  obtain ⟨y5, hl5q, hk5⟩ := bind_some' h
  refine IWp_tailC (fun tm' H' => ∃ n10 : Nat, ∃ v9 : List Int, v9 = y5 ∧ Ext H H' ∧ H.next + 2 ≤ H'.next ∧ H.next ≤ n10 ∧ n10 < H'.next ∧ ¬ H.next = n10 ∧ ¬ H.next + 1 = n10 ∧ tm' 5 = .os n10 v9.length ∧ H'.obj H.next = some (.cells (a.map fun x => .sl 1 (x.map fun x => [.v (str x)]))) ∧ H'.obj (H.next + 1) = some (.cells (b.map fun x => .sl 1 (x.map fun x => [.v (str x)]))) ∧ H'.obj n10 = some (.row 1 (v9.map fun x => [.v (.int .i64 x)]))) ?_ fun cb hc5 => ?_
  · rintro tm5e H5e ⟨n10, v9, rfl, he5e, hl5e, hr0_5e, hs0_5e, hq23, hq24, t5_5e, ob0_5e, ob1_5e, or0_5e⟩
    have h : F14_k5 v9 = some r := hk5
    unfold F14_k5 at h
    simp -implicitDefEqProofs only [go_sem]
    subst hc3
    refine IWp_seqF fun cb hc11 => ?_
    refine vc_sound _ (by kernel_rfl) _ _ _ ?_
    simp -implicitDefEqProofs (maxSteps := 1000000) (disch := omega) [go_sem, t5_5e, ob0_5e, ob1_5e, or0_5e]
    subst hc11
    refine vc_sound _ (by kernel_rfl) _ _ _ ?_
    simp -implicitDefEqProofs only [go_sem]
    have er := Option.some.inj h
    subst er
    simp -implicitDefEqProofs (maxSteps := 1000000) (disch := omega) [go_sem, t5_5e, ob0_5e, ob1_5e, or0_5e]
    refine retG_fzE (J := H) (Ext.endH (by repeat (first | exact he5e | refine Ext.new ?_ _ | refine Ext.set ?_ (by first | omega | (simp [go_sem]; omega)) _ | refine Ext.del ?_ (by first | omega | (simp [go_sem]; omega))))) rfl (.row (hw _ (by first | omega | (simp [go_sem]; omega))) (by simp -implicitDefEqProofs (maxSteps := 1000000) (disch := omega) [go_sem, t5_5e, ob0_5e, ob1_5e, or0_5e]) (by simp) (by simp [NB_v, NB_sl, NB_ag, NB_tu])) hK
  · refine IWp_block ?_
    refine IWp_loopF (fun (s : (List Int) × Int) tm' H' => ∃ n7 : Nat, Ext H H' ∧ H.next + 2 ≤ H'.next ∧ H.next ≤ n7 ∧ n7 < H'.next ∧ ¬ H.next = n7 ∧ ¬ H.next + 1 = n7 ∧ tm' 2 = .p H.next 0 ∧ tm' 3 = .p (H.next + 1) 0 ∧ tm' 5 = .os n7 s.1.length ∧ tm' 6 = .v (.int .i64 s.2) ∧ H'.obj H.next = some (.cells (a.map fun x => .sl 1 (x.map fun x => [.v (str x)]))) ∧ H'.obj (H.next + 1) = some (.cells (b.map fun x => .sl 1 (x.map fun x => [.v (str x)]))) ∧ H'.obj n7 = some (.row 1 (s.1.map fun x => [.v (.int .i64 x)]))) hl5q ?_ ?_
    · refine UpI.gh (Gh.nilrow (d := 5) (sz := 1) (by omega) (by (simp -implicitDefEqProofs (maxSteps := 1000000) (disch := omega) [go_sem] <;> omega))) ?_
      refine .same ⟨H.next + 2, by repeat (first | exact (Ext.refl hw) | refine Ext.new ?_ _ | refine Ext.set ?_ (by first | omega | (simp [go_sem]; omega)) _ | refine Ext.del ?_ (by first | omega | (simp [go_sem]; omega))), by first | with_reducible rfl | assumption | omega | (simp -implicitDefEqProofs (maxSteps := 1000000) (disch := omega) [go_sem] <;> omega), by first | with_reducible rfl | assumption | omega | (simp -implicitDefEqProofs (maxSteps := 1000000) (disch := omega) [go_sem] <;> omega), by first | with_reducible rfl | assumption | omega | (simp -implicitDefEqProofs (maxSteps := 1000000) (disch := omega) [go_sem] <;> omega), by first | with_reducible rfl | assumption | omega | (simp -implicitDefEqProofs (maxSteps := 1000000) (disch := omega) [go_sem] <;> omega), by first | with_reducible rfl | assumption | omega | (simp -implicitDefEqProofs (maxSteps := 1000000) (disch := omega) [go_sem] <;> omega), by first | with_reducible rfl | assumption | omega | (simp -implicitDefEqProofs (maxSteps := 1000000) (disch := omega) [go_sem] <;> omega), by first | with_reducible rfl | assumption | omega | (simp -implicitDefEqProofs (maxSteps := 1000000) (disch := omega) [go_sem] <;> omega), by first | with_reducible rfl | assumption | omega | (simp -implicitDefEqProofs (maxSteps := 1000000) (disch := omega) [go_sem] <;> omega), by first | with_reducible rfl | assumption | omega | (simp -implicitDefEqProofs (maxSteps := 1000000) (disch := omega) [go_sem] <;> omega), by first | with_reducible rfl | assumption | omega | (simp -implicitDefEqProofs (maxSteps := 1000000) (disch := omega) [go_sem] <;> omega), by first | with_reducible rfl | assumption | omega | (simp -implicitDefEqProofs (maxSteps := 1000000) (disch := omega) [go_sem] <;> omega), by first | with_reducible rfl | assumption | omega | (simp -implicitDefEqProofs (maxSteps := 1000000) (disch := omega) [go_sem] <;> omega)⟩
    · rintro I5 hI5 ⟨v6, v8⟩ x5 tm5 H5 ⟨n7, he5, hl5, hr0_5, hs0_5, hq25, hq26, t2_5, t3_5, t5_5, t6_5, ob0_5, ob1_5, or0_5⟩ h hret5
      replace h : F14_b5 a b v6 v8 = some x5 := h
      unfold F14_b5 at h
      refine IWp_seqF fun cb hc12 => ?_
      refine IWp_seqF fun cb hc13 => ?_
      refine vc_sound _ (by kernel_rfl) _ _ _ ?_
      simp -implicitDefEqProofs (maxSteps := 1000000) (disch := omega) [go_sem, t2_5, t3_5, t5_5, t6_5, ob0_5, ob1_5, or0_5]
      subst hc13
      refine IWp_cond_i h (by first | with_reducible rfl | (simp -implicitDefEqProofs (maxSteps := 1000000) (disch := omega) [go_sem, t2_5, t3_5, t5_5, t6_5, ob0_5, ob1_5, or0_5] <;> omega)) rfl ?_ ?_
      · intro c14 h
        try simp -implicitDefEqProofs (disch := omega) at c14
        refine vc_sound _ (by kernel_rfl) _ _ _ ?_
        simp -implicitDefEqProofs only [go_sem]
        subst hc12
        refine IWp_seqF fun cb hc15 => ?_
        refine IWp_block ?_
        refine IWp_seqF fun cb hc16 => ?_
        refine IWp_drawP [6] [0, 1, 2, 3, 4, 5, 6, 7] (by kernel_rfl) (by kernel_rfl) (fun _ _ _ _ h => h) ?_
        obtain ⟨g17, h⟩ := gd_some.1 h
        try simp -implicitDefEqProofs (disch := omega) at g17
        obtain ⟨g18, h⟩ := gd_some.1 h
        try simp -implicitDefEqProofs (disch := omega) at g18
        obtain ⟨g19, h⟩ := gd_some.1 h
        try simp -implicitDefEqProofs (disch := omega) at g19
        simp -implicitDefEqProofs (maxSteps := 1000000) (disch := omega) [go_sem, t2_5, t3_5, t5_5, t6_5, ob0_5, ob1_5, or0_5, g18, g19]
        obtain ⟨x20, hx20, h⟩ := bind_some' h
        refine PureC.mk _ (fun _ _ hK => ICalls.eqA (args' := [.sl 1 ((a.getD v8.toNat []).map fun x => [.v (str x)]), .sl 1 ((b.getD v8.toNat []).map fun x => [.v (str x)])]) (by first | with_reducible rfl | (simp -implicitDefEqProofs (maxSteps := 1000000) (disch := omega) [go_sem, t2_5, t3_5, t5_5, t6_5, ob0_5, ob1_5, or0_5, g18, g19] <;> omega)) (F17_ok (a.getD v8.toNat []) (b.getD v8.toNat []) hx20 hK)) ?_
        simp -implicitDefEqProofs (maxSteps := 1000000) (disch := omega) [go_sem, t2_5, t3_5, t5_5, t6_5, ob0_5, ob1_5, or0_5, g18, g19]
        subst hc16
        refine IWp_cond_i h (by first | with_reducible rfl | (simp -implicitDefEqProofs (maxSteps := 1000000) (disch := omega) [go_sem, t2_5, t3_5, t5_5, t6_5, ob0_5, ob1_5, or0_5, g18, g19] <;> omega)) rfl ?_ ?_
        · intro c21 h
          try simp -implicitDefEqProofs (disch := omega) at c21
          refine vc_sound _ (by kernel_rfl) _ _ _ ?_
          obtain ⟨g22, h⟩ := gd_some.1 h
          try simp -implicitDefEqProofs (disch := omega) at g22
          simp -implicitDefEqProofs (maxSteps := 1000000) (disch := omega) [go_sem, t2_5, t3_5, t5_5, t6_5, ob0_5, ob1_5, or0_5, g18, g19]
          subst hc15
          refine vc_sound _ (by kernel_rfl) _ _ _ ?_
          simp -implicitDefEqProofs (maxSteps := 1000000) (disch := omega) [go_sem, t2_5, t3_5, t5_5, t6_5, ob0_5, ob1_5, or0_5, g18, g19]
          have e5 := Option.some.inj h
          subst e5
          refine loopN_mk hI5 ((v6 ++ ([v8]), IntKind.i64.wrap (v8 + 1))) ?_
          refine .same ⟨n7, by repeat (first | exact he5 | refine Ext.new ?_ _ | refine Ext.set ?_ (by first | omega | (simp [go_sem]; omega)) _ | refine Ext.del ?_ (by first | omega | (simp [go_sem]; omega))), by first | with_reducible rfl | assumption | omega | (simp -implicitDefEqProofs (maxSteps := 1000000) (disch := omega) [go_sem, t2_5, t3_5, t5_5, t6_5, ob0_5, ob1_5, or0_5, g18, g19] <;> omega), by first | with_reducible rfl | assumption | omega | (simp -implicitDefEqProofs (maxSteps := 1000000) (disch := omega) [go_sem, t2_5, t3_5, t5_5, t6_5, ob0_5, ob1_5, or0_5, g18, g19] <;> omega), by first | with_reducible rfl | assumption | omega | (simp -implicitDefEqProofs (maxSteps := 1000000) (disch := omega) [go_sem, t2_5, t3_5, t5_5, t6_5, ob0_5, ob1_5, or0_5, g18, g19] <;> omega), by first | with_reducible rfl | assumption | omega | (simp -implicitDefEqProofs (maxSteps := 1000000) (disch := omega) [go_sem, t2_5, t3_5, t5_5, t6_5, ob0_5, ob1_5, or0_5, g18, g19] <;> omega), by first | with_reducible rfl | assumption | omega | (simp -implicitDefEqProofs (maxSteps := 1000000) (disch := omega) [go_sem, t2_5, t3_5, t5_5, t6_5, ob0_5, ob1_5, or0_5, g18, g19] <;> omega), by first | with_reducible rfl | assumption | omega | (simp -implicitDefEqProofs (maxSteps := 1000000) (disch := omega) [go_sem, t2_5, t3_5, t5_5, t6_5, ob0_5, ob1_5, or0_5, g18, g19] <;> omega), by first | with_reducible rfl | assumption | omega | (simp -implicitDefEqProofs (maxSteps := 1000000) (disch := omega) [go_sem, t2_5, t3_5, t5_5, t6_5, ob0_5, ob1_5, or0_5, g18, g19] <;> omega), by first | with_reducible rfl | assumption | omega | (simp -implicitDefEqProofs (maxSteps := 1000000) (disch := omega) [go_sem, t2_5, t3_5, t5_5, t6_5, ob0_5, ob1_5, or0_5, g18, g19] <;> omega), by first | with_reducible rfl | assumption | omega | (simp -implicitDefEqProofs (maxSteps := 1000000) (disch := omega) [go_sem, t2_5, t3_5, t5_5, t6_5, ob0_5, ob1_5, or0_5, g18, g19] <;> omega), by first | with_reducible rfl | assumption | omega | (simp -implicitDefEqProofs (maxSteps := 1000000) (disch := omega) [go_sem, t2_5, t3_5, t5_5, t6_5, ob0_5, ob1_5, or0_5, g18, g19] <;> omega), by first | with_reducible rfl | assumption | omega | (simp -implicitDefEqProofs (maxSteps := 1000000) (disch := omega) [go_sem, t2_5, t3_5, t5_5, t6_5, ob0_5, ob1_5, or0_5, g18, g19] <;> omega), by first | with_reducible rfl | assumption | omega | (simp -implicitDefEqProofs (maxSteps := 1000000) (disch := omega) [go_sem, t2_5, t3_5, t5_5, t6_5, ob0_5, ob1_5, or0_5, g18, g19] <;> omega)⟩
        · intro c21 h
          try simp -implicitDefEqProofs (disch := omega) at c21
          refine vc_sound _ (by kernel_rfl) _ _ _ ?_
          simp -implicitDefEqProofs only [go_sem]
          subst hc15
          refine vc_sound _ (by kernel_rfl) _ _ _ ?_
          simp -implicitDefEqProofs (maxSteps := 1000000) (disch := omega) [go_sem, t2_5, t3_5, t5_5, t6_5, ob0_5, ob1_5, or0_5, g18, g19]
          have e5 := Option.some.inj h
          subst e5
          refine loopN_mk hI5 ((v6, IntKind.i64.wrap (v8 + 1))) ?_
          refine .same ⟨n7, by repeat (first | exact he5 | refine Ext.new ?_ _ | refine Ext.set ?_ (by first | omega | (simp [go_sem]; omega)) _ | refine Ext.del ?_ (by first | omega | (simp [go_sem]; omega))), by first | with_reducible rfl | assumption | omega | (simp -implicitDefEqProofs (maxSteps := 1000000) (disch := omega) [go_sem, t2_5, t3_5, t5_5, t6_5, ob0_5, ob1_5, or0_5, g18, g19] <;> omega), by first | with_reducible rfl | assumption | omega | (simp -implicitDefEqProofs (maxSteps := 1000000) (disch := omega) [go_sem, t2_5, t3_5, t5_5, t6_5, ob0_5, ob1_5, or0_5, g18, g19] <;> omega), by first | with_reducible rfl | assumption | omega | (simp -implicitDefEqProofs (maxSteps := 1000000) (disch := omega) [go_sem, t2_5, t3_5, t5_5, t6_5, ob0_5, ob1_5, or0_5, g18, g19] <;> omega), by first | with_reducible rfl | assumption | omega | (simp -implicitDefEqProofs (maxSteps := 1000000) (disch := omega) [go_sem, t2_5, t3_5, t5_5, t6_5, ob0_5, ob1_5, or0_5, g18, g19] <;> omega), by first | with_reducible rfl | assumption | omega | (simp -implicitDefEqProofs (maxSteps := 1000000) (disch := omega) [go_sem, t2_5, t3_5, t5_5, t6_5, ob0_5, ob1_5, or0_5, g18, g19] <;> omega), by first | with_reducible rfl | assumption | omega | (simp -implicitDefEqProofs (maxSteps := 1000000) (disch := omega) [go_sem, t2_5, t3_5, t5_5, t6_5, ob0_5, ob1_5, or0_5, g18, g19] <;> omega), by first | with_reducible rfl | assumption | omega | (simp -implicitDefEqProofs (maxSteps := 1000000) (disch := omega) [go_sem, t2_5, t3_5, t5_5, t6_5, ob0_5, ob1_5, or0_5, g18, g19] <;> omega), by first | with_reducible rfl | assumption | omega | (simp -implicitDefEqProofs (maxSteps := 1000000) (disch := omega) [go_sem, t2_5, t3_5, t5_5, t6_5, ob0_5, ob1_5, or0_5, g18, g19] <;> omega), by first | with_reducible rfl | assumption | omega | (simp -implicitDefEqProofs (maxSteps := 1000000) (disch := omega) [go_sem, t2_5, t3_5, t5_5, t6_5, ob0_5, ob1_5, or0_5, g18, g19] <;> omega), by first | with_reducible rfl | assumption | omega | (simp -implicitDefEqProofs (maxSteps := 1000000) (disch := omega) [go_sem, t2_5, t3_5, t5_5, t6_5, ob0_5, ob1_5, or0_5, g18, g19] <;> omega), by first | with_reducible rfl | assumption | omega | (simp -implicitDefEqProofs (maxSteps := 1000000) (disch := omega) [go_sem, t2_5, t3_5, t5_5, t6_5, ob0_5, ob1_5, or0_5, g18, g19] <;> omega), by first | with_reducible rfl | assumption | omega | (simp -implicitDefEqProofs (maxSteps := 1000000) (disch := omega) [go_sem, t2_5, t3_5, t5_5, t6_5, ob0_5, ob1_5, or0_5, g18, g19] <;> omega)⟩
      · intro c14 h
        try simp -implicitDefEqProofs (disch := omega) at c14
        refine vc_sound _ (by kernel_rfl) _ _ _ ?_
        simp -implicitDefEqProofs only [go_sem]
        have e5 := Option.some.inj h
        subst e5
        have hy5 := hret5 _ rfl
        refine hc5 _ _ ?_
        refine .same ⟨n7, v6, hy5, by repeat (first | exact he5 | refine Ext.new ?_ _ | refine Ext.set ?_ (by first | omega | (simp [go_sem]; omega)) _ | refine Ext.del ?_ (by first | omega | (simp [go_sem]; omega))), by first | with_reducible rfl | assumption | omega | (simp -implicitDefEqProofs (maxSteps := 1000000) (disch := omega) [go_sem, t2_5, t3_5, t5_5, t6_5, ob0_5, ob1_5, or0_5] <;> omega), by first | with_reducible rfl | assumption | omega | (simp -implicitDefEqProofs (maxSteps := 1000000) (disch := omega) [go_sem, t2_5, t3_5, t5_5, t6_5, ob0_5, ob1_5, or0_5] <;> omega), by first | with_reducible rfl | assumption | omega | (simp -implicitDefEqProofs (maxSteps := 1000000) (disch := omega) [go_sem, t2_5, t3_5, t5_5, t6_5, ob0_5, ob1_5, or0_5] <;> omega), by first | with_reducible rfl | assumption | omega | (simp -implicitDefEqProofs (maxSteps := 1000000) (disch := omega) [go_sem, t2_5, t3_5, t5_5, t6_5, ob0_5, ob1_5, or0_5] <;> omega), by first | with_reducible rfl | assumption | omega | (simp -implicitDefEqProofs (maxSteps := 1000000) (disch := omega) [go_sem, t2_5, t3_5, t5_5, t6_5, ob0_5, ob1_5, or0_5] <;> omega), by first | with_reducible rfl | assumption | omega | (simp -implicitDefEqProofs (maxSteps := 1000000) (disch := omega) [go_sem, t2_5, t3_5, t5_5, t6_5, ob0_5, ob1_5, or0_5] <;> omega), by first | with_reducible rfl | assumption | omega | (simp -implicitDefEqProofs (maxSteps := 1000000) (disch := omega) [go_sem, t2_5, t3_5, t5_5, t6_5, ob0_5, ob1_5, or0_5] <;> omega), by first | with_reducible rfl | assumption | omega | (simp -implicitDefEqProofs (maxSteps := 1000000) (disch := omega) [go_sem, t2_5, t3_5, t5_5, t6_5, ob0_5, ob1_5, or0_5] <;> omega), by first | with_reducible rfl | assumption | omega | (simp -implicitDefEqProofs (maxSteps := 1000000) (disch := omega) [go_sem, t2_5, t3_5, t5_5, t6_5, ob0_5, ob1_5, or0_5] <;> omega)⟩

/-! cardcase/cardcaseref16.Same -/

noncomputable def F11 (a : List (List (List UInt8))) (b : List (List (List UInt8))) : Option Bool :=
  gd (a.length = 8) (gd (b.length = 8) ((F14 a b).bind fun (x5 : List Int) => some (decide ((x5.length : Int) = 0))))

set_option maxHeartbeats 8000000 in
set_option pp.deepTerms false in
set_option maxRecDepth 8000 in
theorem F11_ok {H : IHeap} {K : IEnd → IHeap → Prop} (a : List (List (List UInt8))) (b : List (List (List UInt8))) {r : Bool} (h : F11 a b = some r) (hK : K (.ret (.v (.bool r))) H) : ICalls prog 12 [.ag (a.map fun x => .sl 1 (x.map fun x => [.v (str x)])), .ag (b.map fun x => .sl 1 (x.map fun x => [.v (str x)]))] H K := by
  refine ICalls_iwp (N := 10) func12 (by kernel_rfl) rfl (by kernel_rfl) (by kernel_rfl) fun cb hcb hw hbd hnb => ?_
  clear hbd hnb
  subst hcb
  unfold F11 at h
  refine IWp_seqF fun cb hc1 => ?_
  refine vc_sound _ (by kernel_rfl) _ _ _ ?_
  simp -implicitDefEqProofs (maxSteps := 1000000) (disch := omega) [go_sem]
  subst hc1
  refine IWp_seqF fun cb hc2 => ?_
  refine vc_sound _ (by kernel_rfl) _ _ _ ?_
  obtain ⟨g3, h⟩ := gd_some.1 h
  try simp -implicitDefEqProofs (disch := omega) at g3
  obtain ⟨g4, h⟩ := gd_some.1 h
  try simp -implicitDefEqProofs (disch := omega) at g4
  simp -implicitDefEqProofs (maxSteps := 1000000) (disch := omega) [go_sem, g3, g4]
  obtain ⟨x5, hx5, h⟩ := bind_some' h
  refine ICalls.eqA (args' := [.ag (a.map fun x => .sl 1 (x.map fun x => [.v (str x)])), .ag (b.map fun x => .sl 1 (x.map fun x => [.v (str x)]))]) (by first | with_reducible rfl | (simp -implicitDefEqProofs (maxSteps := 1000000) (disch := omega) [go_sem, g3, g4] <;> omega)) (F14_ok a b hx5 ?_)
  simp -implicitDefEqProofs (maxSteps := 1000000) (disch := omega) [go_sem, g3, g4]
  subst hc2
  refine vc_sound _ (by kernel_rfl) _ _ _ ?_
  simp -implicitDefEqProofs only [go_sem]
  have er := Option.some.inj h
  subst er
  simp -implicitDefEqProofs (maxSteps := 1000000) (disch := omega) [go_sem, g3, g4]
  refine retG_pureE (by repeat (first | exact (Ext.refl hw) | refine Ext.new ?_ _ | refine Ext.set ?_ (by first | omega | (simp [go_sem]; omega)) _ | refine Ext.del ?_ (by first | omega | (simp [go_sem]; omega)))) (by first | with_reducible rfl | (simp -implicitDefEqProofs (maxSteps := 1000000) (disch := omega) [go_sem, g3, g4] <;> omega)) ?_ hK
  simp [NB_v, NB_sl, NB_ag, NB_tu]

end Go.Idl

namespace Go.Idl

open Go

theorem wrap_nat {i : Nat} (h : i < 9223372036854775807) : IntKind.i64.wrap ((i : Int) + 1) = ((i + 1 : Nat) : Int) := by
  rw [wrap_i64 (by omega) (by omega)]; rfl

theorem loopO_for {ρ : Type} {step : Int → Option (Int ⊕ ρ)} {Post : ρ → Prop} (n : Nat) (Inv : Nat → Prop) (h0 : Inv 0)
    (hs : ∀ i : Nat, i < n → Inv i → (step i = some (.inl ((i + 1 : Nat) : Int)) ∧ Inv (i + 1)) ∨ ∃ r, step i = some (.inr r) ∧ Post r)
    (hf : Inv n → ∃ r, step n = some (.inr r) ∧ Post r) : ∃ r, loopO step 0 = some r ∧ Post r := by
  refine loopO_inv (fun s : Int => ∃ i : Nat, i ≤ n ∧ s = (i : Int) ∧ Inv i) (fun s : Int => n - s.toNat) ?_ ⟨0, Nat.zero_le _, rfl, h0⟩
  rintro s ⟨i, hi, rfl, hI⟩
  by_cases h : i < n
  · rcases hs i h hI with ⟨h1, h2⟩ | h1
    · exact .inl ⟨_, h1, ⟨i + 1, h, rfl, h2⟩, by simp; omega⟩
    · exact .inr h1
  · have e : i = n := by omega
    subst e
    exact .inr (hf hI)

theorem loopO_for2 {σ ρ : Type} {step : σ × Int → Option ((σ × Int) ⊕ ρ)} {Post : ρ → Prop} (n : Nat) (Inv : Nat → σ → Prop) {a : σ} (h0 : Inv 0 a)
    (hs : ∀ (i : Nat) (a : σ), i < n → Inv i a → (∃ a', step (a, (i : Int)) = some (.inl (a', ((i + 1 : Nat) : Int))) ∧ Inv (i + 1) a') ∨ ∃ r, step (a, (i : Int)) = some (.inr r) ∧ Post r)
    (hf : ∀ a, Inv n a → ∃ r, step (a, (n : Int)) = some (.inr r) ∧ Post r) : ∃ r, loopO step (a, 0) = some r ∧ Post r := by
  refine loopO_inv (fun s : σ × Int => ∃ i : Nat, i ≤ n ∧ s.2 = (i : Int) ∧ Inv i s.1) (fun s : σ × Int => n - s.2.toNat) ?_ ⟨0, Nat.zero_le _, rfl, h0⟩
  rintro ⟨a, s⟩ ⟨i, hi, hs2, hI⟩
  simp only at hs2 hI
  subst hs2
  by_cases h : i < n
  · rcases hs i a h hI with ⟨a', h1, h2⟩ | h1
    · exact .inl ⟨_, h1, ⟨i + 1, h, rfl, h2⟩, by simp; omega⟩
    · exact .inr h1
  · have e : i = n := by omega
    subst e
    exact .inr (hf a hI)

theorem getD_some {α : Type} {l : List α} {i : Nat} (h : i < l.length) (d : α) : l.getD i d = l[i] := by simp [h]

end Go.Idl

namespace Go.Idl

open Go

abbrev Str := List UInt8

def textsOk (l : List Str) : Bool := decide (l.length ≤ 20 ∧ ∀ s ∈ l, s.length ≤ 400)

theorem F7_eq (l : List Str) : F7 l = some (textsOk l) := by
  unfold F7
  by_cases hc : 20 < (l.length : Int)
  · rw [if_pos hc]
    have : textsOk l = false := by simp [textsOk]; omega
    rw [this]
  · rw [if_neg hc]
    obtain ⟨r, h1, h2⟩ := loopO_for (step := fun (s : Int) => F7_b8 l s) (Post := fun y => (y = .inl () ∧ ∀ s ∈ l, s.length ≤ 400) ∨ (y = .inr false ∧ ¬ ∀ s ∈ l, s.length ≤ 400)) l.length (fun i => ∀ s ∈ l.take i, s.length ≤ 400) (by simp)
      (fun i hi hI => by
        have hw := wrap_nat (i := i) (by omega)
        simp only [F7_b8]
        rw [if_pos (by omega), gd_pos (by omega), Int.toNat_natCast, getD_some hi]
        by_cases h : 400 < (l[i].length : Int)
        · rw [if_pos h]
          exact .inr ⟨_, rfl, .inr ⟨rfl, fun h' => by have := h' l[i] (List.getElem_mem _); omega⟩⟩
        · rw [if_neg h, hw]
          refine .inl ⟨rfl, fun s hs => ?_⟩
          rw [List.take_succ_eq_append_getElem hi, List.mem_append] at hs
          rcases hs with hs | hs
          · exact hI s hs
          · simp at hs; subst hs; omega)
      (fun hI => by
        simp only [F7_b8]
        rw [if_neg (by omega)]
        exact ⟨_, rfl, .inl ⟨rfl, by simpa using hI⟩⟩)
    rw [h1]
    rcases h2 with ⟨rfl, h⟩ | ⟨rfl, h⟩
    · have : textsOk l = true := by simp only [textsOk, decide_eq_true_eq]; exact ⟨by omega, h⟩
      simp [F7_k8, this]
    · have : textsOk l = false := by simp only [textsOk, decide_eq_false_iff_not]; exact fun h' => h h'.2
      simp [this]

theorem F17_eq (a b : List Str) (ha : a.length ≤ 1000000) : F17 a b = some (decide (a = b)) := by
  unfold F17
  by_cases hc : (a.length : Int) = b.length
  · rw [if_neg (by simpa using hc)]
    obtain ⟨r, h1, h2⟩ := loopO_for (step := fun (s : Int) => F17_b8 a b s) (Post := fun y => (y = .inl () ∧ a = b) ∨ (y = .inr false ∧ a ≠ b)) a.length (fun i => a.take i = b.take i) (by simp)
      (fun i hi hI => by
        have hw := wrap_nat (i := i) (by omega)
        have hib : i < b.length := by omega
        simp only [F17_b8]
        rw [if_pos (by omega), gd_pos (by omega), gd_pos (by omega), Int.toNat_natCast, getD_some hi, getD_some hib]
        by_cases h : a[i] = b[i]
        · rw [if_neg (by simpa using h), hw]
          exact .inl ⟨rfl, by rw [List.take_succ_eq_append_getElem hi, List.take_succ_eq_append_getElem hib, hI, h]⟩
        · rw [if_pos h]
          exact .inr ⟨_, rfl, .inr ⟨rfl, by rintro rfl; exact h rfl⟩⟩)
      (fun hI => by
        simp only [F17_b8]
        rw [if_neg (by omega)]
        have e : b.length = a.length := by omega
        rw [List.take_length, ← e, List.take_length] at hI
        exact ⟨_, rfl, .inl ⟨rfl, hI⟩⟩)
    rw [h1]
    rcases h2 with ⟨rfl, h⟩ | ⟨rfl, h⟩
    · simp [F17_k8, h]
    · simp [h]
  · rw [if_pos hc]
    have : ¬ a = b := by rintro rfl; exact hc rfl
    simp [this]

def lightS (c : List (List Str)) : Bool := decide (∀ l ∈ c, textsOk l = true)

theorem F6_eq (c : List (List Str)) (hc : c.length = 8) : F6 c = some (lightS c) := by
  unfold F6
  obtain ⟨r, h1, h2⟩ := loopO_for (step := fun (s : Int) => F6_b4 c s) (Post := fun y => (y = .inl () ∧ ∀ l ∈ c, textsOk l = true) ∨ (y = .inr false ∧ ¬ ∀ l ∈ c, textsOk l = true)) 8 (fun i => ∀ l ∈ c.take i, textsOk l = true) (by simp)
    (fun i hi hI => by
      have hw := wrap_nat (i := i) (by omega)
      have hi' : i < c.length := by omega
      simp only [F6_b4]
      rw [if_pos (by omega), gd_pos (by omega), gd_pos hc, Int.toNat_natCast, getD_some hi', F7_eq]
      simp only [Option.bind_some]
      by_cases h : textsOk c[i] = true
      · rw [if_neg (by simpa using h), hw]
        refine .inl ⟨rfl, fun s hs => ?_⟩
        rw [List.take_succ_eq_append_getElem hi', List.mem_append] at hs
        rcases hs with hs | hs
        · exact hI s hs
        · simp at hs; subst hs; exact h
      · rw [if_pos h]
        exact .inr ⟨_, rfl, .inr ⟨rfl, fun h' => h (h' _ (List.getElem_mem _))⟩⟩)
    (fun hI => by
      simp only [F6_b4]
      rw [if_neg (by omega)]
      refine ⟨_, rfl, .inl ⟨rfl, ?_⟩⟩
      rwa [List.take_of_length_le (by omega)] at hI)
  rw [h1]
  rcases h2 with ⟨rfl, h⟩ | ⟨rfl, h⟩
  · have : lightS c = true := by simp only [lightS, decide_eq_true_eq]; exact h
    simp [F6_k4, this]
  · have : lightS c = false := by simp only [lightS, decide_eq_false_iff_not]; exact h
    simp [this]

theorem F40_eq (f : Int) : F40 f = some (mostS f) := by
  unfold F40 mostS
  split <;> rfl

def nS' (l : List Nat) : List Int := l.map fun (n : Nat) => (n : Int)

theorem F14_eq (a b : List (List Str)) (ha : a.length = 8) (hb : b.length = 8) (hs : ∀ l ∈ a, l.length ≤ 1000000) : F14 a b = some (nS' (differS a b 8)) := by
  unfold F14
  obtain ⟨r, h1, h2⟩ := loopO_for2 (step := fun (s : (List Int) × Int) => F14_b5 a b s.1 s.2) (Post := fun y => y = nS' (differS a b 8)) 8 (fun i o => o = nS' (differS a b i)) (a := []) rfl
    (fun i o hi hI => by
      have hw := wrap_nat (i := i) (by omega)
      have hia : i < a.length := by omega
      have hib : i < b.length := by omega
      simp only [F14_b5]
      rw [if_pos (by omega), gd_pos (by omega), gd_pos ha, gd_pos hb, Int.toNat_natCast, getD_some hia, getD_some hib, F17_eq _ _ (hs _ (List.getElem_mem _))]
      have hsu := differ_succ a b i
      rw [getD_some hia, getD_some hib] at hsu
      have hl : o.length ≤ 8 := by
        rw [hI]
        simp only [nS', differS, List.length_map]
        exact Nat.le_trans (List.length_filter_le _ _) (by simp; omega)
      simp only [Option.bind_some]
      by_cases h : a[i] = b[i]
      · rw [if_neg (by simpa using h), hw]
        refine .inl ⟨_, rfl, ?_⟩
        rw [hI, hsu, if_pos h, List.append_nil]
      · rw [if_pos (by simpa using h), gd_pos (by simp; omega), hw]
        refine .inl ⟨_, rfl, ?_⟩
        rw [hI, hsu, if_neg h]
        simp [nS'])
    (fun o hI => by
      simp only [F14_b5]
      rw [if_neg (by omega)]
      exact ⟨_, rfl, hI⟩)
  rw [h1, h2]
  rfl

theorem F11_eq (a b : List (List Str)) (ha : a.length = 8) (hb : b.length = 8) (hs : ∀ l ∈ a, l.length ≤ 1000000) : F11 a b = some (decide (a = b)) := by
  unfold F11
  rw [gd_pos ha, gd_pos hb, F14_eq a b ha hb hs]
  have := differ_nil ha hb
  simp [nS', this]

def valuesR (f : Int) (l : List Str) : Bool := fieldOk f l && (!decide (f = 0) || decide (l.length = 1))

theorem F24_eq (f : Int) (l : List Str) (hl : l.length ≤ 1000000 ∧ ∀ s, s ∈ l → s.length ≤ 1000000) : F24 f l = some (valuesR f l) := by
  unfold F24
  rw [F40_eq]
  simp only [Option.bind_some]
  by_cases h1 : mostS f < (l.length : Int)
  · rw [if_pos h1]
    have : ¬ ((l.length : Int) ≤ mostS f) := by omega
    simp [valuesR, fieldOk, this]
  · rw [if_neg h1]
    have main : ((!decide (f = 0) || decide (l.length = 1)) = true) → F24_k2 f l = some (valuesR f l) := by
      intro hz
      unfold F24_k2
      obtain ⟨r, q1, q2⟩ := loopO_for (step := fun (s : Int) => F24_b5 f l s) (Post := fun y => (y = .inl () ∧ l.all (valueS f) = true ∧ risesS l = true) ∨ (y = .inr false ∧ (l.all (valueS f) && risesS l) = false)) l.length (fun i => (l.take i).all (valueS f) = true ∧ risesS (l.take i) = true) (by simp [risesS])
        (fun i hi hI => by
          have hw := wrap_nat (i := i) (by omega)
          have hli := hl.2 l[i] (List.getElem_mem _)
          -- the bytes of a value
          have inner : 1 ≤ l[i].length → l[i].length ≤ 200 → F24_k12 f l i = if valueS f l[i] = true then some (.inl ((i + 1 : Nat) : Int)) else some (.inr (.inr false)) := by
            intro hlo hhi
            unfold F24_k12
            obtain ⟨r, p1, p2⟩ := loopO_for (step := fun (s : Int) => F24_b14 f l i s) (Post := fun y => (y = .inl () ∧ l[i].all (byteOk f) = true) ∨ (y = .inr false ∧ l[i].all (byteOk f) = false)) l[i].length (fun j => (l[i].take j).all (byteOk f) = true) (by simp)
              (fun j hj hJ => by
                have hwj := wrap_nat (i := j) (by omega)
                simp only [F24_b14]
                rw [gd_pos (by omega), Int.toNat_natCast, getD_some hi, if_pos (by omega), gd_pos (by omega), Int.toNat_natCast, getD_some hj, hwj]
                have bad : byteOk f l[i][j] = false → l[i].all (byteOk f) = false := fun h => by
                  rw [List.all_eq_false]
                  exact ⟨l[i][j], List.getElem_mem _, by simp [h]⟩
                have good : byteOk f l[i][j] = true → (l[i].take (j + 1)).all (byteOk f) = true := fun h => by
                  rw [List.take_succ_eq_append_getElem hj, List.all_append, hJ]
                  simp [h]
                by_cases b1 : ((l[i][j].toNat : Int)) < 32
                · rw [if_pos b1]
                  by_cases b2 : ((l[i][j].toNat : Int)) = 10
                  · rw [if_neg (by simpa using b2)]
                    by_cases b3 : f = 5
                    · rw [if_neg (by simpa using b3)]
                      exact .inl ⟨rfl, good (by simp [byteOk, b3]; omega)⟩
                    · rw [if_pos b3]
                      exact .inr ⟨_, rfl, .inr ⟨rfl, bad (by simp [byteOk, b3]; omega)⟩⟩
                  · rw [if_pos b2]
                    exact .inr ⟨_, rfl, .inr ⟨rfl, bad (by simp [byteOk]; omega)⟩⟩
                · rw [if_neg b1]
                  exact .inl ⟨rfl, good (by simp [byteOk]; omega)⟩)
              (fun hJ => by
                simp only [F24_b14]
                rw [gd_pos (by omega), Int.toNat_natCast, getD_some hi, if_neg (by omega)]
                rw [List.take_length] at hJ
                exact ⟨_, rfl, .inl ⟨rfl, hJ⟩⟩)
            rw [p1]
            rcases p2 with ⟨rfl, h⟩ | ⟨rfl, h⟩
            · simp [F24_k14, valueS, h, hlo, hhi, hw]
            · simp [valueS, h]
          have badv : valueS f l[i] = false → (l.all (valueS f) && risesS l) = false := fun h => by
            have : l.all (valueS f) = false := by
              rw [List.all_eq_false]
              exact ⟨l[i], List.getElem_mem _, by simp [h]⟩
            rw [this, Bool.false_and]
          have step2 : (i = 0 ∨ risesS (l.take (i + 1)) = true) → 1 ≤ l[i].length → l[i].length ≤ 200 → (F24_k12 f l i = some (.inl ((i + 1 : Nat) : Int)) ∧ ((l.take (i + 1)).all (valueS f) = true ∧ risesS (l.take (i + 1)) = true)) ∨ ∃ r, F24_k12 f l i = some (.inr r) ∧ ((r = .inl () ∧ l.all (valueS f) = true ∧ risesS l = true) ∨ (r = .inr false ∧ (l.all (valueS f) && risesS l) = false)) := by
            intro hr hlo hhi
            rw [inner hlo hhi]
            cases hv : valueS f l[i] with
            | true =>
              refine .inl ⟨rfl, ?_, ?_⟩
              · rw [List.take_succ_eq_append_getElem hi, List.all_append, hI.1]
                simp [hv]
              · rcases hr with rfl | hr
                · cases l with
                  | nil => simp at hi
                  | cons x t => simp [risesS]
                · exact hr
            | false => exact .inr ⟨_, rfl, .inr ⟨rfl, badv hv⟩⟩
          simp only [F24_b5]
          rw [if_pos (by omega), gd_pos (by omega), Int.toNat_natCast, getD_some hi]
          by_cases c1 : (l[i].length : Int) < 1
          · rw [if_pos c1]
            exact .inr ⟨_, rfl, .inr ⟨rfl, badv (by simp [valueS]; omega)⟩⟩
          · rw [if_neg c1]
            by_cases c2 : 200 < (l[i].length : Int)
            · rw [if_pos c2]
              exact .inr ⟨_, rfl, .inr ⟨rfl, badv (by simp [valueS]; omega)⟩⟩
            · rw [if_neg c2]
              by_cases c3 : 0 < (i : Int)
              · have e1 : IntKind.i64.wrap ((i : Int) - 1) = ((i - 1 : Nat) : Int) := by rw [wrap_i64 (by omega) (by omega)]; omega
                have hi1 : i - 1 < l.length := by omega
                have hrt := rises_take l i (by omega) hi
                rw [if_pos c3, e1, gd_pos (by omega), Int.toNat_natCast, getD_some hi1]
                by_cases c4 : Op.bytesLess l[i - 1] l[i] = true
                · rw [if_neg (by simpa using c4)]
                  exact step2 (.inr (by rw [hrt, hI.2, c4]; rfl)) (by omega) (by omega)
                · rw [if_pos c4]
                  refine .inr ⟨_, rfl, .inr ⟨rfl, ?_⟩⟩
                  have : risesS l = false := by
                    cases hh : risesS l with
                    | false => rfl
                    | true =>
                      have := rises_pref l (i + 1) hh
                      rw [hrt] at this
                      simp [c4] at this
                  rw [this, Bool.and_false]
              · rw [if_neg c3]
                exact step2 (.inl (by omega)) (by omega) (by omega))
        (fun hI => by
          simp only [F24_b5]
          rw [if_neg (by omega)]
          rw [List.take_length] at hI
          exact ⟨_, rfl, .inl ⟨rfl, hI⟩⟩)
      rw [q1]
      have hm : (l.length : Int) ≤ mostS f := by omega
      rcases q2 with ⟨rfl, h2, h3⟩ | ⟨rfl, h2⟩
      · have e : (l.any fun s => !valueS f s) = false := by
          rw [List.any_eq_false]
          intro s hs'
          simp [List.all_eq_true.1 h2 s hs']
        simp [F24_k5, valuesR, fieldOk, e, h3, hm, hz]
      · have e : (!(l.any fun s => !valueS f s) && risesS l) = false := by
          rw [← h2]
          congr 1
          rw [Bool.eq_iff_iff]
          simp
        simp only [Option.bind_some, Sum.elim_inr, valuesR, fieldOk, Bool.and_assoc] at e ⊢
        rw [← Bool.and_assoc (!_), e]
        simp
    by_cases h2 : f = 0
    · rw [if_pos h2]
      by_cases h3 : (l.length : Int) = 1
      · rw [if_neg (by simpa using h3)]
        exact main (by simp; omega)
      · rw [if_pos h3]
        have : ¬ l.length = 1 := by omega
        simp [valuesR, h2, this]
    · rw [if_neg h2]
      exact main (by simp [h2])

def smallC (c : List (List Str)) : Prop := c.length = 8 ∧ ∀ l ∈ c, l.length ≤ 1000000 ∧ ∀ s ∈ l, s.length ≤ 1000000

theorem check_iff (c : List (List Str)) (hc : c.length = 8) : checkS c = true ↔ ∀ (i : Nat) (h : i < c.length), valuesR i c[i] = true := by
  unfold checkS
  simp only [Bool.and_eq_true, List.all_eq_true, decide_eq_true_eq]
  constructor
  · rintro ⟨h1, h2⟩ i hi
    have := h1 (c[i], i) (by rw [List.mem_zipIdx_iff_getElem?]; simp [hi])
    simp only [valuesR, this, Bool.true_and, Bool.or_eq_true, Bool.not_eq_true', decide_eq_false_iff_not, decide_eq_true_eq]
    by_cases e : i = 0
    · subst e
      rw [getD_some hi] at h2
      exact .inr h2
    · exact .inl (by omega)
  · intro h
    refine ⟨fun p hp => ?_, ?_⟩
    · obtain ⟨l, i⟩ := p
      rw [List.mem_zipIdx_iff_getElem?] at hp
      obtain ⟨hi, he⟩ := List.getElem?_eq_some_iff.1 hp
      have := h i hi
      simp only [valuesR, Bool.and_eq_true] at this
      simp only at he
      rw [← he]; exact this.1
    · have h0 : 0 < c.length := by omega
      have := h 0 h0
      simp only [valuesR, Bool.and_eq_true] at this
      rw [getD_some h0]
      simpa using this.2

theorem F10_eq (c : List (List Str)) (hs : smallC c) : F10 c = some (checkS c) := by
  obtain ⟨hc, hs⟩ := hs
  unfold F10
  obtain ⟨r, h1, h2⟩ := loopO_for (step := fun (s : Int) => F10_b4 c s) (Post := fun y => (y = .inl () ∧ checkS c = true) ∨ (y = .inr false ∧ checkS c = false)) 8 (fun i => ∀ (j : Nat) (h : j < c.length), j < i → valuesR j c[j] = true) (by intro j _ h; omega)
    (fun i hi hI => by
      have hw := wrap_nat (i := i) (by omega)
      have hi' : i < c.length := by omega
      simp only [F10_b4]
      rw [if_pos (by omega), gd_pos (by omega), gd_pos hc, Int.toNat_natCast, getD_some hi', F24_eq _ _ (hs _ (List.getElem_mem _))]
      simp only [Option.bind_some]
      by_cases h : valuesR i c[i] = true
      · rw [if_neg (by simpa using h), hw]
        refine .inl ⟨rfl, fun j hj hji => ?_⟩
        by_cases e : j = i
        · subst e; exact h
        · exact hI j hj (by omega)
      · rw [if_pos h]
        refine .inr ⟨_, rfl, .inr ⟨rfl, ?_⟩⟩
        rw [Bool.eq_false_iff]
        intro h'
        exact h ((check_iff c hc).1 h' i hi'))
    (fun hI => by
      simp only [F10_b4]
      rw [if_neg (by omega)]
      exact ⟨_, rfl, .inl ⟨rfl, (check_iff c hc).2 fun i hi => hI i hi (by omega)⟩⟩)
  rw [h1]
  rcases h2 with ⟨rfl, h⟩ | ⟨rfl, h⟩
  · simp [F10_k4, h]
  · simp [h]

/-! ### Values put in order -/

end Go.Idl

namespace Go.Idl

open Go Go.RowKit Go.Proofs Go.Shelf

variable {P : Program} {N : Nat} {tm : Tm} {H : IHeap}

def Bld (T e : TypeId) (H : IHeap) (n0 k : Nat) (l : List UInt8) : Prop :=
  n0 ≤ k ∧ ∃ a buf, H.obj k = some (.ty T (.cells [a, buf])) ∧ (a = .v (.pointer none) ∨ a = .p k 0) ∧
    ((l = [] ∧ buf = .v (.slice none 0 0)) ∨ ∃ kb, n0 ≤ kb ∧ kb ≠ k ∧ buf = .os kb l.length ∧ H.obj kb = some (.ty e (.row 1 (byt l))))

def isTR : HO → Bool
  | .ty _ (.row _ _) => true
  | _ => false

structure BStep (H J : IHeap) (n0 k : Nat) : Prop where
  le : H.next ≤ J.next
  keep : ∀ i o, H.obj i = some o → i ≠ k → (i < n0 ∨ isTR o = false) → J.obj i = some o
  sn : J.sn = H.sn

theorem args1 {w : World} {g : Gs} {vs : Array Value} {i : IV} (rl : RL w g vs [i]) : ∃ x, vs = #[x] ∧ R w g x i := by
  obtain ⟨h1, h2⟩ := rl
  have hs : vs.size = 1 := h1
  refine ⟨vs[0], ?_, h2 0 _ _ (Array.getElem?_eq_getElem (by omega)) rfl⟩
  apply Array.ext
  · simpa using hs
  · intro j h3 h4
    have e : j = 0 := by omega
    subst e
    rfl

theorem ICalls_copyCheck {f : FuncId} {T : TypeId} (hbd : hasBody P f = true)
    (hfresh : ∀ (b : Nat) (w : World), w.cell? ⟨b, 0, none⟩ = some (.pointer none) → w.shape? b = some (T, 2) → w.frozen? ⟨b, 0, none⟩ = false → Calls P f #[.pointer (some ⟨b, 0, none⟩)] w fun e w' => e = .returned (.tuple #[]) ∧ w' = w.setCell ⟨b, 0, none⟩ (.pointer (some ⟨b, 0, none⟩)))
    (hused : ∀ (b : Nat) (w : World), w.cell? ⟨b, 0, none⟩ = some (.pointer (some ⟨b, 0, none⟩)) → Calls P f #[.pointer (some ⟨b, 0, none⟩)] w fun e w' => e = .returned (.tuple #[]) ∧ w' = w)
    {K : IEnd → IHeap → Prop} (k : Nat) (a buf : IV) (ho : H.obj k = some (.ty T (.cells [a, buf])))
    (ha : a = .v (.pointer none) ∨ a = .p k 0) (hK : K (.ret (.tu [])) (H.set k (.ty T (.cells [.p k 0, buf])))) : ICalls P f [.p k 0] H K := by
  refine ⟨hbd, fun w g vs s rl => ?_⟩
  obtain ⟨x, rfl, hx⟩ := args1 rl
  obtain ⟨b, xs, hmu, rfl, hb, hsz, hc⟩ := s.ty_at ho hx
  have hsz2 : xs.size = 2 := hsz
  have hlt := heap_lt hb
  obtain ⟨x0, hx0, hx0', hr0⟩ := hc.2 0 a rfl
  obtain ⟨x1, hx1, hx1', hr1⟩ := hc.2 1 buf rfl
  have hcell : w.cell? ⟨b, 0, none⟩ = some x0 := by simp [World.cell?, hb, hx0]
  have hsh : g.sh k = some .fx := by rw [s.sh, IHeap.sh, ho]; rfl
  have hk1 : k < g.nx := by rw [s.nx]; exact s.lt k (by rw [ho]; rfl)
  have hp0 : ∀ w', R w' g (.pointer (some ⟨b, 0, none⟩)) (.p k 0) := fun w' => .p k 0 _ hk1 ⟨_, rfl⟩ fun _ _ _ => ⟨b, hmu, rfl⟩
  rcases ha with rfl | rfl
  · rw [hr0.v_eq] at hcell
    have := hfresh b w hcell (by simp [World.shape?, hb, hsz2]) (by simp [World.frozen?, hb])
    refine this.mono ?_
    rintro e w' ⟨rfl, rfl⟩
    rw [setCell_put hb]
    have hp := s.put (w' := w.putObj b (.cells (xs.setIfInBounds 0 (.pointer (some ⟨b, 0, none⟩))) T (0, 0))) k b (.ty T (.cells [.v (.pointer none), buf])) (.ty T (.cells [.p k 0, buf])) ho rfl (by rw [hmu]; rfl) (by simp) rfl rfl rfl
      (fun i hi => World.putObj_heap_other hi)
      (fun m => ⟨⟨b, _, T, (0, 0), hmu, by rw [putObj_get _ _ _ hlt, if_pos rfl], freeZ_zero _, by simp [hsz2], fun j c hj => by
          match j, hj with
          | 0, hj => simp at hj; subst hj; exact ⟨.pointer (some ⟨b, 0, none⟩), by simp [hsz2], rfl, hp0 _⟩
          | 1, hj => simp at hj; subst hj; exact ⟨x1, by rw [Array.getElem?_setIfInBounds_ne (by omega)]; exact hx1, hx1', hr1.mono m⟩
          | j + 2, hj => simp at hj⟩, fun b' hb' => by
        rw [hmu] at hb'
        simp only [blk, Option.some.injEq] at hb'
        subst hb'
        exact ⟨_, by rw [putObj_get _ _ _ hlt, if_pos rfl], fun cs' e => by cases e; simp [hsz2]⟩⟩)
    exact ⟨.ret (.tu []), g, _, hp.2, hp.1, .ret _ _ (.tu _ _ rfl (by simp)), hK⟩
  · have hxx : x0 = .pointer (some ⟨b, 0, none⟩) := by
      obtain ⟨_, _, hq⟩ := hr0.p_inv
      obtain ⟨b', q1, q2⟩ := hq .fx hsh rfl
      rw [hmu] at q1
      cases q1
      exact q2
    rw [hxx] at hcell
    have := hused b w hcell
    refine this.mono ?_
    rintro e w' ⟨rfl, rfl⟩
    have hset : H.set k (.ty T (.cells [.p k 0, buf])) = H := by
      unfold IHeap.set
      congr 1
      funext i
      split
      · rename_i e; subst e; exact ho.symm
      · rfl
    rw [hset] at hK
    exact ⟨.ret (.tu []), g, H, .refl _ _, s, .ret _ _ (.tu _ _ rfl (by simp)), hK⟩

set_option maxHeartbeats 2000000 in
set_option maxRecDepth 100000 in
/-- The text of a builder that holds a byte, with the world behind it. -/
theorem bString_run {ρ : Go.Shelf.Ren} (L : Lays.n169 P ρ) (X : Builder.Extra P ρ) (b g cap : Nat) (p : Value) (cur : Array Value) (l : List UInt8) (w : World) (hbk : w.heap[b]? = some (.cells #[p, .slice (some ⟨g, 0, none⟩) l.length cap] (ρ.t 72) (0, 0))) (hg : w.heap[g]? = some (.cells cur (ρ.t 5) (0, 0)))
    (h0 : l ≠ []) (hnc : l.length ≤ cap) (hcs : l.length ≤ cur.size) (hcm : l.length ≤ 9223372036854775807) (hc : ∀ (j : Nat) (x : UInt8), l[j]? = some x → cur[j]? = some (Value.int .u8 x.toNat)) :
    Calls P (ρ.f 169) #[.pointer (some ⟨b, 0, none⟩)] w fun e w' => e = .returned (.string ⟨l.toArray⟩) ∧ w' = w.drew.freeze ⟨g, 0, none⟩ l.length := by
  have hl0 : l.length ≠ 0 := by simpa using h0
  have c1 : w.drew.cell? ⟨b, 1, none⟩ = some (.slice (some ⟨g, 0, none⟩) l.length cap) := by
    have : w.drew.heap[b]? = some (.cells #[p, .slice (some ⟨g, 0, none⟩) l.length cap] (ρ.t 72) (0, 0)) := hbk
    rw [Lib.cell_of_heap this]; rfl
  have hSD : (Builtin.unsafeSliceData_ #[(ρ.t 37)] (ρ.t 127) #[.slice (some ⟨g, 0, none⟩) l.length cap]).run P w.drew = .ok (.pointer (some ⟨g, 0, none⟩)) w.drew :=
    Lib.run_unsafeSliceData_row _ _ _ _ _ _ (by omega)
  have hUS : (Builtin.unsafeString_ #[(ρ.t 127), (ρ.t 3)] (ρ.t 9) #[.pointer (some ⟨g, 0, none⟩), .int .i64 l.length]).run P w.drew = .ok (.string ⟨l.toArray⟩) (w.drew.freeze ⟨g, 0, none⟩ l.length) := by
    refine Lib.run_unsafeString_row w.drew (ρ.t 127) (ρ.t 3) (ρ.t 9) (ρ.t 5) L.t127 X.cellsByte g cur.size (by have hg' : w.drew.heap[g]? = some (.cells cur (ρ.t 5) (0, 0)) := hg; simp [World.shape?, hg']) l h0 (by omega) (by omega) ?_
    intro j x hx
    have hg' : w.drew.heap[g]? = some (.cells cur (ρ.t 5) (0, 0)) := hg
    have := hc j x hx
    rw [addr_add, Nat.zero_add, Lib.cell_of_heap hg']
    exact this
  have mixed := L.mixed
  have t72 := L.t72; have a72 := L.a72; have z72 := L.z72; have v72 := L.v72; have u72 := run_underlying L.t72
  have t70 := L.t70; have a70 := L.a70; have z70 := L.z70; have v70 := L.v70; have u70 := run_underlying L.t70
  have t37 := L.t37; have a37 := L.a37; have z37 := L.z37; have v37 := L.v37; have u37 := run_underlying L.t37
  have t127 := L.t127; have a127 := L.a127; have z127 := L.z127; have v127 := L.v127; have u127 := run_underlying L.t127
  have t3 := L.t3; have a3 := L.a3; have z3 := L.z3; have v3 := L.v3; have u3 := run_underlying L.t3
  have t9 := L.t9; have a9 := L.a9; have z9 := L.z9; have v9 := L.v9; have u9 := run_underlying L.t9
  have t5 := X.t5; have a5 := X.a5; have z5 := X.z5; have v5 := X.v5; have u5 := run_underlying X.t5
  go_enter L.f169, Body.n169_ntmps ρ
  go_wp2
  go_region_o
  all_goals (go_wp2; go_ret; exact ⟨rfl, rfl⟩)

theorem Sim.dropTurn {w w' : World} {g : Gs} (s : Sim w g H) {k b : Nat} {o : HO} (hk : H.obj k = some o) (hb : blk (g.mu k) = some b) (size : w'.heap.size = w.heap.size) (os : w'.os = w.os) (tape : w'.tape = w.tape) (output : w'.output = w.output)
    (same : ∀ i, i ≠ b → w'.heap[i]? = w.heap[i]?) : Sim w' (g.to (H.del k)) (H.del k) ∧ Mono w g w' (g.to (H.del k)) := by
  have hlive : (g.sh k).isSome = true := by rw [s.sh, IHeap.sh, hk]; rfl
  have hsub : SubH (H.del k) H := fun i o h => by
    simp only [IHeap.del] at h
    split at h
    · cases h
    · exact h
  have hs := hsub.sh s
  have m : Mono w g w' (g.to (H.del k)) := by
    refine ⟨by omega, os, tape, output, fun i hi hn => ?_, fun i hi ho => to_ow hs ho, rfl, by show g.nx ≤ H.next; rw [s.nx]; exact Nat.le_refl _, ?_, ?_⟩
    · refine same i fun e => ?_
      subst e
      exact (s.bk k i hlive hb).1 (hn ⟨k, hlive, hb⟩)
    · intro i hi hf
      exact ⟨hs i _ hf, rfl⟩
    · intro i m' hi hf
      exact ⟨m', hs i _ hf, Nat.le_refl _, fun _ => rfl⟩
  refine ⟨⟨rfl, fun _ => rfl, fun i hi => ?_, fun i b' h1 h2 => ?_, fun i i' b' h1 h2 h3 h4 => ?_, fun i o' ho => ?_, fun b' hb' => by rw [size]; exact s.old b' hb', fun p hp i hi => (s.snap p hp i hi).mono m⟩, m⟩
  · obtain ⟨o', ho⟩ := Option.isSome_iff_exists.1 hi
    exact s.lt i (by rw [hsub i o' ho]; rfl)
  · obtain ⟨q, hq⟩ := Option.isSome_iff_exists.1 h1
    have := s.bk i b' (by rw [hs i q hq]; rfl) h2
    exact ⟨this.1, by rw [size]; exact this.2⟩
  · obtain ⟨q, hq⟩ := Option.isSome_iff_exists.1 h1
    obtain ⟨q', hq'⟩ := Option.isSome_iff_exists.1 h2
    exact s.inj i i' b' (by rw [hs i q hq]; rfl) (by rw [hs i' q' hq']; rfl) h3 h4
  · refine (s.obj i o' (hsub i o' ho)).mono m fun b' hb' => same b' fun e => ?_
    subst e
    have hi : (g.sh i).isSome = true := by rw [s.sh, IHeap.sh, hsub i o' ho]; rfl
    have := s.inj k i b' hlive hi hb hb'
    subst this
    simp [IHeap.del] at ho

theorem ICalls_BString {ρ : Go.Shelf.Ren} {f : FuncId} (L : Lays.n169 P ρ) (X : Builder.Extra P ρ) (hf : ρ.f 169 = f) (hbd : hasBody P f = true) {K : IEnd → IHeap → Prop} (n0 k : Nat) (l : List UInt8) (hB : Bld (ρ.t 72) (ρ.t 5) H n0 k l)
    (hK : ∀ J, BStep H J n0 k → K (.ret (.v (str l))) J) : ICalls P f [.p k 0] H K := by
  refine ⟨hbd, fun w g vs s rl => ?_⟩
  obtain ⟨x, rfl, hx⟩ := args1 rl
  obtain ⟨hn0, a, buf, ho, ha, hbuf⟩ := hB
  obtain ⟨b, xs, hmu, rfl, hb, hsz, hc⟩ := s.ty_at ho hx
  have hsz2 : xs.size = 2 := hsz
  obtain ⟨x0, hx0, hx0', hr0⟩ := hc.2 0 a rfl
  obtain ⟨x1, hx1, hx1', hr1⟩ := hc.2 1 buf rfl
  have hxs : xs = #[x0, x1] := by
    apply Array.ext
    · simpa using hsz2
    · intro i h1 h2
      match i, h2 with
      | 0, _ => have := Array.getElem?_eq_some_iff.1 hx0; simpa using this.2
      | 1, _ => have := Array.getElem?_eq_some_iff.1 hx1; simpa using this.2
      | i + 2, h2 => exact absurd h2 (by simp)
  subst hxs
  have same : BStep H H n0 k := ⟨Nat.le_refl _, fun _ _ h _ _ => h, rfl⟩
  have empty : l = [] → ∀ w', Below w.heap.size w w' → ∃ ie g' H', Mono w g w' g' ∧ Sim w' g' H' ∧ RE w' g' (.returned (.string ⟨#[]⟩)) ie ∧ K ie H' := by
    intro hl w' hbl
    subst hl
    have hg := s.grow hbl.size hbl.os hbl.tape hbl.output hbl.block
    exact ⟨.ret (.v (str [])), g, H, hg.2, hg.1, .ret _ _ (.v _), hK H same⟩
  rcases hbuf with ⟨hl, rfl⟩ | ⟨kb, hkb, hne, rfl, hob⟩
  · have h1 := hr1.v_eq
    subst h1
    have := Any.Builder_String_nil L X w.heap.size b x0 w hb
    rw [hf] at this
    refine this.mono ?_
    rintro e w' ⟨rfl, hbl⟩
    exact empty hl w' hbl
  · obtain ⟨⟨aa, cap, hm, h2, h3, _, _, h5⟩, hpin⟩ := s.obj kb _ hob
    have hlen : (byt l).length = l.length := byt_length l
    rw [hlen] at hm h2 h3
    have hsh : g.sh kb = some (.row l.length) := by rw [s.sh, IHeap.sh, hob]; simp [HO.sh, hlen]
    have hx1e : x1 = .slice aa l.length cap := by
      cases hr1 with
      | os _ _ _ _ h _ => rw [← hm]; exact (h _ hsh).2 rfl
    subst hx1e
    rcases h5 with ⟨rfl, rfl⟩ | ⟨gb, xs, el, fz, rfl, h6, h7, h8, h9⟩
    · have hl : l = [] := List.eq_nil_of_length_eq_zero (by omega)
      subst hl
      have := Any.Builder_String_nil L X w.heap.size b x0 w hb
      rw [hf] at this
      refine this.mono ?_
      rintro e w' ⟨rfl, hbl⟩
      exact empty rfl w' hbl
    · obtain ⟨xs', q1, _⟩ := hpin gb (by rw [hm]; rfl)
      rw [h6] at q1
      cases q1
      by_cases hl : l = []
      · subst hl
        by_cases hc0 : cap = 0
        · subst hc0
          have := Any.Builder_String_noroom L X w.heap.size b gb x0 xs w (Nat.le_refl _) hb h6
          rw [hf] at this
          refine this.mono ?_
          rintro e w' ⟨rfl, hbl⟩
          exact empty rfl w' hbl
        · have := Any.Builder_String_room L X w.heap.size b gb cap x0 w hc0 hb
          rw [hf] at this
          refine this.mono ?_
          rintro e w' ⟨rfl, hbl⟩
          exact empty rfl w' hbl
      · have hfl : (byt l).flatten.length = l.length := by rw [byt_flatten]; simp
        have hcs : l.length ≤ xs.size := by have := h9.1; omega
        have := bString_run L X b gb cap x0 xs l w hb h6 hl h2 hcs h3 (fun j x hj => by
          obtain ⟨y, q1, _, q3⟩ := h9.2 j (.v (.int .u8 x.toNat)) (by rw [byt_flatten]; simp [hj])
          rw [q1, q3.v_eq])
        rw [hf] at this
        refine this.mono ?_
        rintro e w' ⟨rfl, rfl⟩
        have hd := s.dropTurn (w' := w.drew.freeze ⟨gb, 0, none⟩ l.length) hob (b := gb) (by rw [hm]; rfl) (by unfold World.freeze; split <;> simp <;> rfl) (by unfold World.freeze; split <;> rfl) (by unfold World.freeze; split <;> rfl) (by unfold World.freeze; split <;> rfl) (fun i hi => by
          unfold World.freeze
          split
          · rfl
          · simp only
            rw [Array.getElem?_modify, if_neg (fun e => hi e.symm)]
            rfl)
        refine ⟨.ret (.v (str l)), _, _, hd.2, hd.1, .ret _ _ (.v _), hK _ ⟨Nat.le_refl _, fun i o hi hik ht => ?_, rfl⟩⟩
        simp only [IHeap.del]
        rw [if_neg]
        · exact hi
        · rintro rfl
          rw [hob] at hi
          cases hi
          rcases ht with ht | ht
          · omega
          · cases ht

end Go.Idl

namespace Go.Proofs

open Go.Shelf Go.Sort Go.RowKit

theorem Tryz.bldExtra : Builder.Extra Tryz.prog Tryz.lays169_ren where
  sizeBuilder := by kernel_rfl
  liesBuilder := by kernel_rfl
  t5 := Tryz.underlying5
  a5 := Tryz.isAgg5
  z5 := Tryz.sizeOf5
  v5 := Tryz.zeroValue5
  infoByte := by kernel_rfl
  cellsByte := by kernel_rfl
  sizeByte := by kernel_rfl
  neB5 := by decide

set_option maxHeartbeats 1000000 in
set_option maxRecDepth 100000 in
theorem Tryz.copyUsed (b : Nat) (w : World) (h0 : w.cell? ⟨b, 0, none⟩ = some (.pointer (some ⟨b, 0, none⟩))) :
    Calls Tryz.prog 42 #[.pointer (some ⟨b, 0, none⟩)] w fun e w' => e = .returned (.tuple #[]) ∧ w' = w := by
  obtain ⟨j, hj, _⟩ := Option.map_eq_some_iff.1 Tryz.bldExtra.sizeBuilder
  go_enter Tryz.func42, Tryz.ntmps42
  go_wp2
  rw [Lib.run_neq_ptr_same w _ Tryz.underlying40 hj]
  go_wp2
  go_end0
  exact ⟨rfl, rfl⟩

set_option maxHeartbeats 1000000 in
set_option maxRecDepth 100000 in
theorem Tryz.copyFresh (b : Nat) (w : World) (h0 : w.cell? ⟨b, 0, none⟩ = some (.pointer none)) (hsh : w.shape? b = some (43, 2)) (hfz : w.frozen? ⟨b, 0, none⟩ = false) :
    Calls Tryz.prog 42 #[.pointer (some ⟨b, 0, none⟩)] w fun e w' => e = .returned (.tuple #[]) ∧ w' = w.setCell ⟨b, 0, none⟩ (.pointer (some ⟨b, 0, none⟩)) := by
  obtain ⟨j, hj, hjs⟩ := Option.map_eq_some_iff.1 Tryz.bldExtra.sizeBuilder
  go_enter Tryz.func42, Tryz.ntmps42
  go_wp2
  rw [Lib.run_to_unsafe w ⟨b, 0, none⟩ Tryz.underlying40 Tryz.underlying88 hj (by rw [hjs]; decide) hsh (Nat.zero_lt_succ 1)]
  simp only [Result.andThen]
  rw [Oper.upon_value]
  go_wp2
  rw [run_callFunc_extern Tryz.func55 (by kernel_rfl) (by kernel_rfl) (by kernel_rfl) (e := Extern.AbiNoEscape.same) (by kernel_rfl)]
  rw [Lib.run_noEscape]
  simp only [Result.andThen]
  rw [Oper.upon_value]
  go_wp2
  rw [Lib.run_from_unsafe w ⟨b, 0, none⟩ Tryz.underlying88 Tryz.underlying40 hj hsh Tryz.bldExtra.liesBuilder]
  simp only [Result.andThen]
  rw [Oper.upon_value]
  go_wp2
  go_end0
  exact ⟨rfl, rfl⟩

end Go.Proofs

namespace Go.Idl

open Go Go.Proofs.Tryz Go.RowKit Go.Proofs Go.Shelf

theorem copy42 {H : IHeap} {K : IEnd → IHeap → Prop} (k : Nat) (a buf : IV) (ho : H.obj k = some (.ty 43 (.cells [a, buf])))
    (ha : a = .v (.pointer none) ∨ a = .p k 0) (hK : K (.ret (.tu [])) (H.set k (.ty 43 (.cells [.p k 0, buf])))) : ICalls prog 42 [.p k 0] H K :=
  ICalls_copyCheck (by kernel_rfl) Tryz.copyFresh Tryz.copyUsed k a buf ho ha hK

theorem string31 {H : IHeap} {K : IEnd → IHeap → Prop} (n0 k : Nat) (l : List UInt8) (hB : Bld 43 5 H n0 k l)
    (hK : ∀ J, BStep H J n0 k → K (.ret (.v (str l))) J) : ICalls prog 21 [.p k 0] H K :=
  ICalls_BString Tryz.lays169 Tryz.bldExtra rfl (by kernel_rfl) n0 k l hB hK

set_option pp.deepTerms false in
set_option maxRecDepth 4000 in
theorem wstr28 {H : IHeap} {K : IEnd → IHeap → Prop} (n0 k : Nat) (l s : List UInt8) (hB : Bld 43 5 H n0 k l) (hn : n0 ≤ H.next) (hl : l.length + s.length ≤ 140737488355328)
    (hK : ∀ J, BStep H J n0 k → Bld 43 5 J n0 k (l ++ s) → K (.ret (.tu [.v (.int .i64 s.length), .v .nilIface])) J) : ICalls prog 17 [.p k 0, .v (str s)] H K := by
  obtain ⟨hk0, a, buf, ho, ha, hbuf⟩ := hB
  refine ICalls_vc (N := 19) func17 (by kernel_rfl) rfl (by kernel_rfl) (by kernel_rfl) fun hw hbd hnb => ?_
  have hkn : k < H.next := by
    rcases Nat.lt_or_ge k H.next with h | h
    · exact h
    · rw [hw k h] at ho; cases ho
  simp (maxSteps := 1000000) (disch := omega) [go_sem]
  refine copy42 k a buf ho ha ?_
  rcases hbuf with ⟨rfl, rfl⟩ | ⟨kb, hkb, hne, rfl, hob⟩
  · have e1 : ¬ k = H.next := by omega
    simp (maxSteps := 1000000) (disch := omega) [go_sem, e1]
    have e2 : ¬ H.next = k := by omega
    refine ⟨by simpa [Side, byt_length] using hl, retG_all (hK _ ⟨by simp [go_sem], fun i o hi hik ht => ?_, rfl⟩ ⟨hk0, .p k 0, .os H.next (byt s).length, by simp [go_sem], .inr rfl, .inr ⟨H.next, hn, e2, by simp [byt_length], by simp [go_sem, e2]⟩⟩)⟩
    have hin : i < H.next := by
      rcases Nat.lt_or_ge i H.next with h | h
      · exact h
      · rw [hw i h] at hi; cases hi
    have e3 : ¬ i = H.next := by omega
    simp [go_sem, hik, e3, hi]
  · have hkb' : kb < H.next := by
      rcases Nat.lt_or_ge kb H.next with h | h
      · exact h
      · rw [hw kb h] at hob; cases hob
    simp (maxSteps := 1000000) (disch := omega) [go_sem, hob, hne]
    refine ⟨⟨by simp [Side, byt_length], by simpa [Side, byt_length] using hl⟩, retG_all (hK _ ⟨by simp [go_sem], fun i o hi hik ht => ?_, rfl⟩ ⟨hk0, .p k 0, .os kb ((byt l).length + (byt s).length), by simp [go_sem], .inr rfl, .inr ⟨kb, hkb, hne, by simp [byt_length], by simp [go_sem, hne, byt]⟩⟩)⟩
    have e3 : ¬ i = kb := by
      rintro rfl
      rw [hob] at hi
      cases hi
      rcases ht with ht | ht
      · omega
      · cases ht
    simp [go_sem, hik, e3, hi]

theorem Ext.bstep {H H' J : IHeap} {n0 k : Nat} (he : Ext H H') (hn : n0 = H.next) (hk : n0 ≤ k) (hb : BStep H' J n0 k) : Ext H J := by
  refine ⟨he.wf, Nat.le_trans he.le hb.le, fun i o hi => ?_, hb.sn.trans he.sn⟩
  have hin : i < H.next := by
    rcases Nat.lt_or_ge i H.next with h | h
    · exact h
    · rw [he.wf i h] at hi; cases hi
  exact hb.keep i o (he.sub i o hi) (by omega) (.inl (by omega))

theorem Bld.fresh {H' : IHeap} {n0 k : Nat} (h : H'.obj k = some (.ty 43 (.cells [.v (.pointer none), .v (.slice none 0 0)]))) (hk : n0 ≤ k) : Bld 43 5 H' n0 k [] := ⟨hk, _, _, h, .inl rfl, .inl ⟨rfl, rfl⟩⟩

end Go.Idl

namespace Go.Idl

open Go Go.Proofs.Tryz Go.RowKit Go.Proofs Go.Shelf

theorem itoa30 {H : IHeap} {K : IEnd → IHeap → Prop} (n : Nat) (hn : n < 100) (hK : K (.ret (.v (str (Lib.decDigits n)))) H) : ICalls prog 20 [.v (.int .i64 n)] H K := by
  refine ⟨by kernel_rfl, fun w g vs s rl => ?_⟩
  obtain ⟨x, rfl, hx⟩ := args1 rl
  rw [hx.v_eq]
  refine (Any.strconv_Itoa_small Tryz.lays171 n hn w).mono ?_
  rintro e w' ⟨rfl, rfl⟩
  exact ⟨_, g, H, .refl _ _, s, .ret _ _ (.v _), hK⟩

def namesS : List (List UInt8) := [[102, 117, 108, 108], [103, 105, 118, 101, 110], [102, 97, 109, 105, 108, 121], [111, 114, 103], [116, 105, 116, 108, 101], [110, 111, 116, 101], [109, 97, 105, 108], [112, 104, 111, 110, 101]]

set_option maxRecDepth 8000 in
theorem names29 {H : IHeap} {K : IEnd → IHeap → Prop} (hK : K (.ret (.ag (namesS.map fun x => .v (str x)))) H) : ICalls prog 19 [] H K := by
  refine ICalls_vc (N := 2) func19 (by kernel_rfl) rfl (by kernel_rfl) (by kernel_rfl) fun hw hbd hnb => ?_
  simp (maxSteps := 1000000) (disch := omega) [go_sem, bdP]
  refine retG_pure ((Ext.refl hw).new _ |>.set (Nat.le_refl _) _) ?_ hK
  simp [NB_ag, NB_v]

set_option pp.deepTerms false in
theorem line27 {H : IHeap} {K : IEnd → IHeap → Prop} (n0 k : Nat) (l a b : List UInt8) (hB : Bld 43 5 H n0 k l) (hn : n0 ≤ H.next) (hl : l.length + a.length + b.length ≤ 140737488355000)
    (hK : ∀ J, BStep H J n0 k → Bld 43 5 J n0 k (l ++ (a ++ 32 :: b ++ [10])) → K (.ret (.tu [])) J) : ICalls prog 16 [.v (str a), .v (str b), .p k 0] H K := by
  refine ICalls_vc (N := 11) func16 (by kernel_rfl) rfl (by kernel_rfl) (by kernel_rfl) fun hw hbd hnb => ?_
  simp (maxSteps := 1000000) (disch := omega) [go_sem]
  refine wstr28 n0 k l _ hB hn (by simp; omega) fun J hJ hB' => ?_
  simp (maxSteps := 1000000) (disch := omega) [go_sem]
  exact retG_all (hK J hJ (by simpa using hB'))

def fieldT (f : Nat) (l : List (List UInt8)) : List UInt8 :=
  (if l = [] then [] else namesS.getD f [] ++ 32 :: Lib.decDigits l.length ++ [10]) ++ l.flatMap fun v => Lib.decDigits v.length ++ 32 :: v ++ [10]

def textS (c : List (List (List UInt8))) : List UInt8 := c.zipIdx.flatMap fun p => fieldT p.2 p.1

def valT (v : List UInt8) : List UInt8 := Lib.decDigits v.length ++ 32 :: v ++ [10]

def headT (f : Nat) (l : List (List UInt8)) : List UInt8 := if l = [] then [] else namesS.getD f [] ++ 32 :: Lib.decDigits l.length ++ [10]

theorem fieldT_eq (f : Nat) (l : List (List UInt8)) : fieldT f l = headT f l ++ l.flatMap valT := rfl

def preT (c : List (List (List UInt8))) (i : Nat) : List UInt8 := (c.zipIdx.take i).flatMap fun p => fieldT p.2 p.1

theorem preT_succ (c : List (List (List UInt8))) (i : Nat) (h : i < c.length) : preT c (i + 1) = preT c i ++ fieldT i c[i] := by
  unfold preT
  rw [List.take_succ_eq_append_getElem (by simpa using h), List.flatMap_append]
  simp

theorem dec_len (n : Nat) (h : n < 100) : (Lib.decDigits n).length ≤ 2 := by
  unfold Lib.decDigits
  split
  · simp
  · unfold Lib.decDigits
    rw [dif_pos (by omega)]
    simp

theorem valsT_len (l : List (List UInt8)) (h : ∀ s, s ∈ l → s.length < 100) : (l.flatMap valT).length ≤ l.length * 104 := by
  induction l with
  | nil => simp
  | cons s l ih =>
    have h1 := h s (by simp)
    have h2 := ih fun s hs => h s (by simp [hs])
    have h3 := dec_len s.length h1
    simp only [List.flatMap_cons, List.length_append, List.length_cons, List.length_nil, valT]
    omega

theorem names_len (f : Nat) : (namesS.getD f []).length ≤ 10 := by
  match f with
  | 0 | 1 | 2 | 3 | 4 | 5 | 6 | 7 => simp [namesS]
  | f + 8 => simp [namesS]

theorem headT_len (f : Nat) (l : List (List UInt8)) (h : l.length < 100) : (headT f l).length ≤ 20 := by
  unfold headT
  split
  · simp
  · have h1 := names_len f
    have h2 := dec_len l.length h
    simp only [List.length_append, List.length_cons, List.length_nil]
    omega

set_option maxRecDepth 8000 in
theorem preT_len (c : List (List (List UInt8))) (h : ∀ l, l ∈ c → l.length < 100 ∧ ∀ s, s ∈ l → s.length < 100) (i : Nat) : (preT c i).length ≤ i * 20000 := by
  induction i with
  | zero => simp [preT]
  | succ i ih =>
    rcases Nat.lt_or_ge i c.length with hi | hi
    · rw [preT_succ c i hi, fieldT_eq]
      have h1 := h c[i] (List.getElem_mem _)
      have h2 := headT_len i c[i] h1.1
      have h3 := valsT_len c[i] h1.2
      simp only [List.length_append]
      omega
    · have : preT c (i + 1) = preT c i := by
        unfold preT
        rw [List.take_of_length_le (by simp; omega), List.take_of_length_le (by simp; omega)]
      rw [this]
      exact Nat.le_trans ih (Nat.mul_le_mul_right _ (Nat.le_succ _))

set_option pp.deepTerms false in
set_option maxRecDepth 8000 in
theorem text18 {H : IHeap} {K : IEnd → IHeap → Prop} (c : List (List (List UInt8))) (hc : c.length = 8) (hs : ∀ l, l ∈ c → l.length < 100 ∧ ∀ s, s ∈ l → s.length < 100)
    (hK : K (.ret (.tu [.v (str (if checkS c = true then textS c else [])), .v (.int .i64 (if checkS c = true then 0 else 2))])) H) : ICalls prog 7 [cS c] H K := by
  have ht : List.take 8 (c.map sS) = c.map sS := by rw [List.take_of_length_le]; simp [hc]
  refine ICalls_vc (N := 43) func7 (by kernel_rfl) rfl (by kernel_rfl) (by kernel_rfl) fun hw hbd hnb => ?_
  simp (maxSteps := 1000000) (disch := omega) [go_sem, hc, ht]
  refine check19 c hc (fun l hl => ⟨by have := (hs l hl).1; omega, fun s h => by have := (hs l hl).2 s h; omega⟩) ?_
  simp (maxSteps := 1000000) (disch := omega) [go_sem, hc, ht]
  refine condB ?_ ?_ <;> intro g1 <;> (try simp at g1)
  · simp (maxSteps := 1000000) (disch := omega) [go_sem, hc, ht]
    rw [g1] at hK
    exact retG_pure ((Ext.refl hw).new _) (by simp [NB_tu, NB_v]) hK
  · simp (maxSteps := 1000000) (disch := omega) [go_sem, hc, ht]
    refine fields25 c hc ?_
    simp (maxSteps := 1000000) (disch := omega) [go_sem, hc, ht]
    refine IWp_rangeFunc (gf := 56) (cap := [.cp [.sl 1 ((c.map sS).map fun x => [x])]]) (by kernel_rfl) (by simp [go_sem]) (all49 (c.map sS))
      (fun i Hu => Bld 43 5 Hu H.next (H.next + 1) (preT c i) ∧ Hu.obj (H.next + 2) = some (.cells [.fn (.func 16) [] [.p (H.next + 1) 0]]) ∧ Ext H Hu ∧ H.next + 3 ≤ Hu.next) ?_ (by simp) ?_ ?_ ?_
    · refine ⟨Bld.fresh (by simp [go_sem]) (by omega), by simp [go_sem], (((Ext.refl hw).new _ |>.new _).new _).set (by simp [go_sem]) _, by simp [go_sem]⟩
    · intro args h
      obtain ⟨i, hi⟩ := List.getElem?_of_mem h
      simp only [ixs, List.getElem?_map, Option.map_eq_some_iff] at hi
      obtain ⟨p, _, rfl⟩ := hi
      rfl
    · rintro i args Hu hx ⟨hB, h2, h3, h4⟩
      have hi : i < c.length := by
        have := (List.getElem?_eq_some_iff.1 hx).1
        simpa [ixs_length] using this
      rw [ixs_get (by simpa using hi)] at hx
      cases hx
      have hsi := hs c[i] (List.getElem_mem _)
      have hpl := preT_len c (fun l hl => ⟨(hs l hl).1, (hs l hl).2⟩) i
      have hi8 : i < 8 := by omega
      rw [List.getElem_map]
      have hBs : Bld 43 5 Hu.skip H.next (H.next + 1) (preT c i) := hB
      have hes := h3.skip
      have h2s : Hu.skip.obj (H.next + 2) = some (.cells [.fn (.func 16) [] [.p (H.next + 1) 0]]) := h2
      have h4s : H.next + 3 ≤ Hu.skip.next := by simp [go_sem]; omega
      have hskip : (fun i Hu => Bld 43 5 Hu H.next (H.next + 1) (preT c i) ∧ Hu.obj (H.next + 2) = some (.cells [.fn (.func 16) [] [.p (H.next + 1) 0]]) ∧ Ext H Hu ∧ H.next + 3 ≤ Hu.next) = fun (i : Nat) (Hu : IHeap) => Bld 43 5 Hu H.next (H.next + 1) (preT c i) ∧ Hu.obj (H.next + 2) = some (.cells [.fn (.func 16) [] [.p (H.next + 1) 0]]) ∧ Ext H Hu ∧ H.next + 3 ≤ Hu.next := rfl
      generalize Hu.skip = H1 at hBs hes h2s h4s ⊢
      refine vc_sound _ (by kernel_rfl) _ _ _ ?_
      simp (maxSteps := 1000000) (disch := omega) [go_sem, setPs, hc]
      refine IWp_block ?_
      refine IWp_seqC (fun tm' H' => tm' 7 = sS c[i] ∧ tm' 5 = .p (H.next + 2) 0 ∧ Bld 43 5 H' H.next (H.next + 1) (preT c i ++ headT i c[i]) ∧ H'.obj (H.next + 2) = some (.cells [.fn (.func 16) [] [.p (H.next + 1) 0]]) ∧ Ext H H' ∧ H.next + 3 ≤ H'.next) ?_ fun cb hcb => ?_
      · rintro tm2 H2 ⟨t7, t5, hB2, ho2, he2, hl2⟩
        refine vc_sound _ (by kernel_rfl) _ _ _ ?_
        simp (maxSteps := 1000000) (disch := omega) [go_sem, t7, t5]
        refine vcLoop_mk (fun tm' H' => ∃ j : Nat, tm' 5 = .p (H.next + 2) 0 ∧ tm' 29 = sS c[i] ∧ tm' 30 = .v (.int .i64 c[i].length) ∧ tm' 31 = .v (.int .i64 j) ∧ j ≤ c[i].length ∧ Bld 43 5 H' H.next (H.next + 1) (preT c i ++ headT i c[i] ++ (c[i].take j).flatMap valT) ∧ H'.obj (H.next + 2) = some (.cells [.fn (.func 16) [] [.p (H.next + 1) 0]]) ∧ Ext H H' ∧ H.next + 3 ≤ H'.next) (fun tm' _ => c[i].length - (intOf (tm' 31)).toNat) (.same ?_) ?_
        · exact ⟨0, by simp [go_sem, t5], by simp [go_sem], by simp [go_sem], by simp [go_sem], by omega, by simpa using hB2, ho2, he2, hl2⟩
        rintro I' μ' hI hμ tm' H' ⟨j, q5, q29, q30, q31, hj, hB3, ho3, he3, hl3⟩
        refine vc_sound _ (by kernel_rfl) _ _ _ ?_
        simp (maxSteps := 1000000) (disch := omega) [go_sem, q5, q29, q30, q31]
        refine condB ?_ ?_ <;> intro hcj <;> (try simp at hcj)
        · have hv := hsi.2 c[i][j] (List.getElem_mem _)
          simp (maxSteps := 1000000) (disch := omega) [go_sem, q5, q29, q30, q31]
          refine IWp_draw [0, 1, 2, 4, 3, 5] (by kernel_rfl) (by kernel_rfl) (fun _ _ _ _ h => h) ?_
          simp (maxSteps := 1000000) (disch := omega) [go_sem, q5, q29, q30, q31, ho3]
          refine itoa30 c[i][j].length hv ?_
          simp (maxSteps := 1000000) (disch := omega) [go_sem, q5, q29, q30, q31, ho3]
          have hd := dec_len c[i][j].length hv
          have hlen := valsT_len (c[i].take j) (fun s hs' => hsi.2 s (List.mem_of_mem_take hs'))
          have hlen2 : (c[i].take j).length < 100 := by have := hsi.1; simp; omega
          have hhl := headT_len i c[i] hsi.1
          refine line27 H.next (H.next + 1) _ _ _ hB3 (by omega) (by simp only [List.length_append]; omega) fun J hJ hB4 => ?_
          simp (maxSteps := 1000000) (disch := omega) [go_sem, q5, q29, q30, q31, ho3]
          have hx2 := hJ.keep (H.next + 2) _ ho3 (by omega) (.inr rfl)
          refine .of hI hμ ⟨j + 1, by simp [go_sem, q5], by simp [go_sem, q29], by simp [go_sem, q30], by simp [go_sem], by omega, ?_, hx2, he3.bstep rfl (by omega) hJ, Nat.le_trans hl3 hJ.le⟩ (by simp [go_sem, q31]; omega)
          rw [List.take_succ_eq_append_getElem hcj, List.flatMap_append]
          simpa [valT] using hB4
        · simp (maxSteps := 1000000) (disch := omega) [go_sem, q5, q29, q30, q31]
          have e : j = c[i].length := by omega
          subst e
          rw [List.take_length] at hB3
          refine ⟨?_, ho3, he3, hl3⟩
          rw [preT_succ c i hi, fieldT_eq, ← List.append_assoc]
          exact hB3
      · refine vc_sound _ (by kernel_rfl) _ _ _ ?_
        simp (maxSteps := 1000000) (disch := omega) [go_sem, setPs, hc]
        refine condB ?_ ?_ <;> intro g2 <;> (try simp at g2)
        · simp (maxSteps := 1000000) (disch := omega) [go_sem, hc]
          refine IWp_draw [0, 2, 4, 5, 1, 3, 6, 7] (by kernel_rfl) (by kernel_rfl) (fun _ _ _ _ h => h) ?_
          simp (maxSteps := 1000000) (disch := omega) [go_sem, hc, h2s]
          refine names29 ?_
          have hni : i < namesS.length := by simp [namesS]; omega
          have hne : ¬ c[i] = [] := by rintro e; rw [e] at g2; simp at g2
          simp (maxSteps := 1000000) (disch := omega) [go_sem, hc, h2s, hni]
          refine itoa30 c[i].length hsi.1 ?_
          simp (maxSteps := 1000000) (disch := omega) [go_sem, hc, h2s, hni]
          have hd := dec_len c[i].length hsi.1
          have hnl := names_len i
          have hgi : namesS.getD i [] = namesS[i] := by simp [hni]
          rw [hgi] at hnl
          refine line27 H.next (H.next + 1) _ _ _ hBs (by omega) (by omega) fun J hJ hB4 => ?_
          simp (maxSteps := 1000000) (disch := omega) [go_sem, hc, h2s, hni]
          have hx2 := hJ.keep (H.next + 2) _ h2s (by omega) (.inr rfl)
          refine hcb _ _ (.same ⟨by simp [go_sem], by simp [go_sem], ?_, hx2, hes.bstep rfl (by omega) hJ, Nat.le_trans h4s hJ.le⟩)
          rw [headT, if_neg hne, hgi]
          simpa using hB4
        · simp (maxSteps := 1000000) (disch := omega) [go_sem, hc]
          have e0 : c[i] = [] := by
            cases h : c[i] with
            | nil => rfl
            | cons a b => rw [h] at g2; simp at g2
          refine hcb _ _ (.same ⟨by simp [go_sem], by simp [go_sem], ?_, h2s, hes, h4s⟩)
          rw [headT, if_pos e0, List.append_nil]
          exact hBs
    · rintro Hu ⟨hB, h2, h3, h4⟩
      simp (maxSteps := 1000000) (disch := omega) [go_sem, hc]
      rw [ixs_length, List.length_map] at hB
      have hBs : Bld 43 5 Hu.skip H.next (H.next + 1) (preT c c.length) := hB
      refine string31 H.next (H.next + 1) _ hBs fun J hJ => ?_
      simp (maxSteps := 1000000) (disch := omega) [go_sem, hc]
      have e : preT c c.length = textS c := by
        unfold preT textS
        rw [List.take_of_length_le (by simp)]
      rw [g1, if_pos rfl, if_pos rfl, ← e, hc] at hK
      exact retG_pure (h3.skip.bstep rfl (by omega) hJ) (by simp [NB_tu, NB_v]) hK

end Go.Idl

namespace Go.Idl

open Go Go.Proofs.Tryz Go.RowKit Go.Proofs Go.Shelf

def annC : List (List (List UInt8)) := [[[65, 110, 110]], [], [], [], [], [], [], []]

def annD : List (List (List UInt8)) := [[[65, 110, 110]], [], [], [], [], [], [[97], [98]], []]

theorem sort_ann : sortS [[98], [97], [98]] = [[97], [98], [98]] := by
  have h1 : ¬ ([98] : List UInt8) ≤ [97] := by decide
  have h2 : ([97] : List UInt8) ≤ [98] := by decide
  have h3 : ([98] : List UInt8) ≤ [98] := by decide
  simp [sortS, List.mergeSort, List.MergeSort.Internal.splitInTwo, List.merge, h1, h2, h3]

theorem with_ann : withS annC 6 [[98], [97], [98]] = (annD, 0) := by
  have e : compactS (sortS [[98], [97], [98]]) = [[97], [98]] := by rw [sort_ann]; decide
  have e1 : orderS 6 [[98], [97], [98]] = [[97], [98]] := by simp [orderS, e]
  simp only [withS, e1]
  decide

theorem text_ann : (if checkS annD = true then textS annD else []) = [102, 117, 108, 108, 32, 49, 10, 51, 32, 65, 110, 110, 10, 109, 97, 105, 108, 32, 50, 10, 49, 32, 97, 10, 49, 32, 98, 10] := by
  have h : checkS annD = true := by decide
  rw [if_pos h]
  have d1 : Lib.decDigits 1 = [49] := by unfold Lib.decDigits; rfl
  have d2 : Lib.decDigits 2 = [50] := by unfold Lib.decDigits; rfl
  have d3 : Lib.decDigits 3 = [51] := by unfold Lib.decDigits; rfl
  have e : textS annD = ((namesS.getD 0 [] ++ 32 :: Lib.decDigits 1 ++ [10]) ++ (Lib.decDigits 3 ++ 32 :: [65, 110, 110] ++ [10])) ++ ((namesS.getD 6 [] ++ 32 :: Lib.decDigits 2 ++ [10]) ++ ((Lib.decDigits 1 ++ 32 :: [97] ++ [10]) ++ (Lib.decDigits 1 ++ 32 :: [98] ++ [10]))) := by
    simp [textS, fieldT, annD]
  rw [e, d1, d2, d3]
  rfl

end Go.Idl

namespace Go.Idl

open Go Go.Proofs.Tryz Go.RowKit Go.Proofs Go.Shelf

set_option pp.deepTerms false in
set_option maxRecDepth 8000 in
theorem known8 {H : IHeap} {K : IEnd → IHeap → Prop} (hK : K (.ret (.v (.bool true))) H) : ICalls prog 6 [] H K := by
  refine ICalls_vc (N := 30) func6 (by kernel_rfl) rfl (by kernel_rfl) (by kernel_rfl) fun hw hbd hnb => ?_
  simp (maxSteps := 1000000) (disch := omega) [go_sem, bdP]
  refine ICalls.wkL (args' := [cS annC, .v (.int .i64 6), sS [[98], [97], [98]]]) ?_ (with9 annC 6 [[98], [97], [98]] rfl (by decide) (by decide) ?_)
  · repeat (first | exact WkL.nil | refine WkL.cons ?_ ?_ | exact Wk.refl _ | exact Wk.nil _ | refine Wk.agL ?_)
  · rw [with_ann]
    have hl : annD.length = 8 := rfl
    have ht : List.take 8 (List.map sS annD) = List.map sS annD := by rw [List.take_of_length_le]; simp [hl]
    generalize hd : annD = d at hl ht
    simp (maxSteps := 1000000) (disch := omega) [go_sem, hl, ht]
    refine text18 d hl ?_ ?_
    · subst hd; decide
    · subst hd
      rw [text_ann]
      have h : checkS annD = true := by decide
      rw [if_pos h]
      simp (maxSteps := 1000000) (disch := omega) [go_sem]
      exact retG_pure (((Ext.refl hw).new _).set (Nat.le_refl _) _ |>.new _ |>.set (Nat.le_succ _) _) (.v _) hK

end Go.Idl

namespace Go.Idl

open Go Go.Proofs.Tryz Go.RowKit Go.Proofs Go.Shelf

end Go.Idl

namespace Go.Idl

open Go Go.RowKit

variable {P : Program} {H : IHeap}

def IHeap.bare (H : IHeap) : IHeap := { H with obj := fun _ => none }

@[go_sem] theorem bare_obj {k : Nat} : H.bare.obj k = none := rfl

@[go_sem] theorem bare_next : H.bare.next = H.next := rfl

theorem bare_sub : SubH H.bare H := fun k o h => by simp [IHeap.bare] at h

theorem Sim.bare {w : World} {g : Gs} (s : Sim w g H) : Sim w (g.to H.bare) H.bare where
  nx := rfl
  sh := fun _ => rfl
  lt := fun k h => by simp [IHeap.bare] at h
  bk := fun k b h => by simp [Gs.to, IHeap.bare, IHeap.sh] at h
  inj := fun k k' b h => by simp [Gs.to, IHeap.bare, IHeap.sh] at h
  obj := fun k o h => by simp [IHeap.bare] at h
  old := s.old
  snap := fun p hp i hi => by
    have h := s.snap p hp i hi
    refine h.monoR ⟨Nat.le_refl _, fun _ _ _ => rfl, fun b _ e => to_ow (bare_sub.sh s) e, ?_, fun k _ e => ?_, fun k m _ e => ?_⟩
    · show g.nx ≤ H.next
      exact Nat.le_of_eq s.nx
    · simp [Gs.to, IHeap.bare, IHeap.sh] at e
    · simp [Gs.to, IHeap.bare, IHeap.sh] at e

theorem Mono.of_bare {w w' : World} {g g' : Gs} (m : Mono w (g.to H.bare) w' g') : Mono w g w' g where
  size := m.size
  os := m.os
  tape := m.tape
  output := m.output
  keep := fun b hb _ => m.keep b hb fun ⟨k, h1, _⟩ => by simp [Gs.to, IHeap.bare, IHeap.sh] at h1
  own := fun _ _ e => e
  oth := rfl
  nx := Nat.le_refl _
  fx := fun _ _ e => ⟨e, rfl⟩
  row := fun k m' _ e => ⟨m', e, Nat.le_refl _, fun _ => rfl⟩

theorem Sim.of_bare {w w' : World} {g g' : Gs} (s : Sim w g H) (m : Mono w (g.to H.bare) w' g') : Sim w' g H where
  nx := s.nx
  sh := s.sh
  lt := s.lt
  bk := fun k b h1 h2 => ⟨(s.bk k b h1 h2).1, Nat.lt_of_lt_of_le (s.bk k b h1 h2).2 m.size⟩
  inj := s.inj
  obj := fun k o h => ObjR.mono (m.of_bare) (fun b hb => m.keep b (s.bk k b (by rw [s.sh, IHeap.sh, h]; rfl) hb).2 fun ⟨k, h1, _⟩ => by simp [Gs.to, IHeap.bare, IHeap.sh] at h1) (s.obj k o h)
  old := fun b hb => Nat.lt_of_lt_of_le (s.old b hb) m.size
  snap := fun p hp i hi => (s.snap p hp i hi).mono m.of_bare

theorem ICalls_lend {f : FuncId} {args args' : List IV} {x : Value} (hl : args'.length = args.length) (ha : ∀ (j : Nat) (a a' : IV), args[j]? = some a → args'[j]? = some a' → Fz H H.bare a a')
    (hp : ∀ (H : IHeap) (K : IEnd → IHeap → Prop), K (.ret (.v x)) H → ICalls P f args' H K) {K : IEnd → IHeap → Prop} (hK : K (.ret (.v x)) H) : ICalls P f args H K := by
  have h := hp H.bare (fun e _ => e = .ret (.v x)) rfl
  refine ⟨h.body, fun w g vs s rl => ?_⟩
  refine (h.run w (g.to H.bare) vs s.bare ⟨by rw [rl.1, hl], fun j y c h1 h2 => ?_⟩).mono ?_
  · obtain ⟨a, ha'⟩ := get_same hl h2
    exact (ha j a c ha' h2).sound s bare_sub (rl.2 j y a h1 ha')
  · rintro e w' ⟨ie, g', H', m, _, hr, rfl⟩
    refine ⟨_, g, H, m.of_bare, s.of_bare m, ?_, hK⟩
    cases hr with
    | ret y i hy => exact .ret _ _ (by rw [hy.v_eq]; exact .v _)

inductive FzL (H J : IHeap) : List IV → List IV → Prop
  | nil : FzL H J [] []
  | cons {a b : IV} {l m : List IV} (h : Fz H J a b) (t : FzL H J l m) : FzL H J (a :: l) (b :: m)

theorem FzL.len {J : IHeap} {l m : List IV} (h : FzL H J l m) : m.length = l.length := by
  induction h with
  | nil => rfl
  | cons _ _ ih => simp [ih]

theorem FzL.get {J : IHeap} {l m : List IV} (h : FzL H J l m) : ∀ (j : Nat) (a b : IV), l[j]? = some a → m[j]? = some b → Fz H J a b := by
  induction h with
  | nil => intro j a b h; simp at h
  | cons h _ ih =>
    intro j a b h1 h2
    cases j with
    | zero => simp at h1 h2; subst h1; subst h2; exact h
    | succ j => exact ih j a b (by simpa using h1) (by simpa using h2)

theorem ICalls_lendL {f : FuncId} {args args' : List IV} {x : Value} (ha : FzL H H.bare args args') (hp : ∀ (H : IHeap) (K : IEnd → IHeap → Prop), K (.ret (.v x)) H → ICalls P f args' H K) {K : IEnd → IHeap → Prop} (hK : K (.ret (.v x)) H) : ICalls P f args H K :=
  ICalls_lend ha.len ha.get hp hK

end Go.Idl

namespace Go.Idl

open Go Go.RowKit

variable {P : Program} {H B H' : IHeap}

theorem Ext.setN (h : Ext B H') {k : Nat} (hk : B.obj k = none) (o : HO) : Ext B (H'.set k o) := by
  refine ⟨h.wf, h.le, fun i o' hi => ?_, h.sn⟩
  simp only [IHeap.set]
  by_cases e : i = k
  · rw [e, hk] at hi; cases hi
  · rw [if_neg e]; exact h.sub i o' hi

theorem wf_del (hw : H.Wf) (k : Nat) : (H.del k).Wf := fun i hi => by
  simp only [IHeap.del]
  split
  · rfl
  · exact hw i hi

/-! ### What the library does beside: new blocks alone -/

theorem Mono.of_below {w w' : World} {g : Gs} (h : Below w.heap.size w w') : Mono w g w' g :=
  ⟨h.size, h.os, h.tape, h.output, fun b hb _ => h.block b hb, fun _ _ e => e, rfl, Nat.le_refl _, fun _ _ e => ⟨e, rfl⟩, fun _ m' _ e => ⟨m', e, Nat.le_refl _, fun _ => rfl⟩⟩

theorem Sim.of_below {w w' : World} {g : Gs} (s : Sim w g H) (h : Below w.heap.size w w') : Sim w' g H where
  nx := s.nx
  sh := s.sh
  lt := s.lt
  bk := fun k b h1 h2 => ⟨(s.bk k b h1 h2).1, Nat.lt_of_lt_of_le (s.bk k b h1 h2).2 h.size⟩
  inj := s.inj
  obj := fun k o ho => ObjR.mono (.of_below h) (fun b hb => h.block b (s.bk k b (by rw [s.sh, IHeap.sh, ho]; rfl) hb).2) (s.obj k o ho)
  old := fun b hb => Nat.lt_of_lt_of_le (s.old b hb) h.size
  snap := fun p hp i hi => (s.snap p hp i hi).mono (.of_below h)

/-! ### Errors: whether there is one -/

def errI (t : TypeId) (b : Bool) : IV := if b = true then .ifc t .any else .v .nilIface

theorem nilI_errN {P : Program} {t t' : TypeId} {b : Bool} {d : TypeDesc} (hu : P.underlying t = some d) (hd : (match d with | .interface _ => true | _ => false) = true) : nilI P .neq t (errI t' b) = some (True, .v (.bool b)) := by
  unfold nilI errI
  rw [hu]
  cases d <;> first | (cases b <;> rfl) | cases hd

@[simp] theorem NB_errI {n : Nat} {t : TypeId} {b : Bool} : NB n (errI t b) := by
  unfold errI
  split
  · exact .ifc _ _ .any
  · exact .v _

end Go.Idl

namespace Go.Idl

open Go Go.RowKit Go.Proofs Go.Shelf

variable {P : Program} {H : IHeap} {K : IEnd → IHeap → Prop}

def varsT (vs : List (Nat × Array Value)) : Array Value × (Nat → IV) := ((vs.map fun _ => undef).toArray, fun i => match vs[i]? with | some p => .blk p.1 p.2 | none => .any)

theorem R.blk_inv {w : World} {g : Gs} {x : Value} {b : Nat} {xs : Array Value} (h : R w g x (.blk b xs)) : ∃ el f, w.heap[b]? = some (.cells xs el f) := by
  cases h with
  | blk _ _ el f _ _ h2 => exact ⟨el, f, h2⟩

theorem vars_get {w : World} {g : Gs} (s : Sim w g H) {vs : List (Nat × Array Value)} (h : varsT vs ∈ H.sn) {i b : Nat} {xs : Array Value} (hi : vs[i]? = some (b, xs)) : ∃ el f, w.heap[b]? = some (.cells xs el f) := by
  have hl : i < vs.length := (List.getElem?_eq_some_iff.1 hi).1
  have h1 := s.snap _ h i (by simpa [varsT] using hl)
  simp only [varsT, hi] at h1
  exact h1.blk_inv

theorem var_of {w : World} {name : String} {b : Nat} {xs : Array Value} {el : TypeId} {f : Nat × Nat} (hg : P.globalNamed name = some b) (h : w.heap[b]? = some (.cells xs el f)) : w.var? P name = some xs := by
  unfold World.var?
  rw [hg]
  simp [h]

def VOK (P : Program) (H : IHeap) : Prop := ∃ (b1 b2 b3 b4 : Nat) (t2 t3 : TypeId) (p2 p3 : Value) (x4 : Array Value) (m4 : Int), P.globalNamed "internal/strconv.uint64pow10" = some b1 ∧ P.globalNamed "strconv.ErrSyntax" = some b2 ∧ P.globalNamed "strconv.ErrRange" = some b3 ∧ P.globalNamed "internal/bytealg.MaxLen" = some b4 ∧ x4[0]? = some (.int .i64 m4) ∧
  varsT [(b1, (Lib.pow10Tab.map fun z => Value.int .u64 z).toArray), (b2, #[.iface t2 p2]), (b3, #[.iface t3 p3]), (b4, x4)] ∈ H.sn

theorem VOK.of {J : IHeap} (h : VOK P H) (e : J.sn = H.sn) : VOK P J := by
  obtain ⟨b1, b2, b3, b4, t2, t3, p2, p3, x4, m4, h1, h2, h3, h5, h6, h4⟩ := h
  exact ⟨b1, b2, b3, b4, t2, t3, p2, p3, x4, m4, h1, h2, h3, h5, h6, by rw [e]; exact h4⟩

theorem VOK.ext {J : IHeap} (h : VOK P H) (e : Ext H J) : VOK P J := h.of e.sn

theorem ICalls_itoa {ρ : Go.Shelf.Ren} {f : FuncId} (Ly : LaysM.n171 P ρ) (hf : ρ.f 171 = f) (hb : hasBody P f = true) (hV : VOK P H) (n : Int) (h0 : -9223372036854775808 ≤ n) (h1 : n ≤ 9223372036854775807) (hK : K (.ret (.v (str (Lib.itoa n)))) H) : ICalls P f [.v (.int .i64 n)] H K := by
  refine ⟨hb, fun w g vs s rl => ?_⟩
  obtain ⟨x, rfl, hx⟩ := args1 rl
  rw [hx.v_eq, ← hf]
  obtain ⟨b1, b2, b3, b4, t2, t3, p2, p3, x4, m4, q1, q2, q3, q5, q6, q4⟩ := hV
  obtain ⟨el, fz, hc⟩ := vars_get s q4 (i := 0) rfl
  refine (Any.strconv_Itoa Ly n h0 h1 w (var_of q1 hc)).mono ?_
  rintro e w' ⟨rfl, k, os, rfl⟩
  have hB : Below w.heap.size w (Go.Sort.grow (w.drewN k) os) := by
    refine ⟨rfl, rfl, rfl, ?_, fun i hi => ?_⟩
    · show w.heap.size ≤ (w.heap ++ os).size
      simp
    · show (w.heap ++ os)[i]? = w.heap[i]?
      rw [Array.getElem?_append_left hi]
  exact ⟨_, g, H, .of_below hB, s.of_below hB, .ret _ _ (.v _), hK⟩

def atoiS (s : List UInt8) : Int × Bool := match Lib.atoiAll s with | .ok v => (v, false) | .range => (Lib.atoiSat s, true) | _ => (0, true)

theorem ICalls_atoi {ρ : Go.Shelf.Ren} {f : FuncId} {te : TypeId} (Ly : LaysC.n172 P ρ) (hf : ρ.f 172 = f) (ht : ρ.t 168 = te) (hb : hasBody P f = true) (hV : VOK P H) (s : List UInt8) (hs : s.length ≤ 281474976710656) (hK : K (.ret (.tu [.v (.int .i64 (atoiS s).1), errI te (atoiS s).2])) H) : ICalls P f [.v (str s)] H K := by
  refine ⟨hb, fun w g vs sm rl => ?_⟩
  obtain ⟨x, rfl, hx⟩ := args1 rl
  rw [hx.v_eq, ← hf]
  obtain ⟨b1, b2, b3, b4, t2, t3, p2, p3, x4, m4, q1, q2, q3, q5, q6, q4⟩ := hV
  obtain ⟨el2, fz2, hc2⟩ := vars_get sm q4 (i := 1) rfl
  obtain ⟨el3, fz3, hc3⟩ := vars_get sm q4 (i := 2) rfl
  have v2 := var_of q2 hc2
  have v3 := var_of q3 hc3
  have two : ∀ (n : Int) (y : Value) (b : Bool), R w g y (errI te b) → ∀ (w' : World), Below w.heap.size w w' → R w' g (.tuple #[.int .i64 n, y]) (.tu [.v (.int .i64 n), errI te b]) := fun n y b hy w' hB => by
    refine .tu _ _ rfl fun j x c h1 h2 => ?_
    match j, h1, h2 with
    | 0, h1, h2 => simp at h1 h2; subst h1; subst h2; exact .v _
    | 1, h1, h2 => simp at h1 h2; subst h1; subst h2; exact hy.mono (.of_below hB)
    | j + 2, h1, h2 => simp at h1
  cases h : Lib.atoiAll s with
  | ok v =>
    have e : atoiS s = (v, false) := by simp only [atoiS, h]
    rw [e] at hK
    refine (Any.strconv_Atoi_ok Ly ⟨s.toArray⟩ (by show s.toArray.size ≤ _; simp; omega) v (by simpa using h) w).mono ?_
    rintro e w' ⟨rfl, hw⟩
    have hB : Below w.heap.size w w' := by
      rcases hw with rfl | ⟨t, rfl⟩
      · exact Below.refl _ _
      · exact Lib.bytesWorld_below _ _ _
    exact ⟨_, g, H, .of_below hB, sm.of_below hB, .ret _ _ (two v .nilIface false (.v _) _ hB), hK⟩
  | range =>
    have e : atoiS s = (Lib.atoiSat s, true) := by simp only [atoiS, h]
    rw [e] at hK
    refine (Any.strconv_Atoi_range_var Ly ⟨s.toArray⟩ (by show s.toArray.size ≤ _; simpa using hs) (by simpa using h) t3 p3 w v3).mono ?_
    rintro e w' ⟨N, rfl, _, _, hB⟩
    rw [ht]
    have e2 : (⟨s.toArray⟩ : ByteArray).data.toList = s := by simp
    rw [e2]
    exact ⟨_, g, H, .of_below hB, sm.of_below hB, .ret _ _ (two _ _ true (.ifc _ _ _ (.any _)) _ hB), hK⟩
  | _ =>
    have e : atoiS s = (0, true) := by simp only [atoiS, h]
    rw [e] at hK
    refine (Any.strconv_Atoi_syntax_var Ly ⟨s.toArray⟩ (by show s.toArray.size ≤ _; simpa using hs) (by simpa using h) t2 p2 w v2).mono ?_
    rintro e w' ⟨N, rfl, _, _, hB⟩
    rw [ht]
    exact ⟨_, g, H, .of_below hB, sm.of_below hB, .ret _ _ (two 0 _ true (.ifc _ _ _ (.any _)) _ hB), hK⟩

theorem args2' {w : World} {g : Gs} {vs : Array Value} {i j : IV} (rl : RL w g vs [i, j]) : ∃ x y, vs = #[x, y] ∧ R w g x i ∧ R w g y j := by
  obtain ⟨h1, h2⟩ := rl
  have hs : vs.size = 2 := h1
  refine ⟨vs[0], vs[1], ?_, h2 0 _ i (Array.getElem?_eq_getElem (by omega)) rfl, h2 1 _ j (Array.getElem?_eq_getElem (by omega)) rfl⟩
  apply Array.ext
  · simpa using hs
  · intro q hq hq'
    have : q = 0 ∨ q = 1 := by omega
    rcases this with rfl | rfl <;> rfl

theorem ICalls_cut {ρ : Go.Shelf.Ren} {f : FuncId} (Ly : Lays.n145 P ρ) (hf : ρ.f 145 = f) (hg : P.globalNamed "internal/bytealg.MaxLen" = some (ρ.g 1)) (hb : hasBody P f = true) (hV : VOK P H) (s t : List UInt8) (hs : s.length < 4294967281) (hK : K (.ret (.tu [.v (str (Lib.cut s t).1), .v (str (Lib.cut s t).2.1), .v (.bool (Lib.cut s t).2.2)])) H) : ICalls P f [.v (str s), .v (str t)] H K := by
  refine ⟨hb, fun w g vs sm rl => ?_⟩
  obtain ⟨x, y, rfl, hx, hy⟩ := args2' rl
  rw [hx.v_eq, hy.v_eq, ← hf]
  obtain ⟨b1, b2, b3, b4, t2, t3, p2, p3, x4, m4, q1, q2, q3, q5, q6, q4⟩ := hV
  obtain ⟨el4, fz4, hc4⟩ := vars_get sm q4 (i := 3) rfl
  have e4 : b4 = ρ.g 1 := by rw [hg] at q5; exact (Option.some.inj q5).symm
  subst e4
  have hm : w.cell? ⟨ρ.g 1, 0, none⟩ = some (.int .i64 m4) := by simp only [World.cell?, hc4]; exact q6
  refine (Any.strings_Cut Ly ⟨s.toArray⟩ ⟨t.toArray⟩ m4 w (by show s.toArray.size < _; simpa using hs) hm).mono ?_
  rintro e w' ⟨rfl, n, rfl⟩
  have hB : Below w.heap.size w (w.drewN n) := ⟨rfl, rfl, rfl, Nat.le_refl _, fun _ _ => rfl⟩
  refine ⟨_, g, H, .of_below hB, sm.of_below hB, .ret _ _ (.tu _ _ rfl fun j x c h1 h2 => ?_), hK⟩
  match j, h1, h2 with
  | 0, h1, h2 => simp at h1 h2; subst h1; subst h2; exact .v _
  | 1, h1, h2 => simp at h1 h2; subst h1; subst h2; exact .v _
  | 2, h1, h2 => simp at h1 h2; subst h1; subst h2; exact .v _
  | j + 3, h1, h2 => simp at h1

end Go.Idl
