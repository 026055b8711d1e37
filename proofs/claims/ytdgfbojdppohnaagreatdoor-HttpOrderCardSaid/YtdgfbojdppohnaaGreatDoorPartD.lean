/- Heads in any order, their names in great letters, are the same heads: the saying of the case law 12 Part 4. Conditions: none. -/
import Derived.Test.YtdgfbojdppohnaaGreatDoorPartC
import Derived.Test.YtdgfbojdppohnaaGreatDoorProg
import Derived.Shelf.Sort.Plain
import Derived.Shelf.Strings.Builder1
import Derived.Shelf.LaysC
import Derived.Shelf.Strconv.Itoa3
import Derived.Shelf.Strconv.ErrVarAll
import Derived.Shelf.Strings.Cut
import Derived.Lib.AtoiTie
import Derived.Sort.Walk0
import Derived.Shelf.SlSortCmp.WholeK
import Derived.Shelf.Strings.Split
import Derived.Shelf.Strings.SlTrimAscii
import Derived.Shelf.Bytes.SlCut
import Derived.ProofKit
import Derived.OpenShut
import Derived.Ground.NamesProg
import Derived.Shelf.LaysM
import Derived.Shelf.Strconv.AtoiAll
import Derived.Shelf.Small.Strs
import Derived.Shelf.SlLaysT
import Derived.Ground.SlsfProg
import Derived.Ground.SlbtProg
import Derived.Shelf.SlSortCmp.NoneTotal
import Derived.Shelf.Strconv.ToError
import Derived.Shelf.Strconv.ToErrorRange
set_option linter.unusedSimpArgs false
set_option linter.unusedVariables false
namespace Go.Idl
open Go
@[go_sem] theorem Y4 : Go.Proofs.Tryz.prog.cellsOf 3 = 1 := by kernel_rfl
@[go_sem] theorem Ml : Go.Proofs.Tryz.prog.cellsOf 5 = 1 := by kernel_rfl
@[go_sem] theorem Y5 : Go.Proofs.Tryz.prog.bytesOf 5 = 1 := by kernel_rfl
@[go_sem] theorem Wc : zeroOf Go.Proofs.Tryz.prog 5 = Option.some (Go.Value.int Go.IntKind.u8 0) := by kernel_rfl
@[go_sem] theorem GO : Go.Proofs.Tryz.prog.cellsOf 9 = 1 := by kernel_rfl
@[go_sem] theorem Y6 : Go.Proofs.Tryz.prog.bytesOf 9 = 16 := by kernel_rfl
@[go_sem] theorem Yy : zeroOf Go.Proofs.Tryz.prog 9 = Option.some (Go.Value.string { data := #[] }) := by kernel_rfl
@[go_sem] theorem QK : Go.Proofs.Tryz.prog.cellsOf 23 = 1 := by kernel_rfl
@[go_sem] theorem N8 : Go.Proofs.Tryz.prog.cellsOf 24 = 1 := by kernel_rfl
@[go_sem] theorem Xq : Go.Proofs.Tryz.prog.cellsOf 26 = 3 := by kernel_rfl
@[go_sem] theorem Xr : Jq Go.Proofs.Tryz.prog 26 = false := by kernel_rfl
@[go_sem] theorem Y7 : zeroOf Go.Proofs.Tryz.prog 26 = Option.some (Go.Value.agg #[Go.Value.int Go.IntKind.i64 0, Go.Value.slice Option.none 0 0, Go.Value.slice Option.none 0 0]) := by kernel_rfl
@[go_sem] theorem Xs : Go.Proofs.Tryz.prog.cellsOf 27 = 1 := by kernel_rfl
@[go_sem] theorem Xt : Jq Go.Proofs.Tryz.prog 27 = false := by kernel_rfl
@[go_sem] theorem Y8 : zeroOf Go.Proofs.Tryz.prog 27 = Option.some (Go.Value.int Go.IntKind.i64 0) := by kernel_rfl
@[go_sem] theorem QL : Go.Proofs.Tryz.prog.cellsOf 43 = 4 := by kernel_rfl
@[go_sem] theorem Xu : Jq Go.Proofs.Tryz.prog 43 = false := by kernel_rfl
@[go_sem] theorem Y9 : zeroOf Go.Proofs.Tryz.prog 43 = Option.some (Go.Value.agg #[Go.Value.string { data := #[] }, Go.Value.string { data := #[] }, Go.Value.slice Option.none 0 0, Go.Value.slice Option.none 0 0]) := by kernel_rfl
@[go_sem] theorem Kh : Go.Proofs.Tryz.prog.cellsOf 56 = 2 := by kernel_rfl
@[go_sem] theorem Xv : Jq Go.Proofs.Tryz.prog 56 = false := by kernel_rfl
@[go_sem] theorem Xw : Go.Proofs.Tryz.prog.bytesOf 56 = 32 := by kernel_rfl
@[go_sem] theorem Ya : zeroOf Go.Proofs.Tryz.prog 56 = Option.some (Go.Value.agg #[Go.Value.string { data := #[] }, Go.Value.string { data := #[] }]) := by kernel_rfl
@[go_sem] theorem Xx : Jq Go.Proofs.Tryz.prog 95 = false := by kernel_rfl
@[go_sem] theorem Yb : zeroOf Go.Proofs.Tryz.prog 95 = Option.some (Go.Value.agg #[]) := by kernel_rfl
@[go_sem] theorem Xy : Go.Proofs.Tryz.prog.cellsOf 99 = 1 := by kernel_rfl
@[go_sem] theorem Yc : zeroOf Go.Proofs.Tryz.prog 99 = Option.some (Go.Value.agg #[Go.Value.slice Option.none 0 0]) := by kernel_rfl
@[go_sem] theorem Xz : zeroOf Go.Proofs.Tryz.prog 101 = Option.some (Go.Value.agg #[Go.Value.slice Option.none 0 0]) := by kernel_rfl
@[go_sem] theorem Wd : Go.Proofs.Tryz.prog.cellsOf 114 = 2 := by kernel_rfl
@[go_sem] theorem XA : zeroOf Go.Proofs.Tryz.prog 114 = Option.some (Go.Value.agg #[Go.Value.string { data := #[] }, Go.Value.string { data := #[] }]) := by kernel_rfl
@[go_sem] theorem Iy : Go.Proofs.Tryz.prog.cellsOf 175 = 1 := by kernel_rfl
attribute [go_sem] Go.Proofs.Tryz.underlying0 Go.Proofs.Tryz.underlying1 Go.Proofs.Tryz.underlying2 Go.Proofs.Tryz.underlying3 Go.Proofs.Tryz.underlying4 Go.Proofs.Tryz.underlying5 Go.Proofs.Tryz.underlying6 Go.Proofs.Tryz.underlying7 Go.Proofs.Tryz.underlying8 Go.Proofs.Tryz.underlying9 Go.Proofs.Tryz.underlying10 Go.Proofs.Tryz.underlying11 Go.Proofs.Tryz.underlying12 Go.Proofs.Tryz.underlying13 Go.Proofs.Tryz.underlying14 Go.Proofs.Tryz.underlying15 Go.Proofs.Tryz.underlying16 Go.Proofs.Tryz.underlying17 Go.Proofs.Tryz.underlying18 Go.Proofs.Tryz.underlying19 Go.Proofs.Tryz.underlying20 Go.Proofs.Tryz.underlying21 Go.Proofs.Tryz.underlying22 Go.Proofs.Tryz.underlying23 Go.Proofs.Tryz.underlying24 Go.Proofs.Tryz.underlying25 Go.Proofs.Tryz.underlying26 Go.Proofs.Tryz.underlying27 Go.Proofs.Tryz.underlying28 Go.Proofs.Tryz.underlying29 Go.Proofs.Tryz.underlying30 Go.Proofs.Tryz.underlying31 Go.Proofs.Tryz.underlying32 Go.Proofs.Tryz.underlying33 Go.Proofs.Tryz.underlying34 Go.Proofs.Tryz.underlying35 Go.Proofs.Tryz.underlying36 Go.Proofs.Tryz.underlying37 Go.Proofs.Tryz.underlying38 Go.Proofs.Tryz.underlying39 Go.Proofs.Tryz.underlying40 Go.Proofs.Tryz.underlying41 Go.Proofs.Tryz.underlying42 Go.Proofs.Tryz.underlying43 Go.Proofs.Tryz.underlying44 Go.Proofs.Tryz.underlying45 Go.Proofs.Tryz.underlying46 Go.Proofs.Tryz.underlying47 Go.Proofs.Tryz.underlying48 Go.Proofs.Tryz.underlying49 Go.Proofs.Tryz.underlying50 Go.Proofs.Tryz.underlying51 Go.Proofs.Tryz.underlying52 Go.Proofs.Tryz.underlying53 Go.Proofs.Tryz.underlying54 Go.Proofs.Tryz.underlying55 Go.Proofs.Tryz.underlying56 Go.Proofs.Tryz.underlying57 Go.Proofs.Tryz.underlying58 Go.Proofs.Tryz.underlying59 Go.Proofs.Tryz.underlying60 Go.Proofs.Tryz.underlying61 Go.Proofs.Tryz.underlying62 Go.Proofs.Tryz.underlying63 Go.Proofs.Tryz.underlying64 Go.Proofs.Tryz.underlying65 Go.Proofs.Tryz.underlying66 Go.Proofs.Tryz.underlying67 Go.Proofs.Tryz.underlying68 Go.Proofs.Tryz.underlying69 Go.Proofs.Tryz.underlying70 Go.Proofs.Tryz.underlying71 Go.Proofs.Tryz.underlying72 Go.Proofs.Tryz.underlying73 Go.Proofs.Tryz.underlying74 Go.Proofs.Tryz.underlying75 Go.Proofs.Tryz.underlying76 Go.Proofs.Tryz.underlying77 Go.Proofs.Tryz.underlying78 Go.Proofs.Tryz.underlying79 Go.Proofs.Tryz.underlying80 Go.Proofs.Tryz.underlying81 Go.Proofs.Tryz.underlying82 Go.Proofs.Tryz.underlying83 Go.Proofs.Tryz.underlying84 Go.Proofs.Tryz.underlying85 Go.Proofs.Tryz.underlying86 Go.Proofs.Tryz.underlying87 Go.Proofs.Tryz.underlying88 Go.Proofs.Tryz.underlying89 Go.Proofs.Tryz.underlying90 Go.Proofs.Tryz.underlying91 Go.Proofs.Tryz.underlying92 Go.Proofs.Tryz.underlying93 Go.Proofs.Tryz.underlying94 Go.Proofs.Tryz.underlying95 Go.Proofs.Tryz.underlying96 Go.Proofs.Tryz.underlying97 Go.Proofs.Tryz.underlying98 Go.Proofs.Tryz.underlying99 Go.Proofs.Tryz.underlying100 Go.Proofs.Tryz.underlying101 Go.Proofs.Tryz.underlying102 Go.Proofs.Tryz.underlying103 Go.Proofs.Tryz.underlying104 Go.Proofs.Tryz.underlying105 Go.Proofs.Tryz.underlying106 Go.Proofs.Tryz.underlying107 Go.Proofs.Tryz.underlying108 Go.Proofs.Tryz.underlying109 Go.Proofs.Tryz.underlying110 Go.Proofs.Tryz.underlying111 Go.Proofs.Tryz.underlying112 Go.Proofs.Tryz.underlying113 Go.Proofs.Tryz.underlying114 Go.Proofs.Tryz.underlying115 Go.Proofs.Tryz.underlying116 Go.Proofs.Tryz.underlying117 Go.Proofs.Tryz.underlying118 Go.Proofs.Tryz.underlying119 Go.Proofs.Tryz.underlying120 Go.Proofs.Tryz.underlying121 Go.Proofs.Tryz.underlying122 Go.Proofs.Tryz.underlying123 Go.Proofs.Tryz.underlying124 Go.Proofs.Tryz.underlying125 Go.Proofs.Tryz.underlying126 Go.Proofs.Tryz.underlying127 Go.Proofs.Tryz.underlying128 Go.Proofs.Tryz.underlying129 Go.Proofs.Tryz.underlying130 Go.Proofs.Tryz.underlying131 Go.Proofs.Tryz.underlying132 Go.Proofs.Tryz.underlying133 Go.Proofs.Tryz.underlying134 Go.Proofs.Tryz.underlying135 Go.Proofs.Tryz.underlying136 Go.Proofs.Tryz.underlying137 Go.Proofs.Tryz.underlying138 Go.Proofs.Tryz.underlying139 Go.Proofs.Tryz.underlying140 Go.Proofs.Tryz.underlying141 Go.Proofs.Tryz.underlying142 Go.Proofs.Tryz.underlying143 Go.Proofs.Tryz.underlying144 Go.Proofs.Tryz.underlying145 Go.Proofs.Tryz.underlying146 Go.Proofs.Tryz.underlying147 Go.Proofs.Tryz.underlying148 Go.Proofs.Tryz.underlying149 Go.Proofs.Tryz.underlying150 Go.Proofs.Tryz.underlying151 Go.Proofs.Tryz.underlying152 Go.Proofs.Tryz.underlying153 Go.Proofs.Tryz.underlying154 Go.Proofs.Tryz.underlying155 Go.Proofs.Tryz.underlying156 Go.Proofs.Tryz.underlying157 Go.Proofs.Tryz.underlying158 Go.Proofs.Tryz.underlying159 Go.Proofs.Tryz.underlying160 Go.Proofs.Tryz.underlying161 Go.Proofs.Tryz.underlying162 Go.Proofs.Tryz.underlying163 Go.Proofs.Tryz.underlying164 Go.Proofs.Tryz.underlying165 Go.Proofs.Tryz.underlying166 Go.Proofs.Tryz.underlying167 Go.Proofs.Tryz.underlying168 Go.Proofs.Tryz.underlying169 Go.Proofs.Tryz.underlying170 Go.Proofs.Tryz.underlying171 Go.Proofs.Tryz.underlying172 Go.Proofs.Tryz.underlying173 Go.Proofs.Tryz.underlying174 Go.Proofs.Tryz.underlying175 Go.Proofs.Tryz.underlying176 Go.Proofs.Tryz.underlying177 Go.Proofs.Tryz.underlying178 Go.Proofs.Tryz.underlying179 Go.Proofs.Tryz.underlying180 Go.Proofs.Tryz.underlying181 Go.Proofs.Tryz.underlying182 Go.Proofs.Tryz.underlying183 Go.Proofs.Tryz.underlying184 Go.Proofs.Tryz.underlying185 Go.Proofs.Tryz.underlying186 Go.Proofs.Tryz.underlying187 Go.Proofs.Tryz.underlying188 Go.Proofs.Tryz.underlying189 Go.Proofs.Tryz.underlying190 Go.Proofs.Tryz.underlying191 Go.Proofs.Tryz.underlying192 Go.Proofs.Tryz.underlying193 Go.Proofs.Tryz.underlying194 Go.Proofs.Tryz.underlying195 Go.Proofs.Tryz.underlying196 Go.Proofs.Tryz.underlying197 Go.Proofs.Tryz.underlying198 Go.Proofs.Tryz.underlying199 Go.Proofs.Tryz.underlying200 Go.Proofs.Tryz.underlying201 Go.Proofs.Tryz.underlying202 Go.Proofs.Tryz.underlying203 Go.Proofs.Tryz.underlying204 Go.Proofs.Tryz.underlying205 Go.Proofs.Tryz.underlying206 Go.Proofs.Tryz.underlying207 Go.Proofs.Tryz.underlying208 Go.Proofs.Tryz.underlying209 Go.Proofs.Tryz.underlying210 Go.Proofs.Tryz.underlying211 Go.Proofs.Tryz.underlying212 Go.Proofs.Tryz.underlying213 Go.Proofs.Tryz.underlying214 Go.Proofs.Tryz.underlying215 Go.Proofs.Tryz.underlying216 Go.Proofs.Tryz.underlying217 Go.Proofs.Tryz.underlying218 Go.Proofs.Tryz.underlying219 Go.Proofs.Tryz.underlying220 Go.Proofs.Tryz.underlying221
end Go.Idl
namespace Go.Idl
open Go Go.RowKit Go.Proofs Go.Shelf
variable {P : Program} {H : A0}
end Go.Idl
namespace Go.Idl
open Go Go.RowKit
variable {P : Program} {N : Nat} {tm : Tm} {H : A0}
@[go_sem] theorem T9 {d : Option Tmp} {t : TypeId} {p : String} {af : Array Edge} {gd : Option (Nat × Bool)} {K : IV → A0 → Prop} {Qp : List PanicEntry → A0 → Prop} {x : Operand} {a : TypeId} :
    BR P N ⟨d, .call ⟨.builtin .clear, #[x], #[a]⟩, t, p, af, gd⟩ tm H K Qp = Aj P N ⟨d, .call ⟨.builtin .clear, #[x], #[a]⟩, t, p, af, gd⟩ tm H K Qp := rfl
end Go.Idl
namespace Go.Idl
open Go Go.RowKit
variable {P : Program} {N : Nat} {tm : Tm} {H : A0}
theorem EA {e : TypeId} (s : ByteArray) (w : World) : ∃ w' cap xs f, (Conv.stringToBytes e s).run P w = .ok (.slice (some ⟨w.heap.size, 0, none⟩) s.size cap) w' ∧ s.size ≤ cap ∧
    w.heap.size < w'.heap.size ∧ w'.os = w.os ∧ w'.tape = w.tape ∧ w'.output = w.output ∧ (∀ b, b < w.heap.size → w'.heap[b]? = w.heap[b]?) ∧ w'.heap[w.heap.size]? = some (.cells xs e f) ∧ xs.size = cap ∧
    Hj xs.size f ∧ (∀ j, j < s.size → xs[j]? = some (.int .u8 ((bytes s).getD j 0).toNat)) := by
 let cap := grownCap w s.size 0 e
 let xs : Array Value := (s.data.map fun b => Value.int .u8 b.toNat) ++ Array.replicate (cap - s.size) (.int .u8 0)
 have hge : s.size ≤ cap := grownCap_ge w s.size 0 e; have hsz : xs.size = cap := by
  have : s.data.size = s.size := rfl; simp [xs]; omega
 have hhp : (w.drew.alloc (.cells xs e)).heap.size = w.heap.size + 1 := by
  show (w.heap.push _).size = _; simp
 have hnew : (w.drew.alloc (.cells xs e)).heap[w.heap.size]? = some (.cells xs e (0, 0)) := by
  have := World.alloc_heap_new w.drew (.cells xs e); exact this
 have hfz : ∀ i, ((w.drew.alloc (.cells xs e)).freeze ⟨w.heap.size, xs.size, none⟩ 1).heap[i]? = if i = w.heap.size then some (.cells xs e (xs.size, xs.size + 1)) else w.heap[i]? := by
  intro i; simp only [World.freeze]; rw [if_neg (by omega), Array.getElem?_modify]; by_cases h : i = w.heap.size
  ·rw [if_pos h.symm, if_pos h, h, hnew]; rfl
  ·rw [if_neg (fun h' => h h'.symm), if_neg h, AV]; have : ¬ i = w.drew.heap.size := h; rw [if_neg this]; rfl
 refine ⟨(w.drew.alloc (.cells xs e)).freeze ⟨w.heap.size, xs.size, none⟩ 1, cap, xs, (xs.size, xs.size + 1), ?_, hge, ?_, rfl, rfl, rfl, fun b hb => by rw [hfz, if_neg (by omega)], by rw [hfz, if_pos rfl], hsz, fun i hi h => by simp at h; omega, fun j hj => ?_⟩
 ·unfold Conv.stringToBytes; have hsh : (w.drew.alloc (.cells xs e)).shape? w.heap.size = some (e, xs.size) := by simp only [World.shape?, hnew]
  have hch : (choose (.appendCap s.size 0 e)).run P w = .ok cap w.drew := by
   rw [run_choose]; simp only [Question.forced, Bool.false_eq_true, if_false]; rfl
  simp only [Sem.run_bind, hch, Result.andThen_ok, newRow, run_newObj_alloc, Sem.run_pure, markStringish, run_shape]; have hxs : (s.data.map fun b => Value.int .u8 b.toNat) ++ Array.replicate (cap - s.size) (.int .u8 0) = xs := rfl; rw [hxs]; have hdh : w.drew.heap.size = w.heap.size := rfl; rw [hdh, hsh]; simp only [run_freeze, Result.andThen_ok]
 ·show w.heap.size < ((w.drew.alloc (.cells xs e)).freeze ⟨w.heap.size, xs.size, none⟩ 1).heap.size; simp only [World.freeze]; rw [if_neg (by omega)]; rw [Array.size_modify, hhp]; omega
 ·have hj' : j < s.data.size := hj; have e1 : (bytes s).getD j 0 = s.data[j] := by
   simp only [bytes, List.getD_eq_getElem?_getD, Array.getElem?_toList, Array.getElem?_eq_getElem hj', Option.getD_some]
  rw [e1]; simp only [xs]; rw [Array.getElem?_append_left (by simpa using hj'), Array.getElem?_map, Array.getElem?_eq_getElem hj']; rfl
@[go_sem] theorem Qg {K : A0 → Prop} {J : Exit → A0 → Prop} : Mh K J .normal tm H = K H := rfl
@[go_sem] theorem Ta {K : A0 → Prop} {J : Exit → A0 → Prop} : Mh K J .ret tm H = J .ret H := rfl
@[go_sem] theorem S9 {K : A0 → Prop} {J : Exit → A0 → Prop} {id : Nat} : Mh K J (.exit id) tm H = J (.exit id) H := rfl
section
variable {l : Nat} {J : Tm → A0 → Prop} {Q : Exit → Tm → A0 → Prop}
@[go_sem] theorem QM : L6 l J Q .normal tm H = Q .normal tm H := rfl
@[go_sem] theorem Vq : L6 l J Q .ret tm H = Q .ret tm H := rfl
@[go_sem] theorem Tb {id : Nat} : L6 l J Q (.exit id) tm H = Q (.exit id) tm H := rfl
@[go_sem] theorem Tc {l' : Nat} : L6 l J Q (.goto l') tm H = (l' = l ∧ J tm H) := rfl
@[go_sem] theorem Sa {c : List PanicEntry} : L6 l J Q (.panic c) tm H = Q (.panic c) tm H := rfl
end
theorem Je {o : Oper} {K : IV → A0 → Prop} {Qp : List PanicEntry → A0 → Prop} {ta tb e : TypeId} {d : TypeDesc} {x : Operand} {s : ByteArray} (ho : o.op = .convert ta tb x) (hok : okO N o = true) (ha : P.underlying ta = some d)
    (hb : P.underlying tb = some (.slice e)) (he : P.underlying e = some (.int .u8)) (hx : ev tm x = .v (.string s)) (hs : (bytes s).length ≤ D5) (hK : K (.sl 1 (byt (bytes s))) H) : Aj P N o tm H K Qp := by
 obtain ⟨dst, op, type, pos, after, guard⟩ := o; simp only at ho; subst ho; refine AF (by simp) fun w g a sm r hN => ?_; subst hN; have rx := r.ev (x := x) (by simp [okO, Op.operands] at hok; exact hok.1); rw [hx] at rx; have hxe := rx.v_eq; obtain ⟨w', cap, xs, f, h1, h2, h3, h4, h5, h6, h7, h8, h9, h10, h11⟩ := EA (P := P) (e := e) s w; have hg := sm.grow (w' := w') (Nat.le_of_lt h3) h4 h5 h6 h7; have hsz := BJ s; have hcs : Bx w g xs ((bytes s).map fun b => .v (.int .u8 b.toNat)) := by
  refine ⟨by rw [List.length_map, ← hsz, h9]; exact h2, fun j c hj => ?_⟩; have hjl : j < (bytes s).length := by
   have := (List.getElem?_eq_some_iff.1 hj).1; simpa using this
  have := h11 j (by rw [hsz]; exact hjl); refine ⟨_, this, rfl, ?_⟩; simp only [List.getElem?_map, Option.map_eq_some_iff] at hj; obtain ⟨b, hb', rfl⟩ := hj; rw [List.getD_eq_getElem?_getD, hb']; exact .v _
 have hR := Ib hg.2 (sz := 1) (n := s.size) (cap := cap) h8 (sm.fresh (Nat.le_refl _)) hcs (by rw [List.length_map, hsz]; omega) h2 (by rw [hsz]; exact hs); rw [Hx (by rw [List.length_map, hsz]), List.map_map] at hR; refine ⟨_, w', g, H, _, .inl ?_, hg.2, hg.1, hR, hK⟩; simp [execOp, convert, hxe, run_underlying ha, run_underlying hb, run_underlying he, h1]
end Go.Idl
namespace Go.Idl
open Go Go.RowKit
inductive Ki {σ ρ : Type} (step : σ → Option (σ ⊕ ρ)) : σ → ρ → Prop
  | done {s : σ} {r : ρ} (h : step s = some (.inr r)) : Ki step s r
  | more {s s' : σ} {r : ρ} (h : step s = some (.inl s')) (k : Ki step s' r) : Ki step s r
theorem Ki.det {σ ρ : Type} {step : σ → Option (σ ⊕ ρ)} {s : σ} {r r' : ρ} (h : Ki step s r) (h' : Ki step s r') : r = r' := by
 induction h with
 | done h => cases h' with
  | done k => rw [h] at k; simpa using k
  | more k _ => rw [h] at k; simp at k
 | more h _ ih => cases h' with
  | done k => rw [h] at k; simp at k
  | more k k' => rw [h] at k; simp at k; subst k; exact ih k'
open Classical in
noncomputable def AY {σ ρ : Type} (step : σ → Option (σ ⊕ ρ)) (s : σ) : Option ρ :=
  if h : ∃ r, Ki step s r then some h.choose else none
theorem CK {σ ρ : Type} {step : σ → Option (σ ⊕ ρ)} {s : σ} {r : ρ} : AY step s = some r ↔ Ki step s r := by
 unfold AY; constructor
 ·intro h; split at h
  ·rename_i h'; simp at h; rw [← h]; exact h'.choose_spec
  ·cases h
 ·intro h; have h' : ∃ r, Ki step s r := ⟨r, h⟩; rw [dif_pos h']; exact congrArg some (h'.choose_spec.det h)
theorem B3 {σ ρ : Type} {step : σ → Option (σ ⊕ ρ)} {s : σ} {r : ρ} (h : step s = some (.inr r)) : AY step s = some r := CK.2 (.done h)
theorem CL {σ ρ : Type} {step : σ → Option (σ ⊕ ρ)} {s s' : σ} (h : step s = some (.inl s')) : AY step s = AY step s' := by
 cases h' : AY step s' with
 | some r => exact CK.2 (.more h (CK.1 h'))
 | none =>
  cases h2 : AY step s with
  | none => rfl
  | some r =>
   have := CK.1 h2; cases this with
   | done k => rw [h] at k; simp at k
   | more k k' => rw [h] at k; simp at k; subst k; rw [CK.2 k'] at h'; cases h'
theorem Jy {σ ρ : Type} {step : σ → Option (σ ⊕ ρ)} {Post : ρ → Prop} (I : σ → Prop) (μ : σ → Nat)
    (h : ∀ s, I s → (∃ s', step s = some (.inl s') ∧ I s' ∧ μ s' < μ s) ∨ ∃ r, step s = some (.inr r) ∧ Post r) {s : σ} (hs : I s) : ∃ r, AY step s = some r ∧ Post r := by
 generalize hn : μ s = n
 induction n using Nat.strongRecOn generalizing s with
 | _ n ih =>
  rcases h s hs with ⟨s', h1, h2, h3⟩ | ⟨r, h1, h2⟩
  ·obtain ⟨r, k1, k2⟩ := ih (μ s') (hn ▸ h3) h2 rfl; exact ⟨r, (CL h1).trans k1, k2⟩
  ·exact ⟨r, B3 h1, h2⟩
def gd {α : Type} (p : Prop) [Decidable p] (x : Option α) : Option α := if p then x else none
theorem A8 {α : Type} {p : Prop} [Decidable p] {x : Option α} {r : α} : gd p x = some r ↔ p ∧ x = some r := by
 unfold gd; split <;> simp [*]
theorem Ab {α : Type} {p : Prop} [Decidable p] {x : Option α} (h : p) : gd p x = x := if_pos h
theorem A4 {α β : Type} {x : Option α} {f : α → Option β} {r : β} (h : x.bind f = some r) : ∃ a, x = some a ∧ f a = some r := Option.bind_eq_some_iff.1 h
variable {P : Program} {N : Nat} {tm : Tm} {H : A0} {Q : Exit → Tm → A0 → Prop}
theorem A1 {a b : Code} (h : ∀ cb, cb = b → IWp P N a (D9 (fun tm H => IWp P N cb Q tm H) Q) tm H) : IWp P N (.seq a b) Q tm H := JZ (h b rfl)
theorem P0 {a b : Code} (J : Tm → A0 → Prop) (hJ : ∀ tm H, J tm H → IWp P N b Q tm H) (h : ∀ cb, (∀ tm H, UpI J tm H → IWp P N cb Q tm H) → IWp P N a (D9 (fun tm H => IWp P N cb Q tm H) Q) tm H) : IWp P N (.seq a b) Q tm H :=
  JZ (h b fun _ _ ⟨_, _, hg, hj⟩ => IWp.gh hg (hJ _ _ hj))
def N9 {σ ρ : Type} (x : σ ⊕ ρ) (I : σ → Tm → A0 → Prop) (tm : Tm) (H : A0) : Prop := ∃ s', x = .inl s' ∧ UpI (I s') tm H
theorem Ap {σ ρ : Type} {I I' : σ → Tm → A0 → Prop} (hI : I' = I) (s' : σ) (h : UpI (I s') tm H) : N9 (ρ := ρ) (.inl s') I' tm H := by subst hI; exact ⟨s', rfl, h⟩
theorem AQ {σ ρ : Type} {c : Code} {step : σ → Option (σ ⊕ ρ)} {r : ρ} (I : σ → Tm → A0 → Prop) {s : σ} (hr : AY step s = some r) (h0 : UpI (I s) tm H)
    (round' : ∀ I', I' = I → ∀ s x tm H, I s tm H → step s = some x → (∀ r', x = .inr r' → r' = r) → IWp P N c (D9 (N9 x I') Q) tm H) : IWp P N (.loop c) Q tm H := by
 have round := round' I rfl; clear round'; replace hr := CK.1 hr; obtain ⟨tm1, H1, hg, hI⟩ := h0; refine IWp.gh hg ?_; refine ⟨fun rr B D w0 g0 a0 s0 r0 hN0 hB0 hm0 => ?_⟩; intro b k cs hro hb hrr; have key : ∀ tm H, I s tm H → ∀ (w : World) (g : Gs) (a : Act), AB w0 g0 w g → Sim w g H → RA w g a tm → a.tmps.size = N → Marks rr B D w g a.defers →
  ∃ e a' w', Post rr B D N Q w0 g0 e a' w' ∧ ArrivesIn (Machine.fenced P (FR rr)) P (lone (b.atR a (.code c :: .inLoop c :: k)) cs w) b k cs e a' w' := by
  clear hI hg
  induction hr with
  | @done s r hd =>
   intro tm H hI w g a m s' ra hN hm; obtain ⟨e, a₁, w₁, ⟨tm1, g1, H1, m1, s1, r1, n1, k1, ne, q⟩, harr⟩ := (round s _ tm H hI hd fun r' e => by simpa using e.symm).run rr B D w g a s' ra hN (Nat.le_trans hB0 m.size) hm b (.inLoop c :: k) cs hro hb hrr; have mm := m.tr m1 s0 s'; cases e with
   | normal => obtain ⟨s', hs, _⟩ := q; cases hs
   | exit id => exact ⟨_, a₁, w₁, ⟨tm1, g1, H1, mm, s1, r1, n1, k1, ne, q⟩, .pass (x := .inLoop c) rfl (fun _ _ => .inl (by simp)) harr⟩
   | goto l => exact ⟨_, a₁, w₁, ⟨tm1, g1, H1, mm, s1, r1, n1, k1, ne, q⟩, .pass (x := .inLoop c) rfl (fun _ _ => .inl (by simp)) harr⟩
   | ret => exact ⟨_, a₁, w₁, ⟨tm1, g1, H1, mm, s1, r1, n1, k1, ne, q⟩, .pass (x := .inLoop c) rfl (fun _ _ => .inl (by simp)) harr⟩
   | panic ch => exact ⟨_, a₁, w₁, ⟨tm1, g1, H1, mm, s1, r1, n1, k1, ne, q⟩, .pass (x := .inLoop c) rfl (fun _ _ => .inl (by simp)) harr⟩
   | outgrown => exact absurd rfl ne
  | @more s s2 r hd _ ih =>
   intro tm H hI w g a m s' ra hN hm; obtain ⟨e, a₁, w₁, ⟨tm1, g1, H1, m1, s1, r1, n1, k1, ne, q⟩, harr⟩ := (round s _ tm H hI hd fun r' e => by cases e).run rr B D w g a s' ra hN (Nat.le_trans hB0 m.size) hm b (.inLoop c :: k) cs hro hb hrr; have mm := m.tr m1 s0 s'; cases e with
   | normal =>
    obtain ⟨s3, hs, tm2, H2, hg, hI1⟩ := q; cases hs; obtain ⟨g2, m2, sm2, r2⟩ := hg w₁ g1 s1; obtain ⟨e₂, a₂, w₂, hq₂, harr₂⟩ := ih round tm2 H2 hI1 w₁ g2 a₁ (mm.tr m2 s0 s1) sm2 (r2 _ r1) n1 (k1.mono m2); exact ⟨e₂, a₂, w₂, hq₂, .of_steps (StepsIn.trans harr (.one (fenced_calm hb hrr rfl) stepR_inLoop)) harr₂⟩
   | exit id => exact ⟨_, a₁, w₁, ⟨tm1, g1, H1, mm, s1, r1, n1, k1, ne, q⟩, .pass (x := .inLoop c) rfl (fun _ _ => .inl (by simp)) harr⟩
   | goto l => exact ⟨_, a₁, w₁, ⟨tm1, g1, H1, mm, s1, r1, n1, k1, ne, q⟩, .pass (x := .inLoop c) rfl (fun _ _ => .inl (by simp)) harr⟩
   | ret => exact ⟨_, a₁, w₁, ⟨tm1, g1, H1, mm, s1, r1, n1, k1, ne, q⟩, .pass (x := .inLoop c) rfl (fun _ _ => .inl (by simp)) harr⟩
   | panic ch => exact ⟨_, a₁, w₁, ⟨tm1, g1, H1, mm, s1, r1, n1, k1, ne, q⟩, .pass (x := .inLoop c) rfl (fun _ _ => .inl (by simp)) harr⟩
   | outgrown => exact absurd rfl ne
 obtain ⟨e, a', w', hq, harr⟩ := key tm1 H1 hI w0 g0 a0 (.refl _ _) s0 r0 hN0 hm0; exact ⟨e, a', w', hq, .of_steps (.one (fenced_calm hb hrr rfl) stepR_loop) harr⟩
theorem Aa {f : FuncId} {fn : Func} {c : Code} {args : List IV} {K : An → A0 → Prop} (hf : P.funcs[f]? = some fn) (hbd : Bq P f = true) (hb : fn.body = some c) (hN : fn.ntmps = N)
    (hn : (decide (args.length ≤ N) && fn.results.toList.all (rvN N)) = true)
    (h : ∀ cb, cb = c → H.Wf → (∀ a, a ∈ args → Bd a) → (∀ a, a ∈ args → NB H.next a) → IWp P N cb (M8 P fn.results.toList H K) (tm0 args) H) : A2 P f args H K := by
 subst hN; refine ⟨hbd, fun w g vs s rl => ?_⟩; simp only [Bool.and_eq_true, decide_eq_true_eq] at hn; refine (Fl hbd hf hb hn.1 hn.2 fun hw => h c rfl hw (fun a ha => ?_) (fun a ha => ?_)).run w g vs s rl
 ·obtain ⟨j, hj⟩ := List.getElem?_of_mem ha; have hlt : j < vs.size := by rw [rl.1]; exact (List.getElem?_eq_some_iff.1 hj).1
  exact (rl.2 j _ a (Array.getElem?_eq_getElem hlt) hj).bd
 ·obtain ⟨j, hj⟩ := List.getElem?_of_mem ha; have hlt : j < vs.size := by rw [rl.1]; exact (List.getElem?_eq_some_iff.1 hj).1
  have := (rl.2 j _ a (Array.getElem?_eq_getElem hlt) hj).nb
  rwa [s.nx] at this
theorem A2.wk {f : FuncId} {args args' : List IV} {K : An → A0 → Prop} (hl : args'.length = args.length) (hw : ∀ (j : Nat) (i i' : IV), args[j]? = some i → args'[j]? = some i' → Wk i i') (h : A2 P f args' H K) : A2 P f args H K := by
 refine ⟨h.body, fun w g vs s rl => h.run w g vs s ⟨by rw [rl.1, hl], fun j x c hx hc => ?_⟩⟩; have hlt : j < args.length := by rw [← hl]; exact (List.getElem?_eq_some_iff.1 hc).1
 exact hw j _ c (List.getElem?_eq_getElem hlt) hc w g x (rl.2 j x _ hx (List.getElem?_eq_getElem hlt))
theorem A2.eqA {f : FuncId} {args args' : List IV} {K : An → A0 → Prop} (e : args = args') (h : A2 P f args' H K) : A2 P f args H K := e ▸ h
inductive WkL : List IV → List IV → Prop
  | nil : WkL [] []
  | cons {a b : IV} {l m : List IV} (h : Wk a b) (t : WkL l m) : WkL (a :: l) (b :: m)
theorem WkL.len {l m : List IV} (h : WkL l m) : m.length = l.length := by
 induction h with
 | nil => rfl
 | cons _ _ ih => simp [ih]
theorem WkL.get {l m : List IV} (h : WkL l m) : ∀ (j : Nat) (a b : IV), l[j]? = some a → m[j]? = some b → Wk a b := by
 induction h with
 | nil => intro j a b h; simp at h
 | cons h _ ih =>
  intro j a b h1 h2; cases j with
  | zero => simp at h1 h2; subst h1; subst h2; exact h
  | succ j => exact ih j a b (by simpa using h1) (by simpa using h2)
theorem Wk.agL {l m : List IV} (h : WkL l m) : Wk (.ag l) (.ag m) := fun w g x hx => by
  cases hx with
  | ag xs _ hl ho hr =>
    refine .ag xs m (by rw [hl, h.len]) ho fun j x c h1 h2 => ?_
    have hlt : j < l.length := by rw [← h.len]; exact (List.getElem?_eq_some_iff.1 h2).1
    exact h.get j _ c (List.getElem?_eq_getElem hlt) h2 w g x (hr j x _ h1 (List.getElem?_eq_getElem hlt))
theorem WkL.refl : ∀ (l : List IV), WkL l l
  | [] => .nil
  | _ :: l => .cons (.refl _) (WkL.refl l)
theorem A2.wkL {f : FuncId} {args args' : List IV} {K : An → A0 → Prop} (hw : WkL args args') (h : A2 P f args' H K) : A2 P f args H K := A2.wk hw.len hw.get h
theorem A5 {α : Type} {c : Prop} [Decidable c] {b : Bool} {X Y : Option α} {x : α} {K : Bool → Prop} {sk : Tm → Prop} (h : (if c then X else Y) = some x) (e : b = decide c) (h1 : c → X = some x → K true) (h2 : ¬ c → Y = some x → K false) : D0 (.v (.bool b)) K sk tm := by
 subst e; refine G7 (fun hc => ?_) (fun hc => ?_)
 ·have hc : c := by simpa using hc
  rw [if_pos hc] at h; simpa [hc] using h1 hc h
 ·have hc : ¬ c := by simpa using hc
  rw [if_neg hc] at h; simpa [hc] using h2 hc h
theorem Gh.Kj {tm : Tm} {H : A0} {d sz : Nat} (h0 : 0 < sz) (hd : tm d = .v (.slice none 0 0)) : Gh tm H (upd tm d (.os H.next 0)) (H.new (.row sz [])) := by
 intro w g s; have hu := s.upd (w' := w) (H' := H.new (.row sz [])) H.next (.slice none 0 0) (.row sz []) rfl (Nat.le_succ _) (Nat.lt_succ_self _) (Nat.le_refl _) rfl rfl rfl
  (fun b hb => .inr rfl) (fun b hb => by simp [blk] at hb) (.inl rfl) (fun g' m _ => ⟨none, 0, rfl, by simp, by simp [D5], by simp, h0, .inl ⟨rfl, rfl⟩⟩)
 refine ⟨_, hu.2, hu.1, fun a r i hi => ?_⟩; show R w _ _ (if i = d then _ else _); by_cases e : i = d
 ·rw [if_pos e]; subst e; have h1 := r i hi; rw [hd] at h1; rw [h1.v_eq]; exact Cc (Nat.lt_succ_self _) ⟨none, 0, rfl⟩
 ·rw [if_neg e]; exact (r i hi).mono hu.2
theorem Ac {α : Type} {c : Prop} [Decidable c] {o : Operand} {X Y : Option α} {r : α} {x y : Code} (h : (if c then X else Y) = some r) (ho : ev tm o = .v (.bool (decide c))) (hN : opd N o = true)
    (h1 : c → X = some r → IWp P N x Q tm H) (h2 : ¬ c → Y = some r → IWp P N y Q tm H) : IWp P N (.cond o x y) Q tm H := by
 refine FU ho hN (fun e => ?_) (fun e => ?_)
 ·have hc : c := by simpa using e
  rw [if_pos hc] at h; exact h1 hc h
 ·have hc : ¬ c := by simpa using e
  rw [if_neg hc] at h; exact h2 hc h
theorem Aq {o : Operand} {x y : Code} (ho : ev tm o = .v (.bool true)) (hN : opd N o = true) (h1 : IWp P N x Q tm H) : IWp P N (.cond o x y) Q tm H := FU ho hN (fun _ => h1) (fun e => by cases e)
theorem By {o : Operand} {x y : Code} (ho : ev tm o = .v (.bool false)) (hN : opd N o = true) (h1 : IWp P N y Q tm H) : IWp P N (.cond o x y) Q tm H := FU ho hN (fun e => by cases e) (fun _ => h1)
theorem IWp.up {a : Code} (h : IWp P N a (fun e tm H => ∃ tm1 H1, Gh tm H tm1 H1 ∧ Q e tm1 H1) tm H) : IWp P N a Q tm H := by
 refine ⟨fun rr B D w g ac s r hN hB hm => wpIn_mono (h.run rr B D w g ac s r hN hB hm) ?_⟩
 rintro e a' w' ⟨tm', g', H', h1, h2, h3, h4, h5, h6, tm1, H1, hg, hq⟩
 obtain ⟨g2, m2, s2, r2⟩ := hg w' g' h2; exact ⟨tm1, g2, H1, h1.tr m2 s h2, s2, r2 _ h3, h4, h5.mono m2, h6, hq⟩
theorem AZ {a : Code} (J : Tm → A0 → Prop) (hJ : ∀ tm H, J tm H → Q .normal tm H) (h : ∀ K', (∀ tm H, UpI J tm H → K' tm H) → IWp P N a (D9 K' Q) tm H) : IWp P N a Q tm H := by
 refine IWp.up ((h (UpI J) fun _ _ h => h).mono fun e tm H hq => ?_); cases e with
 | normal => obtain ⟨tm1, H1, h1, h2⟩ := hq; exact ⟨tm1, H1, h1, hJ _ _ h2⟩
 | _ => exact ⟨tm, H, .refl _ _, hq⟩
section
variable {H0 : A0} {K : An → A0 → Prop}
theorem A3 {r r' : IV} (he : Ext H0 H) (e : r' = r) (hn : NB H0.next r) (h : K (.ret r) H0) : KY r' H0 K H := by subst e; exact AP he hn h
theorem AN {r r' r2 : IV} {J : A0} (he : Cw H0 H J) (e : r2 = r') (hf : Fz H J r r2) (h : K (.ret r') J) : KY r H0 K H := by subst e; exact EW he hf h
end
theorem Gh.Lb {tm : Tm} {H : A0} (d sz : Nat) (hd : tm d = .v (.slice none 0 0)) : Gh tm H (upd tm d (.sl sz [])) H := Gh.slot (by rw [hd]; exact Wk.nil sz)
@[go_sem] theorem QN {α β : Type} {l : List α} {f : α → β} {n : Nat} (h : l.length ≤ n) : (l.map f).take n = l.map f := List.take_of_length_le (by simpa using h)
@[go_sem high] theorem Iz {H : A0} {o : HO} {i : Nat} (h : ¬ i = H.next) : (H.new o).obj i = H.obj i := by simp [A0.new, h]
@[go_sem high] theorem Td {H : A0} {k i : Nat} {o : HO} (h : ¬ i = k) : (H.set k o).obj i = H.obj i := by simp [A0.set, h]
@[go_sem high] theorem Te {H : A0} {k i : Nat} (h : ¬ i = k) : (H.del k).obj i = H.obj i := by simp [A0.del, h]
end Go.Idl
namespace Go.Idl
open Go Go.RowKit Go.Proofs Go.Shelf
variable {P : Program} {N : Nat} {tm : Tm} {H : A0}
theorem args1 {w : World} {g : Gs} {vs : Array Value} {i : IV} (rl : RL w g vs [i]) : ∃ x, vs = #[x] ∧ R w g x i := by
 obtain ⟨h1, h2⟩ := rl; have hs : vs.size = 1 := h1; refine ⟨vs[0], ?_, h2 0 _ _ (Array.getElem?_eq_getElem (by omega)) rfl⟩; apply Array.ext
 ·simpa using hs
 ·intro j h3 h4; have e : j = 0 := by omega
  subst e; rfl
end Go.Idl
namespace Go.Idl
open Go Go.RowKit
variable {P : Program} {H : A0}
def A0.bare (H : A0) : A0 := { H with obj := fun _ => none }
@[go_sem] theorem We {k : Nat} : H.bare.obj k = none := rfl
@[go_sem] theorem Vr : H.bare.next = H.next := rfl
theorem P3 : K6 H.bare H := fun k o h => by simp [A0.bare] at h
theorem Sim.bare {w : World} {g : Gs} (s : Sim w g H) : Sim w (g.to H.bare) H.bare where
  nx := rfl
  sh := fun _ => rfl
  lt := fun k h => by simp [A0.bare] at h
  bk := fun k b h => by simp [Gs.to, A0.bare, A0.sh] at h
  inj := fun k k' b h => by simp [Gs.to, A0.bare, A0.sh] at h
  obj := fun k o h => by simp [A0.bare] at h
  old := s.old
  snap := fun p hp i hi => by
    have h := s.snap p hp i hi
    refine h.Fj ⟨Nat.le_refl _, fun _ _ _ => rfl, fun b _ e => Ig (P3.sh s) e, ?_, fun k _ e => ?_, fun k m _ e => ?_⟩
    · show g.nx ≤ H.next
      exact Nat.le_of_eq s.nx
    · simp [Gs.to, A0.bare, A0.sh] at e
    · simp [Gs.to, A0.bare, A0.sh] at e
inductive FzL (H J : A0) : List IV → List IV → Prop
  | nil : FzL H J [] []
  | cons {a b : IV} {l m : List IV} (h : Fz H J a b) (t : FzL H J l m) : FzL H J (a :: l) (b :: m)
theorem FzL.len {J : A0} {l m : List IV} (h : FzL H J l m) : m.length = l.length := by
 induction h with
 | nil => rfl
 | cons _ _ ih => simp [ih]
theorem FzL.get {J : A0} {l m : List IV} (h : FzL H J l m) : ∀ (j : Nat) (a b : IV), l[j]? = some a → m[j]? = some b → Fz H J a b := by
 induction h with
 | nil => intro j a b h; simp at h
 | cons h _ ih =>
  intro j a b h1 h2; cases j with
  | zero => simp at h1 h2; subst h1; subst h2; exact h
  | succ j => exact ih j a b (by simpa using h1) (by simpa using h2)
end Go.Idl
namespace Go.Idl
open Go Go.RowKit
variable {P : Program} {H B H' : A0}
theorem Ext.Wg (h : Ext B H') {k : Nat} (hk : B.obj k = none) (o : HO) : Ext B (H'.set k o) := by
 refine ⟨h.wf, h.le, fun i o' hi => ?_, h.sn⟩; simp only [A0.set]; by_cases e : i = k
 ·rw [e, hk] at hi; cases hi
 ·rw [if_neg e]; exact h.sub i o' hi
theorem Tf (hw : H.Wf) (k : Nat) : (H.del k).Wf := fun i hi => by
  simp only [A0.del]
  split
  · rfl
  · exact hw i hi
theorem AB.AR {w w' : World} {g : Gs} (h : Below w.heap.size w w') : AB w g w' g :=
  ⟨h.size, h.os, h.tape, h.output, fun b hb _ => h.block b hb, fun _ _ e => e, rfl, Nat.le_refl _, fun _ _ e => ⟨e, rfl⟩, fun _ m' _ e => ⟨m', e, Nat.le_refl _, fun _ => rfl⟩⟩
theorem Sim.AR {w w' : World} {g : Gs} (s : Sim w g H) (h : Below w.heap.size w w') : Sim w' g H where
  nx := s.nx
  sh := s.sh
  lt := s.lt
  bk := fun k b h1 h2 => ⟨(s.bk k b h1 h2).1, Nat.lt_of_lt_of_le (s.bk k b h1 h2).2 h.size⟩
  inj := s.inj
  obj := fun k o ho => Ct.mono (.AR h) (fun b hb => h.block b (s.bk k b (by rw [s.sh, A0.sh, ho]; rfl) hb).2) (s.obj k o ho)
  old := fun b hb => Nat.lt_of_lt_of_le (s.old b hb) h.size
  snap := fun p hp i hi => (s.snap p hp i hi).mono (.AR h)
def FH (t : TypeId) (b : Bool) : IV := if b = true then .ifc t .any else .v .nilIface
theorem Vs {P : Program} {t t' : TypeId} {b : Bool} {d : TypeDesc} (hu : P.underlying t = some d) (hd : (match d with | .interface _ => true | _ => false) = true) : FZ P .neq t (FH t' b) = some (True, .v (.bool b)) := by
 unfold FZ FH; rw [hu]; cases d <;> first | (cases b <;> rfl) | cases hd
theorem NX {P : Program} {t t' : TypeId} {b : Bool} {d : TypeDesc} (hu : P.underlying t = some d) (hd : (match d with | .interface _ => true | _ => false) = true) : FZ P .eql t (FH t' b) = some (True, .v (.bool !b)) := by
 unfold FZ FH; rw [hu]; cases d <;> first | (cases b <;> rfl) | cases hd
@[simp] theorem Kk {n : Nat} {t : TypeId} {b : Bool} : NB n (FH t b) := by
 unfold FH; split
 ·exact .ifc _ _ .any
 ·exact .v _
end Go.Idl
namespace Go.Idl
open Go Go.RowKit Go.Proofs Go.Shelf
variable {P : Program} {H : A0} {K : An → A0 → Prop}
def Hz (vs : List (Nat × Array Value)) : Array Value × (Nat → IV) := ((vs.map fun _ => undef).toArray, fun i => match vs[i]? with | some p => .blk p.1 p.2 | none => .any)
theorem R.QO {w : World} {g : Gs} {x : Value} {b : Nat} {xs : Array Value} (h : R w g x (.blk b xs)) : ∃ el f, w.heap[b]? = some (.cells xs el f) := by
 cases h with
 | blk _ _ el f _ _ h2 => exact ⟨el, f, h2⟩
theorem CX {w : World} {g : Gs} (s : Sim w g H) {vs : List (Nat × Array Value)} (h : Hz vs ∈ H.sn) {i b : Nat} {xs : Array Value} (hi : vs[i]? = some (b, xs)) : ∃ el f, w.heap[b]? = some (.cells xs el f) := by
 have hl : i < vs.length := (List.getElem?_eq_some_iff.1 hi).1; have h1 := s.snap _ h i (by simpa [Hz] using hl); simp only [Hz, hi] at h1; exact h1.QO
theorem Mm {w : World} {name : String} {b : Nat} {xs : Array Value} {el : TypeId} {f : Nat × Nat} (hg : P.globalNamed name = some b) (h : w.heap[b]? = some (.cells xs el f)) : w.var? P name = some xs := by
 unfold World.var?; rw [hg]; simp [h]
def VOK (P : Program) (H : A0) : Prop := ∃ (b1 b2 b3 b4 : Nat) (t2 t3 : TypeId) (p2 p3 : Value) (x4 : Array Value) (m4 : Int), P.globalNamed "internal/strconv.uint64pow10" = some b1 ∧ P.globalNamed "strconv.ErrSyntax" = some b2 ∧ P.globalNamed "strconv.ErrRange" = some b3 ∧ P.globalNamed "internal/bytealg.MaxLen" = some b4 ∧ x4[0]? = some (.int .i64 m4) ∧
  Hz [(b1, (Lib.pow10Tab.map fun z => Value.int .u64 z).toArray), (b2, #[.iface t2 p2]), (b3, #[.iface t3 p3]), (b4, x4)] ∈ H.sn
theorem VOK.of {J : A0} (h : VOK P H) (e : J.sn = H.sn) : VOK P J := by
 obtain ⟨b1, b2, b3, b4, t2, t3, p2, p3, x4, m4, h1, h2, h3, h5, h6, h4⟩ := h; exact ⟨b1, b2, b3, b4, t2, t3, p2, p3, x4, m4, h1, h2, h3, h5, h6, by rw [e]; exact h4⟩
theorem VOK.ext {J : A0} (h : VOK P H) (e : Ext H J) : VOK P J := h.of e.sn
theorem Lc {ρ : Go.Shelf.Ren} {f : FuncId} (Ly : LaysM.n171 P ρ) (hf : ρ.f 171 = f) (hb : Bq P f = true) (hV : VOK P H) (n : Int) (h0 : -9223372036854775808 ≤ n) (h1 : n ≤ 9223372036854775807) (hK : K (.ret (.v (str (Lib.itoa n)))) H) : A2 P f [.v (.int .i64 n)] H K := by
 refine ⟨hb, fun w g vs s rl => ?_⟩; obtain ⟨x, rfl, hx⟩ := args1 rl; rw [hx.v_eq, ← hf]; obtain ⟨b1, b2, b3, b4, t2, t3, p2, p3, x4, m4, q1, q2, q3, q5, q6, q4⟩ := hV; obtain ⟨el, fz, hc⟩ := CX s q4 (i := 0) rfl; refine (Any.strconv_Itoa Ly n h0 h1 w (Mm q1 hc)).mono ?_
 rintro e w' ⟨rfl, k, os, rfl⟩
 have hB : Below w.heap.size w (Go.Sort.grow (w.drewN k) os) := by
  refine ⟨rfl, rfl, rfl, ?_, fun i hi => ?_⟩
  ·show w.heap.size ≤ (w.heap ++ os).size; simp
  ·show (w.heap ++ os)[i]? = w.heap[i]?; rw [Array.getElem?_append_left hi]
 exact ⟨_, g, H, .AR hB, s.AR hB, .ret _ _ (.v _), hK⟩
def C9 (s : List UInt8) : Int × Bool := match Lib.atoiAll s with | .ok v => (v, false) | .range => (Lib.atoiSat s, true) | _ => (0, true)
theorem Ld {ρ : Go.Shelf.Ren} {f : FuncId} {te : TypeId} (Ly : LaysC.n172 P ρ) (hf : ρ.f 172 = f) (ht : ρ.t 168 = te) (hb : Bq P f = true) (hV : VOK P H) (s : List UInt8) (hs : s.length ≤ 281474976710656) (hK : K (.ret (.tu [.v (.int .i64 (C9 s).1), FH te (C9 s).2])) H) : A2 P f [.v (str s)] H K := by
 refine ⟨hb, fun w g vs sm rl => ?_⟩; obtain ⟨x, rfl, hx⟩ := args1 rl; rw [hx.v_eq, ← hf]; obtain ⟨b1, b2, b3, b4, t2, t3, p2, p3, x4, m4, q1, q2, q3, q5, q6, q4⟩ := hV; obtain ⟨el2, fz2, hc2⟩ := CX sm q4 (i := 1) rfl; obtain ⟨el3, fz3, hc3⟩ := CX sm q4 (i := 2) rfl; have v2 := Mm q2 hc2; have v3 := Mm q3 hc3; have two : ∀ (n : Int) (y : Value) (b : Bool), R w g y (FH te b) → ∀ (w' : World), Below w.heap.size w w' → R w' g (.tuple #[.int .i64 n, y]) (.tu [.v (.int .i64 n), FH te b]) := fun n y b hy w' hB => by
  refine .tu _ _ rfl fun j x c h1 h2 => ?_
  match j, h1, h2 with
  | 0, h1, h2 => simp at h1 h2; subst h1; subst h2; exact .v _
  | 1, h1, h2 => simp at h1 h2; subst h1; subst h2; exact hy.mono (.AR hB)
  | j + 2, h1, h2 => simp at h1
 cases h : Lib.atoiAll s with
 | ok v =>
  have e : C9 s = (v, false) := by simp only [C9, h]
  rw [e] at hK; refine (Any.strconv_Atoi_ok Ly ⟨s.toArray⟩ (by show s.toArray.size ≤ _; simp; omega) v (by simpa using h) w).mono ?_
  rintro e w' ⟨rfl, hw⟩
  have hB : Below w.heap.size w w' := by
   rcases hw with rfl | ⟨t, rfl⟩
   ·exact Below.refl _ _
   ·exact Lib.bytesWorld_below _ _ _
  exact ⟨_, g, H, .AR hB, sm.AR hB, .ret _ _ (two v .nilIface false (.v _) _ hB), hK⟩
 | range =>
  have e : C9 s = (Lib.atoiSat s, true) := by simp only [C9, h]
  rw [e] at hK; refine (Any.strconv_Atoi_range_var Ly ⟨s.toArray⟩ (by show s.toArray.size ≤ _; simpa using hs) (by simpa using h) t3 p3 w v3).mono ?_
  rintro e w' ⟨N, rfl, _, _, hB⟩
  rw [ht]; have e2 : (⟨s.toArray⟩ : ByteArray).data.toList = s := by simp
  rw [e2]; exact ⟨_, g, H, .AR hB, sm.AR hB, .ret _ _ (two _ _ true (.ifc _ _ _ (.any _)) _ hB), hK⟩
 | _ =>
  have e : C9 s = (0, true) := by simp only [C9, h]
  rw [e] at hK; refine (Any.strconv_Atoi_syntax_var Ly ⟨s.toArray⟩ (by show s.toArray.size ≤ _; simpa using hs) (by simpa using h) t2 p2 w v2).mono ?_
  rintro e w' ⟨N, rfl, _, _, hB⟩
  rw [ht]; exact ⟨_, g, H, .AR hB, sm.AR hB, .ret _ _ (two 0 _ true (.ifc _ _ _ (.any _)) _ hB), hK⟩
theorem Mn {w : World} {g : Gs} {vs : Array Value} {i j : IV} (rl : RL w g vs [i, j]) : ∃ x y, vs = #[x, y] ∧ R w g x i ∧ R w g y j := by
 obtain ⟨h1, h2⟩ := rl; have hs : vs.size = 2 := h1; refine ⟨vs[0], vs[1], ?_, h2 0 _ i (Array.getElem?_eq_getElem (by omega)) rfl, h2 1 _ j (Array.getElem?_eq_getElem (by omega)) rfl⟩; apply Array.ext
 ·simpa using hs
 ·intro q hq hq'; have : q = 0 ∨ q = 1 := by omega
  rcases this with rfl | rfl <;> rfl
theorem Mo {ρ : Go.Shelf.Ren} {f : FuncId} (Ly : Lays.n145 P ρ) (hf : ρ.f 145 = f) (hg : P.globalNamed "internal/bytealg.MaxLen" = some (ρ.g 1)) (hb : Bq P f = true) (hV : VOK P H) (s t : List UInt8) (hs : s.length < 4294967281) (hK : K (.ret (.tu [.v (str (Lib.cut s t).1), .v (str (Lib.cut s t).2.1), .v (.bool (Lib.cut s t).2.2)])) H) : A2 P f [.v (str s), .v (str t)] H K := by
 refine ⟨hb, fun w g vs sm rl => ?_⟩; obtain ⟨x, y, rfl, hx, hy⟩ := Mn rl; rw [hx.v_eq, hy.v_eq, ← hf]; obtain ⟨b1, b2, b3, b4, t2, t3, p2, p3, x4, m4, q1, q2, q3, q5, q6, q4⟩ := hV; obtain ⟨el4, fz4, hc4⟩ := CX sm q4 (i := 3) rfl; have e4 : b4 = ρ.g 1 := by rw [hg] at q5; exact (Option.some.inj q5).symm
 subst e4; have hm : w.cell? ⟨ρ.g 1, 0, none⟩ = some (.int .i64 m4) := by simp only [World.cell?, hc4]; exact q6
 refine (Any.strings_Cut Ly ⟨s.toArray⟩ ⟨t.toArray⟩ m4 w (by show s.toArray.size < _; simpa using hs) hm).mono ?_
 rintro e w' ⟨rfl, n, rfl⟩
 have hB : Below w.heap.size w (w.drewN n) := ⟨rfl, rfl, rfl, Nat.le_refl _, fun _ _ => rfl⟩; refine ⟨_, g, H, .AR hB, sm.AR hB, .ret _ _ (.tu _ _ rfl fun j x c h1 h2 => ?_), hK⟩
 match j, h1, h2 with
 | 0, h1, h2 => simp at h1 h2; subst h1; subst h2; exact .v _
 | 1, h1, h2 => simp at h1 h2; subst h1; subst h2; exact .v _
 | 2, h1, h2 => simp at h1 h2; subst h1; subst h2; exact .v _
 | j + 3, h1, h2 => simp at h1
end Go.Idl
namespace Go.Idl
open Go Go.Lib
def Ca : List UInt8 → UInt8 → Option (List UInt8 × List UInt8)
  | [], _ => none
  | b :: s, x => if b = x then some ([], s) else (Ca s x).map fun p => (b :: p.1, p.2)
theorem Ce {x : UInt8} : ∀ {s a b : List UInt8}, Ca s x = some (a, b) ↔ s = a ++ x :: b ∧ x ∉ a
  | [], a, b => by simp [Ca]
  | c :: s, a, b => by
    unfold Ca
    by_cases h : c = x
    · subst h
      rw [if_pos rfl]
      constructor
      · rintro h; cases h; simp
      · rintro ⟨h1, h2⟩
        cases a with
        | nil => simp at h1; simp [h1]
        | cons d a => simp at h1; exact absurd (by simp [h1.1]) h2
    · rw [if_neg h]
      constructor
      · intro h'
        obtain ⟨⟨a', b'⟩, h1, h2⟩ := Option.map_eq_some_iff.1 h'
        cases h2
        obtain ⟨h3, h4⟩ := Ce.1 h1
        exact ⟨by simp [h3], by simp [h4, Ne.symm h]⟩
      · rintro ⟨h1, h2⟩
        cases a with
        | nil => simp at h1; exact absurd h1.1 h
        | cons d a =>
          simp at h1 h2
          rw [Ce.2 ⟨h1.2, h2.2⟩, h1.1]
          rfl
theorem NY {x : UInt8} : ∀ {s : List UInt8}, Ca s x = none ↔ x ∉ s
  | [] => by simp [Ca]
  | c :: s => by
    unfold Ca
    by_cases h : c = x
    · subst h; simp
    · rw [if_neg h]
      simp [NY (s := s), Ne.symm h]
theorem Ga {x : UInt8} {s a b : List UInt8} (h : Ca s x = some (a, b)) : a.length + b.length + 1 = s.length := by
 rw [(Ce.1 h).1]; simp; omega
theorem index_one (x : UInt8) : ∀ s : List UInt8, index s [x] = match Ca s x with | some p => (p.1.length : Int) | none => -1
  | [] => by simp [index, Ca]
  | b :: s => by
    have ih := index_one x s
    unfold index Ca
    by_cases h : b = x
    · subst h
      simp [List.isPrefixOf]
    · rw [if_neg h]
      have : ¬ x = b := fun e => h e.symm
      simp only [List.isPrefixOf, Bool.and_true, beq_iff_eq, if_neg this, ih]
      cases hc : Ca s x with
      | none => simp
      | some p =>
        have : ¬ ((p.1.length : Int) == -1) = true := by simp
        simp [this]
theorem QS (s : List UInt8) (x : UInt8) : Lib.cut s [x] = match Ca s x with | some p => (p.1, p.2, true) | none => (s, [], false) := by
 unfold Lib.cut; rw [index_one]; cases h : Ca s x with
 | none => simp
 | some p =>
  obtain ⟨a, b⟩ := p; obtain ⟨h1, _⟩ := Ce.1 h; simp only; rw [if_pos (by omega)]; subst h1; simp
theorem Fm {c : UInt8} {d : Nat} : digitVal c = some d ↔ 48 ≤ c.toNat ∧ c.toNat ≤ 57 ∧ d = c.toNat - 48 := by
 unfold digitVal; split
 ·rename_i h; simp; constructor
  ·rintro rfl; exact ⟨h.1, h.2, rfl⟩
  ·rintro ⟨_, _, rfl⟩; rfl
 ·rename_i h; simp; omega
theorem EB : ∀ (l : List UInt8) (acc : Nat) (c : UInt8), decFrom acc (l ++ [c]) = (decFrom acc l).bind fun n => (digitVal c).map fun d => n * 10 + d
  | [], acc, c => by
    simp only [List.nil_append, decFrom]
    cases digitVal c <;> simp
  | b :: l, acc, c => by
    simp only [List.cons_append, decFrom]
    cases digitVal b with
    | none => simp
    | some d => simp [EB l]
theorem Mp {d : Nat} (h : d < 10) : digitVal (UInt8.ofNat (48 + d)) = some d := by
 have e : (UInt8.ofNat (48 + d)).toNat = 48 + d := by simp [UInt8.toNat_ofNat']; omega
 exact Fm.2 ⟨by omega, by omega, by omega⟩
theorem EC (n : Nat) : decFrom 0 (decDigits n) = some n := by
 induction n using Nat.strongRecOn with
 | _ n ih =>
  unfold decDigits; split
  ·rename_i h; have := EB [] 0 (UInt8.ofNat (48 + n)); simp only [List.nil_append] at this; rw [this, Mp h]; simp [decFrom]
  ·rename_i h; rw [EB, ih (n / 10) (by omega), Mp (Nat.mod_lt _ (by omega))]; simp; omega
theorem P4 (n : Nat) : decDigits n ≠ [] := by
 unfold decDigits; split <;> simp
theorem Mq (n : Nat) : decNat (decDigits n) = some n := by
 unfold decNat; rw [if_neg (by simp [P4]), EC]
theorem Na {n m : Nat} (h : decDigits n = decDigits m) : n = m := by
 have h1 := EC n; rw [h, EC] at h1; exact (Option.some.inj h1).symm
theorem Jz (n : Nat) : ∀ c, c ∈ decDigits n → 48 ≤ c.toNat ∧ c.toNat ≤ 57 := by
 induction n using Nat.strongRecOn with
 | _ n ih =>
  have one : ∀ d, d < 10 → 48 ≤ (UInt8.ofNat (48 + d)).toNat ∧ (UInt8.ofNat (48 + d)).toNat ≤ 57 := fun d hd => by
   obtain ⟨h1, h2, _⟩ := Fm.1 (Mp hd); exact ⟨h1, h2⟩
  intro c hc; unfold decDigits at hc; split at hc
  ·rename_i h; rw [List.mem_singleton.1 hc]; exact one n h
  ·rename_i h; rcases List.mem_append.1 hc with hc | hc
   ·exact ih (n / 10) (by omega) c hc
   ·rw [List.mem_singleton.1 hc]; exact one _ (Nat.mod_lt _ (by omega))
theorem Mr (n k : Nat) (h : n < 10 ^ (k + 1)) : (decDigits n).length ≤ k + 1 := by
 induction k generalizing n with
 | zero => rw [decDigits, dif_pos (by simpa using h)]; simp
 | succ k ih =>
  rw [decDigits]; split
  ·simp
  ·have := ih (n / 10) (by rw [Nat.pow_succ] at h; omega); simp; omega
theorem Le (n : Nat) (h : n < 1000000000000000000) : C9 (decDigits n) = ((n : Int), false) := by
 have hl : (decDigits n).length ≤ 18 := Mr n 17 (by simpa using h); have ha : atoi (decDigits n) = some (n : Int) := by
  have h1 := Mq n; have h2 := Jz n; cases hd : decDigits n with
  | nil => exact absurd hd (P4 n)
  | cons b r =>
   rw [hd] at h1 h2; have hb := h2 b (by simp); have q1 : (b == 45) = false := by simp; rintro rfl; simp at hb
   have q2 : (b == 43) = false := by simp; rintro rfl; simp at hb
   unfold atoi; simp only [q1, q2, Bool.false_eq_true, if_false, h1]; rfl
 unfold C9; rw [atoiAll_short _ hl, ha]; rfl
noncomputable def Tg (s : List UInt8) (m : Nat) : Option Nat := by
  classical exact if h : ∃ n, 1 ≤ n ∧ n ≤ m ∧ decDigits n = s then some h.choose else none
theorem JA {s : List UInt8} {m n : Nat} : Tg s m = some n ↔ 1 ≤ n ∧ n ≤ m ∧ decDigits n = s := by
 unfold Tg; split
 ·rename_i h; have hc := h.choose_spec; constructor
  ·intro e; rw [← Option.some.inj e]; exact hc
  ·rintro ⟨_, _, h3⟩
   rw [Na (hc.2.2.trans h3.symm)]
 ·rename_i h; constructor
  ·intro e; cases e
  ·intro e; exact absurd ⟨n, e⟩ h
end Go.Idl
namespace Go.Idl
open Go Go.Lib
abbrev Str := List UInt8
def Bg : Str → Option (Str × Str)
  | a :: b :: s => if a = 13 ∧ b = 10 then some ([], s) else (Bg (b :: s)).map fun p => (a :: p.1, p.2)
  | _ => none
theorem GP : ∀ {s a b : Str}, Bg s = some (a, b) → s = a ++ 13 :: 10 :: b
  | [], a, b, h => by simp [Bg] at h
  | [_], a, b, h => by simp [Bg] at h
  | x :: y :: s, a, b, h => by
    rw [Bg] at h
    split at h
    · rename_i hc; cases h; rw [hc.1, hc.2]; rfl
    · obtain ⟨p, h1, h2⟩ := Option.map_eq_some_iff.1 h
      cases h2
      rw [GP (a := p.1) (b := p.2) h1]
      rfl
theorem Bv {s a b : Str} (h : Bg s = some (a, b)) : a.length + b.length + 2 = s.length := by
 rw [GP h]; simp; omega
theorem GQ : ∀ (a s : Str), (∀ x ∈ a, x ≠ 13) → Bg (a ++ 13 :: 10 :: s) = some (a, s)
  | [], s, _ => by simp [Bg]
  | x :: a, s, h => by
    have ih := GQ a s fun y hy => h y (by simp [hy])
    have hx := h x (by simp)
    rw [List.cons_append]
    cases ha : a ++ 13 :: 10 :: s with
    | nil => simp at ha
    | cons y t =>
      rw [Bg, if_neg (fun q => hx q.1), ← ha, ih]
      rfl
def Bu (x : UInt8) : Bool := x == 32 || x == 9
def trimS (s : Str) : Str := ((s.dropWhile Bu).reverse.dropWhile Bu).reverse
def Bz (s : Str) : Bool := decide (s.length ≤ 200) && s.all (fun x => decide (32 ≤ x.toNat ∧ x.toNat ≤ 126)) && decide (s.head? ≠ some 32) && decide (s.getLast? ≠ some 32)
theorem BV {p : UInt8 → Bool} : ∀ (a b : Str), (∀ x ∈ a, p x = true) → (a ++ b).dropWhile p = b.dropWhile p
  | [], b, _ => rfl
  | x :: a, b, h => by rw [List.cons_append, List.dropWhile_cons, if_pos (h x (by simp)), BV a b fun y hy => h y (by simp [hy])]
theorem D6 {p : UInt8 → Bool} {s : Str} (h : ∀ x, s.head? = some x → p x = false) : s.dropWhile p = s := by
 cases s with
 | nil => rfl
 | cons x s => rw [List.dropWhile_cons, if_neg (by rw [h x rfl]; simp)]
theorem IA (a b s : Str) (ha : ∀ x ∈ a, Bu x = true) (hb : ∀ x ∈ b, Bu x = true) (h1 : ∀ x, s.head? = some x → Bu x = false) (h2 : ∀ x, s.getLast? = some x → Bu x = false) : trimS (a ++ s ++ b) = s := by
 unfold trimS; rw [List.append_assoc, BV a _ ha]; cases hs : s with
 | nil =>
  have : (([] : Str) ++ b).dropWhile Bu = [] := by have := BV b [] hb; simpa using this
  rw [this]; rfl
 | cons x t =>
  rw [← hs, D6 (s := s ++ b) (fun y hy => h1 y (by rw [hs] at hy ⊢; simpa using hy)), List.reverse_append, BV _ _ (fun y hy => hb y (by simpa using hy)), D6 (fun y hy => h2 y (by simpa using hy)), List.reverse_reverse]
theorem Lf {s : Str} (h : Bz s = true) : (∀ x, s.head? = some x → Bu x = false) ∧ ∀ x, s.getLast? = some x → Bu x = false := by
 simp only [Bz, Bool.and_eq_true, decide_eq_true_eq, List.all_eq_true] at h; obtain ⟨⟨⟨_, h1⟩, h2⟩, h3⟩ := h; have key : ∀ x : UInt8, x ∈ s → x ≠ 32 → Bu x = false := fun x hx h => by
  have := h1 x hx; simp only [Bu, Bool.or_eq_false_iff, beq_eq_false_iff_ne]; exact ⟨h, fun e => by subst e; simp at this⟩
 exact ⟨fun x hx => key x (List.mem_of_mem_head? hx) (fun e => h2 (by rw [hx, e])), fun x hx => key x (List.mem_of_mem_getLast? hx) (fun e => h3 (by rw [hx, e]))⟩
def Dh (x : UInt8) : Bool := decide ((97 ≤ x.toNat ∧ x.toNat ≤ 122) ∨ (65 ≤ x.toNat ∧ x.toNat ≤ 90))
def Cz (x : UInt8) : Bool := Dh x || decide ((48 ≤ x.toNat ∧ x.toNat ≤ 57) ∨ x.toNat = 45)
def BK (s : Str) : Bool := decide (1 ≤ s.length ∧ s.length ≤ 64) && (match s with | [] => false | c :: _ => Dh c) && s.all Cz
def Cf (x : UInt8) : UInt8 := if 65 ≤ x.toNat ∧ x.toNat ≤ 90 then UInt8.ofNat (x.toNat + 32) else x
abbrev Cn (s : Str) : Str := s.map Cf
abbrev Hd := Str × Str
def CD : Str := [99, 111, 110, 116, 101, 110, 116, 45, 108, 101, 110, 103, 116, 104]
def ED : Str := [116, 114, 97, 110, 115, 102, 101, 114, 45, 101, 110, 99, 111, 100, 105, 110, 103]
def Fo (s : Str) : Option Hd :=
  (Ca s 58).bind fun p => if (BK p.1 && Bz (trimS p.2)) = true then some (Cn p.1, trimS p.2) else none
def EE (acc : List Hd) (s : Str) : Option Hd := (Fo s).bind fun h => if (acc.any fun y => decide (y.1 = h.1)) = true then none else some h
def CM (acc : List Hd) (s : Str) : Option (List Hd × Str) :=
  match h : Bg s with
  | none => none
  | some p => if p.1 = [] then some (acc, p.2) else match EE acc p.1 with | none => none | some x => CM (acc ++ [x]) p.2
termination_by s.length
decreasing_by have := Bv (a := p.1) (b := p.2) h; omega
theorem CN (acc : List Hd) (s : Str) : CM acc s = (Bg s).bind fun p => if p.1 = [] then some (acc, p.2) else (EE acc p.1).bind fun x => CM (acc ++ [x]) p.2 := by
 rw [CM]; split
 ·rename_i h; rw [h]; rfl
 ·rename_i p h; rw [h, Option.bind_some]; split
  ·rfl
  ·cases EE acc p.1 <;> rfl
def Ee (x : UInt8) : Option Nat := if 48 ≤ x.toNat ∧ x.toNat ≤ 57 then some (x.toNat - 48) else if 97 ≤ x.toNat ∧ x.toNat ≤ 102 then some (x.toNat - 87) else if 65 ≤ x.toNat ∧ x.toNat ≤ 70 then some (x.toNat - 55) else none
def Jf : Nat → Str → Option Nat
  | n, [] => some n
  | n, x :: s => (Ee x).bind fun d => Jf (16 * n + d) s
def FI (s : Str) : Option Nat := if 1 ≤ s.length ∧ s.length ≤ 5 then Jf 0 s else none
def CA (acc : Str) (s : Str) : Option (Str × Str) :=
  match h : Bg s with
  | none => none
  | some p => match FI p.1 with
    | none => none
    | some n => if n = 0 then (if p.1 = [48] then (Bg p.2).bind fun q => if q.1 = [] then some (acc, q.2) else none else none)
      else if n ≤ p.2.length then (match h2 : Bg (p.2.drop n) with | none => none | some q => if q.1 = [] then CA (acc ++ p.2.take n) q.2 else none) else none
termination_by s.length
decreasing_by
  have h3 := Bv (a := p.1) (b := p.2) h
  have h4 := Bv (a := q.1) (b := q.2) h2
  rw [List.length_drop] at h4
  omega
theorem FJ (acc s : Str) : CA acc s = (Bg s).bind fun p => (FI p.1).bind fun n => if n = 0 then (if p.1 = [48] then (Bg p.2).bind fun q => if q.1 = [] then some (acc, q.2) else none else none)
      else if n ≤ p.2.length then ((Bg (p.2.drop n)).bind fun q => if q.1 = [] then CA (acc ++ p.2.take n) q.2 else none) else none := by
 rw [CA]; split
 ·rename_i h; rw [h]; rfl
 ·rename_i p h; rw [h, Option.bind_some]; cases FI p.1 with
  | none => rfl
  | some n =>
   simp only [Option.bind_some]; split
   ·rfl
   ·split
    ·split
     ·rename_i h2; rw [h2]; rfl
     ·rename_i q h2; rw [h2]; rfl
    ·rfl
def Fe (l : List Hd) (n : Str) : Option Str := (l.find? fun h => decide (h.1 = n)).map (·.2)
noncomputable def IB (s : Str) : Option Nat := if s = [48] then some 0 else Tg s 1000000000
def P5 : Str := [99, 104, 117, 110, 107, 101, 100]
noncomputable def DH (l : List Hd) (s : Str) : Option (Str × Str) :=
  match Fe l CD, Fe l ED with
  | some _, some _ => none
  | none, some c => if Cn c = P5 then CA [] s else none
  | none, none => some ([], s)
  | some n, none => (IB n).bind fun k => if k ≤ s.length then some (s.take k, s.drop k) else none
end Go.Idl
namespace Go.Idl
open Go Go.Lib
def lt8 (a b : Str) : Prop := Op.bytesLess a b = true
instance (a b : Str) : Decidable (lt8 a b) := inferInstanceAs (Decidable (Op.bytesLess a b = true))
theorem Gb (a b : Str) : lt8 a b ↔ a < b := by rw [lt8, Go.Proofs.bytesLess_eq, decide_eq_true_eq]
theorem CO (a : Str) : ¬ lt8 a a := by rw [Gb]; exact List.lt_irrefl a
theorem E_ {a b c : Str} (h : lt8 a b) (k : lt8 b c) : lt8 a c := by rw [Gb] at *; exact List.lt_trans h k
theorem Nb {a b : Str} (h : ¬ lt8 a b) (hne : ¬ a = b) : lt8 b a := by
 rw [Gb] at *; have h1 : b ≤ a := List.not_lt.1 h; rcases List.le_iff_lt_or_eq.1 h1 with h2 | h2
 ·exact h2
 ·exact absurd h2.symm hne
abbrev BW (l : List Hd) : Prop := l.Pairwise fun a b => lt8 a.1 b.1
def Ff : List Hd → Hd → List Hd
  | [], h => [h]
  | x :: l, h => if lt8 x.1 h.1 then x :: Ff l h else h :: x :: l
def BZ (l : List Hd) : List Hd := l.foldl Ff []
theorem IC (l : List Hd) (h x : Hd) : x ∈ Ff l h ↔ x ∈ l ∨ x = h := by
 induction l with
 | nil => simp [Ff]
 | cons y l ih =>
  simp only [Ff]; split
  ·simp [ih, or_assoc]
  ·simp only [List.mem_cons]; exact or_comm
theorem JB {l : List Hd} {h : Hd} (hl : BW l) (hn : ∀ x ∈ l, x.1 ≠ h.1) : BW (Ff l h) := by
 induction l with
 | nil => simp [Ff, BW]
 | cons y l ih =>
  rw [BW, List.pairwise_cons] at hl; simp only [Ff]; split
  ·rename_i hy; rw [BW, List.pairwise_cons]; refine ⟨fun z hz => ?_, ih hl.2 fun x hx => hn x (by simp [hx])⟩; rcases (IC l h z).1 hz with hz | rfl
   ·exact hl.1 z hz
   ·exact hy
  ·rename_i hy; have := Nb hy (hn y (by simp)); rw [BW, List.pairwise_cons, List.pairwise_cons]; refine ⟨fun z hz => ?_, hl⟩; rcases List.mem_cons.1 hz with rfl | hz
   ·exact this
   ·exact E_ this (hl.1 z hz)
theorem JC : ∀ (l acc : List Hd) (x : Hd), x ∈ l.foldl Ff acc ↔ x ∈ acc ∨ x ∈ l
  | [], acc, x => by simp
  | h :: l, acc, x => by rw [List.foldl_cons, JC l, IC, List.mem_cons, or_assoc]
theorem ID : ∀ (l acc : List Hd), BW acc → (acc ++ l).Pairwise (fun a b => a.1 ≠ b.1) → BW (l.foldl Ff acc)
  | [], acc, h, _ => h
  | h :: l, acc, ha, hn => by
    rw [List.foldl_cons]
    have h1 := List.pairwise_append.1 hn
    refine ID l _ (JB ha fun x hx => h1.2.2 x hx h (by simp)) ?_
    rw [List.pairwise_append]
    have h2 := List.pairwise_cons.1 h1.2.1
    refine ⟨?_, h2.2, fun a ha' b hb => ?_⟩
    · have := JB ha fun x hx => h1.2.2 x hx h (by simp)
      exact List.Pairwise.imp (fun {a b} (q : lt8 a.1 b.1) (e : a.1 = b.1) => CO _ (e ▸ q)) this
    · rcases (IC acc h a).1 ha' with ha' | rfl
      · exact h1.2.2 a ha' b (by simp [hb])
      · exact h2.1 b hb
abbrev BX (l : List Hd) : Prop := l.Pairwise fun a b => a.1 ≠ b.1
theorem F0 (l : List Hd) (x : Hd) : x ∈ BZ l ↔ x ∈ l := by rw [BZ, JC]; simp
theorem IE {l : List Hd} (h : BX l) : BW (BZ l) := ID l [] List.Pairwise.nil (by simpa using h)
theorem IF : ∀ {l m : List Hd}, BW l → BW m → (∀ x, x ∈ l ↔ x ∈ m) → l = m
  | [], [], _, _, _ => rfl
  | [], y :: m, _, _, h => by have := (h y).2 (by simp); simp at this
  | x :: l, [], _, _, h => by have := (h x).1 (by simp); simp at this
  | x :: l, y :: m, hl, hm, h => by
    rw [BW, List.pairwise_cons] at hl hm
    have hxy : x = y := by
      have h1 := (h x).1 (by simp)
      have h2 := (h y).2 (by simp)
      rcases List.mem_cons.1 h1 with h1 | h1
      · exact h1
      · rcases List.mem_cons.1 h2 with h2 | h2
        · exact h2.symm
        · exact absurd (E_ (hm.1 x h1) (hl.1 y h2)) (CO y.1)
    subst hxy
    rw [IF hl.2 hm.2 fun z => ?_]
    constructor
    · intro hz
      have := (h z).1 (by simp [hz])
      rcases List.mem_cons.1 this with e | e
      · exact absurd (e ▸ hl.1 z hz) (CO _)
      · exact e
    · intro hz
      have := (h z).2 (by simp [hz])
      rcases List.mem_cons.1 this with e | e
      · exact absurd (e ▸ hm.1 z hz) (CO _)
      · exact e
theorem Ms {l : List Hd} (h : BW l) : BX l := List.Pairwise.imp (fun {a b} (q : lt8 a.1 b.1) (e : a.1 = b.1) => CO _ (e ▸ q)) h
theorem IG {l m : List Hd} (hm : BW m) (h : BX l) (hx : ∀ x, x ∈ l ↔ x ∈ m) : BZ l = m :=
  IF (IE h) hm fun x => (F0 l x).trans (hx x)
theorem P6 (x : UInt8) : Cf (Cf x) = Cf x := by
 unfold Cf; split
 ·rename_i h; have : (UInt8.ofNat (x.toNat + 32)).toNat = x.toNat + 32 := by simp [UInt8.toNat_ofNat']; omega
  rw [if_neg (by rw [this]; omega)]
 ·rfl
theorem Lg (s : Str) : Cn (Cn s) = Cn s := by simp [Cn, Function.comp_def, P6]
theorem Lh (x : UInt8) : Dh (Cf x) = Dh x := by
 unfold Cf; split
 ·rename_i h; have : (UInt8.ofNat (x.toNat + 32)).toNat = x.toNat + 32 := by simp [UInt8.toNat_ofNat']; omega
  unfold Dh; rw [this, decide_eq_decide]; omega
 ·rfl
theorem P7 (x : UInt8) : Cz (Cf x) = Cz x := by
 unfold Cz; rw [Lh]; unfold Cf; split
 ·rename_i h; have e : (UInt8.ofNat (x.toNat + 32)).toNat = x.toNat + 32 := by simp [UInt8.toNat_ofNat']; omega
  have : Dh x = true := by simp only [Dh, decide_eq_true_eq]; exact .inr h
  rw [this]; rfl
 ·rfl
theorem F1 (s : Str) : BK (Cn s) = BK s := by
 unfold BK Cn; rw [List.length_map, List.all_map]; have : (Cz ∘ Cf) = Cz := by funext x; exact P7 x
 rw [this]; cases s with
 | nil => rfl
 | cons c t => simp [Lh]
theorem JD {s : Str} (h : BK s = true) : s ≠ [] ∧ ∀ x ∈ s, Cz x = true := by
 simp only [BK, Bool.and_eq_true, decide_eq_true_eq, List.all_eq_true] at h; exact ⟨fun e => by rw [e] at h; simp at h, h.2⟩
theorem Nc {x : UInt8} (h : Cz x = true) : x ≠ 58 ∧ x ≠ 13 := by
 constructor <;> rintro rfl <;> revert h <;> decide
theorem II {n v a b : Str} (hn : BK n = true) (hv : Bz v = true) (ha : ∀ x ∈ a, Bu x = true) (hb : ∀ x ∈ b, Bu x = true) : Fo (n ++ 58 :: (a ++ v ++ b)) = some (Cn n, v) := by
 unfold Fo; have h1 := JD hn; rw [Ce.2 ⟨rfl, fun hx => (Nc (h1.2 _ hx)).1 rfl⟩, Option.bind_some]; obtain ⟨e1, e2⟩ := Lf hv; simp only [IA a b v ha hb e1 e2]; rw [if_pos (by rw [hn, hv]; rfl)]
theorem JE {n v a b : Str} (hn : BK n = true) (hv : Bz v = true) (ha : ∀ x ∈ a, Bu x = true) (hb : ∀ x ∈ b, Bu x = true) : ∀ x ∈ n ++ 58 :: (a ++ v ++ b), x ≠ 13 := by
 have hk : ∀ x : UInt8, Bu x = true → x ≠ 13 := by
  intro x h e; subst e; revert h; decide
 intro x hx; simp only [List.mem_append, List.mem_cons] at hx; rcases hx with hx | rfl | (hx | hx) | hx
 ·exact (Nc ((JD hn).2 x hx)).2
 ·decide
 ·exact hk x (ha x hx)
 ·simp only [Bz, Bool.and_eq_true, decide_eq_true_eq, List.all_eq_true] at hv; have := hv.1.1.2 x hx
  rintro rfl; simp at this
 ·exact hk x (hb x hx)
theorem Gc : ∀ (L : List (Str × Hd)) (acc : List Hd) (s : Str), (∀ y ∈ L, y.1 ≠ [] ∧ (∀ x ∈ y.1, x ≠ 13) ∧ Fo y.1 = some y.2) → BX (acc ++ L.map (·.2)) →
    CM acc (L.flatMap (fun y => y.1 ++ [13, 10]) ++ 13 :: 10 :: s) = some (acc ++ L.map (·.2), s)
  | [], acc, s, _, _ => by
    rw [CN]
    simp [Bg]
  | y :: L, acc, s, h, hd => by
    obtain ⟨h1, h2, h3⟩ := h y (by simp)
    rw [CN, List.flatMap_cons, List.append_assoc, List.append_assoc]
    rw [show ([13, 10] : Str) ++ (L.flatMap (fun y => y.1 ++ [13, 10]) ++ 13 :: 10 :: s) = 13 :: 10 :: (L.flatMap (fun y => y.1 ++ [13, 10]) ++ 13 :: 10 :: s) from rfl, GQ _ _ h2, Option.bind_some]
    simp only
    rw [if_neg h1]
    have hn : EE acc y.1 = some y.2 := by
      unfold EE
      rw [h3, Option.bind_some, if_neg]
      rw [List.map_cons] at hd
      have := (List.pairwise_append.1 hd).2.2
      simp only [List.any_eq_true, decide_eq_true_eq, not_exists, not_and]
      exact fun x hx => this x hx y.2 (by simp)
    rw [hn, Option.bind_some, Gc L (acc ++ [y.2]) s (fun z hz => h z (by simp [hz])) (by simpa using hd)]
    simp
def hdB (h : Hd) : Bool := BK h.1 && decide (Cn h.1 = h.1) && Bz h.2 && decide (h.1 ≠ CD) && decide (h.1 ≠ ED)
def Li (l : List Hd) : Bool := decide (BW l) && l.all hdB && decide (l.length ≤ 16)
def CP (l : List Hd) (b : Str) : Bool := Li l && decide (b.length ≤ 60000)
def D7 (l : List Hd) : List Hd := l.filter fun h => decide (h.1 ≠ CD) && decide (h.1 ≠ ED)
noncomputable def Fp {α : Type} (first : Str → Option α) (s : Str) : Option (α × List Hd × Str) :=
  (Bg s).bind fun p => (first p.1).bind fun x => (CM [] p.2).bind fun q => (DH q.1 q.2).bind fun r =>
    if r.2 = [] ∧ CP (BZ (D7 q.1)) r.1 = true then some (x, BZ (D7 q.1), r.1) else none
theorem EF {n : Nat} (h : n ≤ 1000000000) : IB (decDigits n) = some n := by
 unfold IB; by_cases h0 : n = 0
 ·subst h0; rw [if_pos]; rw [decDigits, dif_pos (by omega)]; rfl
 ·rw [if_neg, JA.2 ⟨by omega, h, rfl⟩]; intro e; have : decDigits n = decDigits 0 := by rw [e, decDigits, dif_pos (by omega)]; rfl
  exact h0 (Na this)
theorem JF {s : Str} {n : Nat} : IB s = some n ↔ n ≤ 1000000000 ∧ decDigits n = s := by
 constructor
 ·intro h; unfold IB at h; split at h
  ·rename_i e; cases h; refine ⟨by omega, ?_⟩; rw [e, decDigits, dif_pos (by omega)]; rfl
  ·have := JA.1 h; exact ⟨this.2.1, this.2.2⟩
 ·rintro ⟨h1, rfl⟩; exact EF h1
end Go.Idl
namespace Go.Idl
open Go Go.RowKit
variable {P : Program} {N : Nat} {tm : Tm} {H B H' : A0} {Q : Exit → Tm → A0 → Prop}
def Dy (H : A0) : List (Nat × HO) → A0
  | [] => H
  | p :: L => Dy (H.set p.1 p.2) L
theorem F2 (L : List (Nat × HO)) : ∀ H : A0, (Dy H L).next = H.next := by
 induction L with
 | nil => intro H; rfl
 | cons p L ih => intro H; exact ih _
theorem Nd (L : List (Nat × HO)) : ∀ H : A0, (Dy H L).sn = H.sn := by
 induction L with
 | nil => intro H; rfl
 | cons p L ih => intro H; exact ih _
theorem D_ (L : List (Nat × HO)) : ∀ (H : A0) (i : Nat), (∃ o, (i, o) ∈ L ∧ (Dy H L).obj i = some o) ∨ ((∀ p, p ∈ L → p.1 ≠ i) ∧ (Dy H L).obj i = H.obj i) := by
 induction L with
 | nil => intro H i; exact .inr ⟨by simp, rfl⟩
 | cons p L ih =>
  intro H i; rcases ih (H.set p.1 p.2) i with ⟨o, h1, h2⟩ | ⟨h1, h2⟩
  ·exact .inl ⟨o, List.mem_cons_of_mem _ h1, h2⟩
  ·by_cases e : i = p.1
   ·refine .inl ⟨p.2, by subst e; exact List.mem_cons_self, h2.trans ?_⟩; simp [A0.set, e]
   ·refine .inr ⟨fun q hq => ?_, h2.trans ?_⟩
    ·rcases List.mem_cons.1 hq with rfl | hq
     ·exact fun e' => e e'.symm
     ·exact h1 q hq
    ·simp [A0.set, e]
@[go_sem] theorem Wh : Dy H [] = H := rfl
@[go_sem] theorem Vt {k : Nat} {o : HO} {L : List (Nat × HO)} : Dy H ((k, o) :: L) = Dy (H.set k o) L := rfl
theorem Ext.Ao (h : Ext B H') (k : Nat) : Ext (B.del k) H' := ⟨Tf h.wf k, h.le, fun i o hi => by
  simp only [A0.del] at hi
  split at hi
  · cases hi
  · exact h.sub i o hi, h.sn⟩
def HM (H : A0) : List (Nat × HO) → A0
  | [] => H
  | p :: L => HM (H.del p.1) L
theorem CB : HM H [] = H := rfl
theorem Cg {k : Nat} {o : HO} {L : List (Nat × HO)} : HM H ((k, o) :: L) = HM (H.del k) L := rfl
theorem GR (L : List (Nat × HO)) : ∀ H : A0, (HM H L).next = H.next := by
 induction L with
 | nil => intro H; rfl
 | cons p L ih => intro H; exact ih _
theorem Lj (L : List (Nat × HO)) : ∀ (H : A0) (i : Nat), (∀ p, p ∈ L → p.1 ≠ i) → (HM H L).obj i = H.obj i := by
 induction L with
 | nil => intro H i _; rfl
 | cons p L ih =>
  intro H i h; rw [show (HM H (p :: L)).obj i = (HM (H.del p.1) L).obj i from rfl, ih _ _ fun q hq => h q (List.mem_cons_of_mem _ hq)]; have : ¬ i = p.1 := fun e => h p (by simp) e.symm; simp [A0.del, this]
theorem Cw.ioL (L : List (Nat × HO)) (he : Ext (HM H L) H') (hv : ∀ p, p ∈ L → p.1 < H.next ∧ H'.obj p.1 = some p.2 ∧ NBo H.next p.2) : Cw H H' (Dy H L) := by
 have hn := F2 L H; have hle : H.next ≤ H'.next := by have := he.le; rwa [GR] at this
 have old : ∀ i o, (∀ p, p ∈ L → p.1 ≠ i) → H.obj i = some o → (HM H L).obj i = some o := fun i o h1 h2 => by rw [Lj L H i h1]; exact h2
 refine ⟨by rw [hn]; exact Nat.le_refl _, by rw [hn]; exact hle, fun i o hi => ?_, fun i o hi => ?_, .inr fun i o hi => ?_, Nd L H⟩
 ·rcases D_ L H i with ⟨o1, h1, h2⟩ | ⟨h1, h2⟩
  ·rw [h2] at hi; cases hi; exact (hv _ h1).2.1
  ·rw [h2] at hi; exact he.sub i o (old i o h1 hi)
 ·rw [hn]; rcases D_ L H i with ⟨o1, h1, h2⟩ | ⟨h1, h2⟩
  ·exact (hv _ h1).1
  ·rw [h2] at hi; rcases Nat.lt_or_ge i H.next with q | q
   ·exact q
   ·have h3 := he.wf i (by rw [GR]; exact q); rw [old i o h1 hi] at h3; cases h3
 ·rw [hn]; rcases D_ L H i with ⟨o1, h1, h2⟩ | ⟨h1, h2⟩
  ·rw [h2] at hi; cases hi; exact .inr (hv _ h1).2.2
  ·rw [h2] at hi; exact .inl hi
theorem Th {α : Type} {f : α → IV} {m : List (List UInt8 × α)} {n : Nat} : NBo n (.map (mE f m)) ↔ ∀ p, p ∈ m → NB n (f p.2) := by
 simp only [NBo, mE, List.mem_map]; constructor
 ·intro h p hp; exact h _ ⟨p, hp, rfl⟩
 ·rintro h e ⟨p, hp, rfl⟩; exact h p hp
theorem Ti {α : Type} {j : IntKind} {f : α → IV} {m : List (Int × α)} {n : Nat} : NBo n (.map (mI j f m)) ↔ ∀ p, p ∈ m → NB n (f p.2) := by
 simp only [NBo, mI, List.mem_map]; constructor
 ·intro h p hp; exact h _ ⟨p, hp, rfl⟩
 ·rintro h e ⟨p, hp, rfl⟩; exact h p hp
theorem CQ {N : Nat} {o : Oper} {K : IV → A0 → Prop} {Qp : List PanicEntry → A0 → Prop} {ta tb e : TypeId} {d : TypeDesc} {x : Operand} (l : List UInt8) (ho : o.op = .convert ta tb x) (hok : okO N o = true) (ha : P.underlying ta = some d)
    (hb : P.underlying tb = some (.slice e)) (he : P.underlying e = some (.int .u8)) (hx : ev tm x = .v (str l)) (hs : (l.length : Int) ≤ 9223372036854775807) (hK : K (.sl 1 (l.map fun x => [.v (.int .u8 x.toNat)])) H) : Aj P N o tm H K Qp :=
  Je ho hok ha hb he hx (by rw [Ck]; simp only [D5]; omega) (by rw [Ck]; exact hK)
inductive NzL (n : Nat) : List IV → List IV → Prop
  | nil : NzL n [] []
  | same (a : IV) {l m : List IV} (t : NzL n l m) : NzL n (a :: l) (a :: m)
  | row {l m : List IV} (t : NzL n l m) : NzL n (.v (.slice none 0 0) :: l) (.os n 0 :: m)
theorem NzL.len {n : Nat} {l m : List IV} (h : NzL n l m) : m.length = l.length := by
 induction h with
 | nil => rfl
 | same _ _ ih => simp [ih]
 | row _ ih => simp [ih]
theorem NzL.get {n : Nat} {l m : List IV} (h : NzL n l m) : ∀ (j : Nat) (a b : IV), l[j]? = some a → m[j]? = some b → a = b ∨ (a = .v (.slice none 0 0) ∧ b = .os n 0) := by
 induction h with
 | nil => intro j a b h; simp at h
 | same a _ ih =>
  intro j a b h1 h2; cases j with
  | zero => simp at h1 h2; subst h1; subst h2; exact .inl rfl
  | succ j => exact ih j a b (by simpa using h1) (by simpa using h2)
 | row _ ih =>
  intro j a b h1 h2; cases j with
  | zero => simp at h1 h2; subst h1; subst h2; exact .inr ⟨rfl, rfl⟩
  | succ j => exact ih j a b (by simpa using h1) (by simpa using h2)
@[go_sem] theorem Yd {α : Type} {i n : Nat} {a b : α} (h : ¬ i = n) : (if i = n then a else b) = b := if_neg h
def NBL (n : Nat) (l : List IV) : Prop := ∀ c, c ∈ l → NB n c
theorem NBL.nil {n : Nat} : NBL n [] := fun c h => by cases h
theorem NBL.cons {n : Nat} {a : IV} {l : List IV} (h : NB n a) (t : NBL n l) : NBL n (a :: l) := fun c hc => by
  rcases List.mem_cons.1 hc with rfl | hc
  · exact h
  · exact t c hc
theorem NBL.map {n : Nat} {α : Type} {f : α → IV} {l : List α} (h : ∀ x, NB n (f x)) : NBL n (l.map f) := fun c hc => by
  obtain ⟨x, _, rfl⟩ := List.mem_map.1 hc
  exact h x
theorem NBL.app {n : Nat} {l m : List IV} (h : NBL n l) (k : NBL n m) : NBL n (l ++ m) := fun c hc => (List.mem_append.1 hc).elim (h c) (k c)
theorem Mt {n sz : Nat} {α : Type} {f : α → List IV} {l : List α} (h : ∀ x, NBL n (f x)) : NB n (.sl sz (l.map f)) := .sl _ _ fun e he c hc => by
  obtain ⟨x, _, rfl⟩ := List.mem_map.1 he
  exact h x c hc
theorem Mu {n : Nat} {l : List IV} (h : NBL n l) : NB n (.ag l) := .ag _ h
theorem BL {n : Nat} {l : List IV} (h : NBL n l) : NB n (.tu l) := .tu _ h
theorem Mv {n k : Nat} (h : k < n) : NB n (.mp k) := .mp _ h
theorem P8 {n k off : Nat} (h : k < n) : NB n (.p k off) := .p _ _ h
theorem QT {α : Type} {f : α → IV} {m : List (List UInt8 × α)} {n : Nat} (h : ∀ x, NB n (f x)) : NBo n (.map (mE f m)) := Th.2 fun p _ => h p.2
theorem QU {α : Type} {j : IntKind} {f : α → IV} {m : List (Int × α)} {n : Nat} (h : ∀ x, NB n (f x)) : NBo n (.map (mI j f m)) := Ti.2 fun p _ => h p.2
theorem Tj {cs : List IV} {n : Nat} (h : NBL n cs) : NBo n (.cells cs) := h
def noJ (Q : Exit → Tm → A0 → Prop) : Exit → Tm → A0 → Prop
  | .goto _, _, _ => False
  | .normal, tm, H => Q .normal tm H
  | .exit id, tm, H => Q (.exit id) tm H
  | .ret, tm, H => Q .ret tm H
  | .panic ch, tm, H => Q (.panic ch) tm H
  | .outgrown, tm, H => Q .outgrown tm H
@[go_sem] theorem Tk : noJ Q .normal tm H = Q .normal tm H := rfl
@[go_sem] theorem XB : noJ Q .ret tm H = Q .ret tm H := rfl
@[go_sem] theorem Wi {l : Nat} : noJ Q (.exit l) tm H = Q (.exit l) tm H := rfl
@[go_sem] theorem Vu {c : List PanicEntry} : noJ Q (.panic c) tm H = Q (.panic c) tm H := rfl
end Go.Idl
namespace Go.Idl
theorem sI {α : Type _} {a b : α} (h : some a = some b) : a = b := Option.some.inj h
theorem io1 {H H' : A0} (k : Nat) (o : HO) (he : Ext (H.del k) H') (h1 : k < H.next) (h2 : H'.obj k = some o) (h3 : NBo H.next o) : Cw H H' (Dy H [(k, o)]) := Cw.ioL [(k, o)] he (by intro p hp; simp only [List.mem_cons, List.not_mem_nil, or_false] at hp; subst hp; exact ⟨h1, h2, h3⟩)
end Go.Idl

namespace Go.Idl
open Go Go.RowKit
variable {P : Program} {N : Nat} {tm : Tm} {H : A0} {Q : Exit → Tm → A0 → Prop}
theorem IJ {o : Oper} {K : IV → A0 → Prop} {Qp : List PanicEntry → A0 → Prop} {ta tb e : TypeId} {d : TypeDesc} {x : Operand} (l : List UInt8) (ho : o.op = .convert ta tb x) (hok : okO N o = true) (ha : P.underlying ta = some d)
    (hb : P.underlying tb = some (.slice e)) (he : P.underlying e = some (.int .u8)) (hx : ev tm x = .v (str l)) (hK : K (.bs H.next 0 l.length) (H.new (.cells (l.map fun x => .v (.int .u8 x.toNat))))) : Aj P N o tm H K Qp := by
 obtain ⟨dst, op, type, pos, after, guard⟩ := o; simp only at ho; subst ho; refine AF (by simp) fun w g a sm r hN => ?_; subst hN; have rx := r.ev (x := x) (by simp [okO, Op.operands] at hok; exact hok.1); rw [hx] at rx; have hxe := rx.v_eq; obtain ⟨w', cap, xs, f, h1, h2, h3, h4, h5, h6, h7, h8, h9, h10, h11⟩ := EA (P := P) (e := e) ⟨l.toArray⟩ w; have hsz : (⟨l.toArray⟩ : ByteArray).size = l.length := by rw [BJ, Ck]
 rw [Ck] at h11; rw [hsz] at h1 h2 h11; have hn := sm.new (w' := w') (.pointer (some ⟨w.heap.size, 0, none⟩)) (.cells (l.map fun x => .v (.int .u8 x.toNat))) (Nat.le_of_lt h3) h4 h5 h6 h7
  (fun b hb => by simp only [blk, Option.some.injEq] at hb; subst hb; exact ⟨h3, Nat.le_refl _⟩)
  (fun g' m _ => ⟨w.heap.size, xs, e, f, rfl, h8, h10, by rw [List.length_map, h9]; exact h2, fun j c hj => by
    have hjl : j < l.length := by
      have := (List.getElem?_eq_some_iff.1 hj).1
      simpa using this
    refine ⟨_, h11 j hjl, rfl, ?_⟩
    simp only [List.getElem?_map, Option.map_eq_some_iff] at hj
    obtain ⟨b, hb', rfl⟩ := hj
    rw [List.getD_eq_getElem?_getD, hb']
    exact .v _⟩)
 refine ⟨.slice (some ⟨w.heap.size, 0, none⟩) l.length cap, w', _, _, _, .inl ?_, hn.2, hn.1, ?_, hK⟩
 ·simp [execOp, convert, hxe, run_underlying ha, run_underlying hb, run_underlying he, h1]
 ·refine .bs _ _ _ _ (by simp [Gs.put]) ⟨_, _, rfl, h2⟩ fun s hs _ => ?_; exact ⟨w.heap.size, cap, by simp [Gs.put], rfl⟩
theorem QV {J : A0} : ∀ {cs : List IV}, (∀ c, c ∈ cs → NB J.next c) → ∀ (j : Nat) (c c' : IV), cs[j]? = some c → cs[j]? = some c' → Fz H J c c' := fun h j c c' h1 h2 => by
  rw [h1] at h2
  cases h2
  exact .wk _ _ (fun _ _ _ h => h) (h c (List.mem_of_getElem? h1))
theorem Gh.QW {d k n : Nat} {cs : List IV} (hk : H.obj k = some (.cells cs)) (hd : tm d = .bs k 0 n) (hn : n = cs.length) (hm : n ≤ D5) : Gh tm H (upd tm d (.sl 1 (cs.map fun x => [x]))) (H.del k) := by
 intro w g s; have he := G3 H s.wf k; obtain ⟨s1, m1⟩ := he.sim s (.refl w g) s; refine ⟨_, m1, s1, fun a r i hi => ?_⟩; show R w _ _ (if i = d then _ else _); by_cases e : i = d
 ·rw [if_pos e]; subst e; have h1 := r i hi; rw [hd] at h1; have hnb := (s.obj k _ hk).nb; rw [s.nx] at hnb; have hz : Fz H (H.del k) (.bs k 0 n) (.sl 1 (chunks 1 n (cs.drop 0))) := .bs k 0 n 1 cs cs (by simp [A0.del]) hk rfl (by omega) hm (QV hnb); rw [List.drop_zero, Hx (by omega)] at hz; exact hz.sound s he.sub h1
 ·rw [if_neg e]; have h1 := r i hi; refine h1.to (he.sub.sh s) ?_; have := h1.nb
  rwa [s.nx] at this
theorem IWp.QX {c : Code} {k : Nat} {es : List (Value × IV)} (hk : H.obj k = some (.map es)) (h : ∀ (bs : List Nat) (cl : Nat), bs.length = es.length → bs.Nodup → (∀ b, b ∈ bs → b < cl) → IWp P N c Q tm (H.set k (.Dx bs cl es))) : IWp P N c Q tm H := by
 refine ⟨fun rr B D w g a s r hN hB hm => ?_⟩; obtain ⟨b, ents, clock, h1, h2, h3⟩ := s.obj k _ hk; have s' : Sim w g (H.set k (.Dx (ents.toList.map (·.born)) clock es)) := s.Ke hk rfl fun _ => ⟨b, ents, h1, h2, h3, rfl⟩; exact (h _ clock (by simp [h3.size]) h3.nodup (fun b hb => by obtain ⟨me, h4, rfl⟩ := List.mem_map.1 hb; exact h3.born me h4)).run rr B D w g a s' r hN hB hm
theorem Gh.P9 {k cl : Nat} {bs : List Nat} {es : List (Value × IV)} (hk : H.obj k = some (.Dx bs cl es)) : Gh tm H tm (H.set k (.map es)) :=
  Gh.Ke hk rfl fun w g x ⟨b, ents, h1, h2, h3, _⟩ => ⟨b, ents, cl, h1, h2, h3⟩
theorem IK {o : Oper} {K : IV → A0 → Prop} {Qp : List PanicEntry → A0 → Prop} {t kt et : TypeId} {x : Operand} {k cl : Nat} {bs : List Nat} {es : List (Value × IV)} (ho : o.op = .range t x) (hok : okO N o = true) (ht : P.underlying t = some (.map kt et))
    (hx : ev tm x = .mp k) (hk : H.obj k = some (.Dx bs cl es)) (hK : K (.p H.next 0) (H.new (.it k cl [] cl))) : Aj P N o tm H K Qp := by
 obtain ⟨dst, op, type, pos, after, guard⟩ := o; simp only at ho; subst ho; refine AF (by simp) fun w g a sm r hN => ?_; subst hN; have rx := r.ev (x := x) (by simp [okO, Op.operands] at hok; exact hok.1); rw [hx] at rx; have hxe := sm.Ij hk rfl rx; obtain ⟨b, ents, h1, h2, h3, h4⟩ := sm.obj k _ hk; have hn := sm.new (w' := w.alloc (.mapIter (some b) cl #[] cl)) (.pointer (some ⟨w.heap.size, 0, none⟩)) (.it k cl [] cl) (by simp) rfl rfl rfl (fun b hb => by rw [AV, if_neg (by omega)])
  (fun b hb => by simp only [blk, Option.some.injEq] at hb; subst hb; simp)
  (fun g' m _ => ⟨w.heap.size, b, rfl, by rw [AV, if_pos rfl], by rw [hxe, h1] at rx; exact rx.mono m⟩)
 refine ⟨.pointer (some ⟨w.heap.size, 0, none⟩), _, _, _, _, .inl ?_, hn.2, hn.1, ?_, hK⟩
 ·have := Go.run_range_map (P := P) w t kt et b ents cl ht h2; simp [execOp, hxe, h1, this]
 ·refine .p _ _ _ (by simp [Gs.put]) ⟨_, rfl⟩ fun s hs _ => ⟨w.heap.size, by simp [Gs.put], rfl⟩
theorem Jg {o : Oper} {K : IV → A0 → Prop} {Qp : List PanicEntry → A0 → Prop} {x : Operand} {ki k cl : Nat} {bs seen : List Nat} {es : List (Value × IV)} (ho : o.op = .next x false) (hok : okO N o = true)
    (hx : ev tm x = .p ki 0) (hi : H.obj ki = some (.it k cl seen cl)) (hk : H.obj k = some (.Dx bs cl es)) (hlt : ∀ b, b ∈ bs → b < cl)
    (hend : (∀ b, b ∈ bs → b ∈ seen) → K (.tu [.v (.bool false)]) H)
    (hnext : ∀ (i b : Nat) (e : Value × IV), bs[i]? = some b → es[i]? = some e → b ∉ seen → K (.tu [.v (.bool true), .v e.1, e.2]) (H.set ki (.it k cl (seen ++ [b]) cl))) : Aj P N o tm H K Qp := by
 obtain ⟨dst, op, type, pos, after, guard⟩ := o; simp only at ho; subst ho; refine AF (by simp) fun w g a sm r hN => ?_; subst hN; have rx := r.ev (x := x) (by simp [okO, Op.operands] at hok; exact hok.1); rw [hx] at rx; obtain ⟨b, ents, h1, h2, h3, h4⟩ := sm.obj k _ hk; obtain ⟨bi, bm, i1, i2, i3⟩ := sm.obj ki _ hi; have hsh : g.sh ki = some .fx := by rw [sm.sh, A0.sh, hi]; rfl
 have hbm : bm = b := by
  have := sm.Ij hk rfl i3; rw [h1] at this; simpa using this
 subst hbm; have hxe : a.eval x = .pointer (some ⟨bi, 0, none⟩) := by
  obtain ⟨_, _, hq⟩ := rx.Jo; obtain ⟨b', q1, q2⟩ := hq .fx hsh rfl; rw [i1] at q1; cases q1; exact q2
 have hbl := BE i2; rcases Go.run_next_at (P := P) w type bi bm cl cl seen.toArray ents cl i2 h2 (fun me hme => hlt _ (by rw [← h4]; exact List.mem_map.2 ⟨me, hme, rfl⟩)) (Nat.le_refl _) with ⟨hl, hrun⟩ | ⟨me, hme, w1, hw1, hrun⟩
 ·refine ⟨.tuple #[.bool false], w, g, H, _, .inl ?_, .refl w g, sm, ?_, hend ?_⟩
  ·simp [execOp, hxe, hrun]
  ·refine .tu _ _ rfl fun j y c q1 q2 => ?_
   match j with
   | 0 => simp at q1 q2; subst q1; subst q2; exact .v _
   | j + 1 => simp at q1
  ·intro q hq; rw [← h4] at hq; obtain ⟨me, hme, rfl⟩ := List.mem_map.1 hq; have h0 : Go.leftOf ents seen.toArray = #[] := Array.eq_empty_of_size_eq_zero hl; unfold Go.leftOf at h0; rw [Array.filter_eq_empty_iff] at h0; have := h0 me (by simpa using hme); simpa using this
 ·have hmem : me ∈ ents.toList ∧ me.born ∉ seen := by
   unfold Go.leftOf at hme; simp at hme; exact ⟨by simpa using hme.1, hme.2⟩
  obtain ⟨i, hie⟩ := List.getElem?_of_mem hmem.1; have hie' : ents[i]? = some me := by simpa using hie
  have hil : i < es.length := by rw [← h3.size]; exact (Array.getElem?_eq_some_iff.1 hie').1
  have hes := List.getElem?_eq_getElem hil; obtain ⟨e1, e2⟩ := h3.ent i me _ hie' hes; have hsb : Go.ChangeMaps.setBlock w1 bi (.mapIter (some bm) cl (seen.toArray.push me.born) cl) = w1.putObj bi (.mapIter (some bm) cl (seen ++ [me.born]).toArray cl) := by
   simp [Go.ChangeMaps.setBlock, World.putObj]
  have hh1 : w1.heap = w.heap := by rcases hw1 with rfl | rfl <;> rfl
  have hsame := sm.same (w' := w1) hh1 (by rcases hw1 with rfl | rfl <;> rfl) (by rcases hw1 with rfl | rfl <;> rfl) (by rcases hw1 with rfl | rfl <;> rfl); have hp := hsame.1.put (w' := w1.putObj bi (.mapIter (some bm) cl (seen ++ [me.born]).toArray cl)) ki bi (.it k cl seen cl) (.it k cl (seen ++ [me.born]) cl) hi rfl (by rw [i1]; rfl) (by simp) rfl rfl rfl
   (fun j hj => World.putObj_heap_other hj)
   (fun m => ⟨bi, bm, i1, by rw [Bp _ _ _ (by rw [hh1]; exact hbl), if_pos rfl], (i3.mono hsame.2).mono m⟩)
  refine ⟨.tuple #[.bool true, me.key, me.val], _, g, _, _, .inl ?_, hsame.2.tr hp.2 sm hsame.1, hp.1, ?_, hnext i me.born _ (by rw [← h4]; simp [hie']) hes hmem.2⟩
  ·rw [← hsb]; simp [execOp, hxe, hrun]
  ·refine .tu _ _ rfl fun j y c q1 q2 => ?_
   match j with
   | 0 => simp at q1 q2; subst q1; subst q2; exact .v _
   | 1 => simp at q1 q2; subst q1; subst q2; rw [e1]; exact .v _
   | 2 => simp at q1 q2; subst q1; subst q2; exact (e2.mono hsame.2).mono hp.2
   | j + 3 => simp at q1
theorem IL {o : Oper} {K : IV → A0 → Prop} {Qp : List PanicEntry → A0 → Prop} {x : Operand} {ki k cl i b : Nat} {bs seen : List Nat} {es : List (Value × IV)} {e : Value × IV} (ho : o.op = .entry x) (hok : okO N o = true)
    (hx : ev tm x = .p ki 0) (hi : H.obj ki = some (.it k cl (seen ++ [b]) cl)) (hk : H.obj k = some (.Dx bs cl es)) (hb : bs[i]? = some b) (he : es[i]? = some e) (hn : bs.Nodup)
    (hK : K (.tu [.v e.1, e.2]) H) : Aj P N o tm H K Qp := by
 obtain ⟨dst, op, type, pos, after, guard⟩ := o; simp only at ho; subst ho; refine AF (by simp) fun w g a sm r hN => ?_; subst hN; have rx := r.ev (x := x) (by simp [okO, Op.operands] at hok; exact hok.1); rw [hx] at rx; obtain ⟨bk, ents, h1, h2, h3, h4⟩ := sm.obj k _ hk; obtain ⟨bi, bm, i1, i2, i3⟩ := sm.obj ki _ hi; have hsh : g.sh ki = some .fx := by rw [sm.sh, A0.sh, hi]; rfl
 have hbm : bm = bk := by
  have := sm.Ij hk rfl i3; rw [h1] at this; simpa using this
 subst hbm; have hxe : a.eval x = .pointer (some ⟨bi, 0, none⟩) := by
  obtain ⟨_, _, hq⟩ := rx.Jo; obtain ⟨b', q1, q2⟩ := hq .fx hsh rfl; rw [i1] at q1; cases q1; exact q2
 have hil : i < ents.size := by rw [h3.size]; exact (List.getElem?_eq_some_iff.1 he).1
 have hent := Array.getElem?_eq_getElem hil; have hborn : ents[i].born = b := by
  rw [← h4] at hb; simp [hent] at hb; exact hb
 obtain ⟨e1, e2⟩ := h3.ent i _ e hent he; have hsa : (seen ++ [b]).toArray = seen.toArray.push ents[i].born := by rw [hborn]; simp
 rw [hsa] at i2; have hrun := Go.run_entry_at (P := P) w bi bm cl seen.toArray ents cl ents[i] i2 h2 (by rw [Array.mem_toList_iff]; exact Array.getElem_mem hil) h3.nodup; refine ⟨.tuple #[ents[i].key, ents[i].val], w, g, H, _, .inl ?_, .refl w g, sm, ?_, hK⟩
 ·simp [execOp, hxe, hrun]
 ·refine .tu _ _ rfl fun j y c q1 q2 => ?_
  match j with
  | 0 => simp at q1 q2; subst q1; subst q2; rw [e1]; exact .v _
  | 1 => simp at q1 q2; subst q1; subst q2; exact e2
  | j + 2 => simp at q1
end Go.Idl
namespace Go.Idl
open Go Go.RowKit
variable {P : Program} {N : Nat} {tm : Tm} {H0 H H1 : A0} {K : An → A0 → Prop}
theorem vcK {c : Code} {Q : Exit → Tm → A0 → Prop} (h : vc P N c Q tm H) (hc : HK N c = true := by kernel_rfl) : IWp P N c Q tm H := AK _ hc _ _ _ h
end Go.Idl
namespace Go.Idl
open Go Go.RowKit
variable {P : Program} {N : Nat} {tm : Tm} {H : A0} {Q : Exit → Tm → A0 → Prop}
def Kl {σ ρ : Type} (x : σ ⊕ ρ) (I : σ → Tm → A0 → Prop) (J : Exit → A0 → Prop) : Exit → Tm → A0 → Prop
  | .normal, tm, H => N9 x I tm H
  | .ret, _, H => J .ret H
  | .exit id, _, H => J (.exit id) H
  | .goto t, _, H => J (.goto t) H
  | .panic _, _, _ => False
  | .outgrown, _, _ => False
section
variable {σ ρ : Type} {x : σ ⊕ ρ} {I : σ → Tm → A0 → Prop} {J : Exit → A0 → Prop} {id l : Nat}
@[go_sem] theorem Wj : Kl x I J .normal tm H = N9 x I tm H := rfl
@[go_sem] theorem Wl : Kl x I J .ret tm H = J .ret H := rfl
@[go_sem] theorem Wm : Kl x I J (.exit id) tm H = J (.exit id) H := rfl
@[go_sem] theorem Wn : Kl x I J (.goto l) tm H = J (.goto l) H := rfl
end
def Tl {α : Type} (f : α → List IV) : Option α → IV
  | none => .v (.pointer none)
  | some x => .cp (f x)
@[go_sem] theorem Vv {α : Type} {f : α → List IV} {x : α} : Tl f (some x) = .cp (f x) := rfl
@[go_sem] theorem Vw {α : Type} {f : α → List IV} : Tl f none = .v (.pointer none) := rfl
theorem Km {α : Type} {f : α → List IV} {o : Option α} {n : Nat} (h : ∀ x, NB n (.cp (f x))) : NB n (Tl f o) := by
 cases o with
 | none => exact .v _
 | some x => exact h x
end Go.Idl
namespace Go.Idl
open Go Go.RowKit
variable {P : Program} {N : Nat} {tm : Tm} {H : A0} {Q : Exit → Tm → A0 → Prop}
def newL (H : A0) : List HO → A0
  | [] => H
  | o :: os => newL (H.new o) os
@[go_sem] theorem Pa : newL H [] = H := rfl
@[go_sem] theorem JG {o : HO} {os : List HO} : newL H (o :: os) = newL (H.new o) os := rfl
theorem GS (os : List HO) : ∀ H : A0, (newL H os).next = H.next + os.length := by
 induction os with
 | nil => intro H; rfl
 | cons o os ih => intro H; rw [JG, ih, Is, List.length_cons]; omega
theorem Nf (os : List HO) : ∀ H : A0, (newL H os).sn = H.sn := by
 induction os with
 | nil => intro H; rfl
 | cons o os ih => intro H; exact ih _
theorem Ll (os : List HO) : ∀ (H : A0) (i : Nat), (newL H os).obj i = if i < H.next then H.obj i else (match os[i - H.next]? with | some o => some o | none => H.obj i) := by
 induction os with
 | nil => intro H i; simp [Pa]
 | cons o os ih =>
  intro H i; rw [JG, ih]; rcases Nat.lt_trichotomy i H.next with h | h | h
  ·have h1 : i < (H.new o).next := Nat.lt_succ_of_lt h; have h2 : ¬ i = H.next := by omega
   rw [if_pos h1, Iz h2, if_pos h]
  ·subst h; have h1 : H.next < (H.new o).next := Nat.lt_succ_self _; have h2 : ¬ H.next < H.next := Nat.lt_irrefl _; rw [if_pos h1, QF, if_pos rfl, if_neg h2]; simp
  ·have h1 : ¬ i < (H.new o).next := by rw [Is]; omega
   have h2 : ¬ i < H.next := by omega
   have h3 : ¬ i = H.next := by omega
   have e : i - H.next = (i - (H.next + 1)) + 1 := by omega
   rw [if_neg h1, if_neg h2, e, List.getElem?_cons_succ, Iz h3, Is]
def Co (n : Nat) (ks : List Nat) (i : Nat) : Nat := if i < n then i else ks.getD (i - n) 0
theorem Ext.Wo {H0 H1 H' : A0} (he : Ext H0 H') (hw : H1.Wf) (hn : H1.next = H0.next) (hs : H1.sn = H0.sn) {ks : List Nat} {os : List HO} (hl : ks.length = os.length)
    (h1 : ∀ i o, H1.obj i = some o → (H0.obj i = some o) ∨ (H'.obj i = some o ∧ NBo H0.next o)) (h1' : ∀ i o, H1.obj i = some o → H'.obj i = some o)
    (hk : ∀ (i k : Nat) (o' : HO), ks[i]? = some k → os[i]? = some o' → H0.next ≤ k ∧ k < H'.next ∧ ∃ o, H'.obj k = some o ∧ RnO H' (newL H1 os) (Co H0.next ks) H0.next o o')
    (nd : ks.Nodup) : FB H0 H' (newL H1 os) (Co H0.next ks) := by
 have nx : (newL H1 os).next = H0.next + os.length := by rw [GS, hn]
 have get : ∀ i o, (newL H1 os).obj i = some o → (i < H0.next ∧ H1.obj i = some o) ∨ (H0.next ≤ i ∧ os[i - H0.next]? = some o) := by
  intro i o hi; rw [Ll, hn] at hi; split at hi
  ·rename_i e; exact .inl ⟨e, hi⟩
  ·rename_i e; split at hi
   ·rename_i o2 q; cases hi; exact .inr ⟨by omega, q⟩
   ·rw [hw i (by omega)] at hi; cases hi
 have rho_hi : ∀ i, H0.next ≤ i → i - H0.next < ks.length → ks[i - H0.next]? = some (Co H0.next ks i) := by
  intro i h1 h2; rw [Co, if_neg (by omega), List.getD_eq_getElem?_getD, List.getElem?_eq_getElem h2]; rfl
 refine ⟨by rw [nx]; omega, fun k hk2 => by rw [Co, if_pos hk2], he.le, fun k o hk2 => ?_, fun k hk2 => ?_, fun k k' q q' e => ?_, fun k o' hk' => ?_, by rw [Nf, hs]⟩
 ·rw [nx]; rcases get k o hk2 with ⟨q, _⟩ | ⟨q, q2⟩
  ·omega
  ·have := (List.getElem?_eq_some_iff.1 q2).1; omega
 ·rw [nx] at hk2; rcases Nat.lt_or_ge k H0.next with q | q
  ·rw [Co, if_pos q]; exact Nat.lt_of_lt_of_le q he.le
  ·have h2 : k - H0.next < os.length := by omega
   have h3 := rho_hi k q (by omega); exact (hk _ _ _ h3 (List.getElem?_eq_getElem h2)).2.1
 ·obtain ⟨o, ho⟩ := Option.isSome_iff_exists.1 q; obtain ⟨o', ho'⟩ := Option.isSome_iff_exists.1 q'; rcases get k o ho with ⟨a, _⟩ | ⟨a, a2⟩ <;> rcases get k' o' ho' with ⟨b, _⟩ | ⟨b, b2⟩
  ·rw [Co, if_pos a, Co, if_pos b] at e; exact e
  ·have := (List.getElem?_eq_some_iff.1 b2).1; have h3 := rho_hi k' b (by omega); have := (hk _ _ _ h3 b2).1; rw [← e, Co, if_pos a] at this; omega
  ·have := (List.getElem?_eq_some_iff.1 a2).1; have h3 := rho_hi k a (by omega); have := (hk _ _ _ h3 a2).1; rw [e, Co, if_pos b] at this; omega
  ·have l1 := (List.getElem?_eq_some_iff.1 a2).1; have l2 := (List.getElem?_eq_some_iff.1 b2).1; have h3 := rho_hi k a (by omega); have h4 := rho_hi k' b (by omega); rw [e] at h3; have e1 := (List.getElem?_eq_some_iff.1 h3); have e2 := (List.getElem?_eq_some_iff.1 h4); obtain ⟨q1, e1⟩ := e1; obtain ⟨q2, e2⟩ := e2; have := (List.getElem_inj nd).1 (e1.trans e2.symm); omega
 ·rcases get k o' hk' with ⟨a, a2⟩ | ⟨a, a2⟩
  ·have e : Co H0.next ks k = k := by rw [Co, if_pos a]
   rw [e]; rcases h1 k o' a2 with h | ⟨h, hb⟩
   ·exact .inl ⟨h, h1' k o' a2⟩
   ·exact .inr ⟨o', h, .same _ hb⟩
  ·have l1 := (List.getElem?_eq_some_iff.1 a2).1; obtain ⟨_, _, o, h4, h5⟩ := hk _ _ _ (rho_hi k a (by omega)) a2; exact .inr ⟨o, h4, h5⟩
theorem Mw {H0 H' J : A0} {ρ : Nat → Nat} {K : An → A0 → Prop} {r r1 r' : IV} (e : r1 = r) (h : FB H0 H' J ρ) (hr : Rn H' J ρ H0.next r r') (hK : K (.ret r') J) : KY r1 H0 K H' := by
 subst e; exact .inr ⟨r', J, .inr (h.Y3 hr), hK⟩
inductive FzP (k : Nat) (ck : List IV) : IV → IV → Prop
  | same (a : IV) : FzP k ck a a
  | p : FzP k ck (.p k 0) (.cp ck)
inductive Mx (k : Nat) (ck : List IV) : List IV → List IV → Prop
  | nil : Mx k ck [] []
  | cons {a b : IV} {l m : List IV} (h : FzP k ck a b) (t : Mx k ck l m) : Mx k ck (a :: l) (b :: m)
theorem Mx.len {k : Nat} {ck l m : List IV} (h : Mx k ck l m) : m.length = l.length := by
 induction h with
 | nil => rfl
 | cons _ _ ih => simp [ih]
theorem Mx.get {k : Nat} {ck l m : List IV} (h : Mx k ck l m) : ∀ (j : Nat) (a b : IV), l[j]? = some a → m[j]? = some b → FzP k ck a b := by
 induction h with
 | nil => intro j a b h; simp at h
 | cons h _ ih =>
  intro j a b h1 h2; cases j with
  | zero => simp at h1 h2; subst h1; subst h2; exact h
  | succ j => exact ih j a b (by simpa using h1) (by simpa using h2)
theorem FzP.sound {w : World} {g : Gs} (s : Sim w g H) {k : Nat} {ck : List IV} (hk : H.obj k = some (.cells ck)) {a b : IV} (h : FzP k ck a b) {x : Value} (hx : R w g x a) : R w (g.to (H.del k)) x b := by
 cases h with
 | same => exact s.S8 k hx
 | p =>
  have hnb := (s.obj k _ hk).nb; rw [s.nx] at hnb; exact (Fz.ptr (H := H) (J := H.del k) (by simp [A0.del]) hk fun c hc => hnb c hc).sound s (N7 k) hx
theorem Rn.mpE {J : A0} {ρ : Nat → Nat} {m k k' : Nat} (e : ρ k = k') (h : k < J.next) : Rn H J ρ m (.mp k') (.mp k) := by subst e; exact .mp k h
inductive NwL (H' J : A0) (ρ : Nat → Nat) (n : Nat) : List Nat → List HO → Prop
  | nil : NwL H' J ρ n [] []
  | cons {k : Nat} {o o' : HO} {ks : List Nat} {os : List HO} (lo : n ≤ k) (lt : k < H'.next) (h : H'.obj k = some o) (r : RnO H' J ρ n o o') (t : NwL H' J ρ n ks os) : NwL H' J ρ n (k :: ks) (o' :: os)
theorem NwL.len {H' J : A0} {ρ : Nat → Nat} {n : Nat} {ks : List Nat} {os : List HO} (h : NwL H' J ρ n ks os) : ks.length = os.length := by
 induction h with
 | nil => rfl
 | cons _ _ _ _ _ ih => simp [ih]
theorem NwL.get {H' J : A0} {ρ : Nat → Nat} {n : Nat} {ks : List Nat} {os : List HO} (h : NwL H' J ρ n ks os) : ∀ (i k : Nat) (o' : HO), ks[i]? = some k → os[i]? = some o' → n ≤ k ∧ k < H'.next ∧ ∃ o, H'.obj k = some o ∧ RnO H' J ρ n o o' := by
 induction h with
 | nil => intro i k o' h1; simp at h1
 | cons lo lt h r _ ih =>
  intro i k o' h1 h2; cases i with
  | zero => simp at h1 h2; subst h1; subst h2; exact ⟨lo, lt, _, h, r⟩
  | succ i => exact ih i k o' (by simpa using h1) (by simpa using h2)
theorem Lm {H0 H' : A0} (he : Ext H0 H') {ks : List Nat} {os : List HO} (h : NwL H' (newL H0 os) (Co H0.next ks) H0.next ks os) (nd : ks.Nodup) : FB H0 H' (newL H0 os) (Co H0.next ks) :=
  he.Wo he.wf rfl rfl h.len (fun _ _ h => .inl h) (fun i o h => he.sub i o h) h.get nd
theorem My {n : Nat} {l : List IV} (h : NBL n l) : NB n (.cp l) := .cp _ h
end Go.Idl
namespace Go.Idl
open Go Go.RowKit
section
variable {α β : Type} {f : α → β} {x : List α} {y : List β} {n : Nat}
end
theorem Wk.tuL {l m : List IV} (h : WkL l m) : Wk (.tu l) (.tu m) := fun w g x hx => by
  cases hx with
  | tu xs is hs hr =>
    refine .tu xs m (by rw [h.len]; exact hs) fun j x c h1 h2 => ?_
    have hlt : j < l.length := by rw [← h.len]; exact (List.getElem?_eq_some_iff.1 h2).1
    exact h.get j _ c (List.getElem?_eq_getElem hlt) h2 w g x (hr j x _ h1 (List.getElem?_eq_getElem hlt))
@[go_sem] theorem Wp {P : Program} {t : TypeId} {u : Option TypeDesc} {cs : List Value} : zvA P t (some (.agg ⟨cs⟩)) u = if (cs.all (·.oneCell')) = true then some (.ag (zvc cs (G4 P 9 t))) else none := rfl
@[go_sem] theorem Wq {α : Type} {o : Option α} [Decidable (o = none)] : decide (o = none) = o.isNone := by cases o <;> simp
section
variable {P : Program} {α : Type} {f : α → List IV} {o : Option α} {t : TypeId}
end
end Go.Idl
namespace Go.Idl
open Go Go.RowKit
variable {P : Program} {N : Nat} {tm : Tm} {H : A0}
theorem Bf.to {w : World} {g : Gs} {J : A0} (hs : ∀ k q, J.sh k = some q → g.sh k = some q) {rr : Option Nat} {B : Nat} : ∀ {ds : List Deferred}, Bf rr B w g ds → Bf rr B w (g.to J) ds
  | [], h => h
  | d :: ds, ⟨⟨r, h1, h2, h3, h4, h5, h6⟩, h⟩ => ⟨⟨r, h1, h2, h3, h4, fun e => h5 (Ig hs e), h6⟩, h.to hs⟩
@[simp, go_sem] theorem Ye {α : Type} {j : IntKind} {f : α → IV} : mI j f [] = [] := rfl
attribute [simp] T6
@[go_sem ↓] theorem Wr {l : List UInt8} : List.map (fun e => UInt8.ofNat ((GA e).getD 0).toNat) (List.map (fun x => [IV.v (.int .u8 x.toNat)]) l) = l := by
 rw [List.map_map]; have : ((fun e => UInt8.ofNat ((GA e).getD 0).toNat) ∘ fun (x : UInt8) => [IV.v (.int .u8 x.toNat)]) = id := by
  funext x; simp [GA]
 rw [this, List.map_id]
section
variable {α : Type} {a b c d e f g : α} {l : List α} {i : Nat}
end
section
variable {a s o : Nat}
@[go_sem] theorem QY (h : o < s) : (a * s + o) / s = a := by
 rw [Nat.mul_comm, Nat.mul_add_div (by omega), Nat.div_eq_of_lt h, Nat.add_zero]
@[go_sem] theorem QZ (h : o < s) : (a * s + o) % s = o := by
 rw [Nat.mul_comm, Nat.mul_add_mod, Nat.mod_eq_of_lt h]
variable {α : Type} {f : α → List IV} {l : List α} {d x : α} {i : Nat} {vc : List IV}
theorem NZ {es : List (List IV)} {off : Nat} (h1 : off / s = i) (h2 : off % s = o) : Cm s es vc off = es.set i (CV (es.getD i []) vc o) := by unfold Cm; rw [h1, h2]
theorem Ln (hi : i < l.length) (hx : CV (f (l.getD i d)) vc o = f x) : (l.map f).set i (CV ((l.map f).getD i []) vc o) = (l.set i x).map f := by
 have e : (l.map f).getD i [] = f (l.getD i d) := by simp [List.getD_eq_getElem?_getD, hi]
 rw [e, hx, List.map_set]
theorem Mz (hi : i < l.length) (hx : CV (f (l.getD i d)) vc o = f x) (ho : o < s) : Cm s (l.map f) vc (i * s + o) = (l.set i x).map f := by
 rw [NZ (QY ho) (QZ ho), Ln hi hx]
theorem Lo (hi : i < l.length) (hx : CV (f (l.getD i d)) vc 0 = f x) (ho : 0 < s) : Cm s (l.map f) vc (i * s) = (l.set i x).map f := Mz (o := 0) hi hx ho
theorem Lp (hi : i < l.length) (hx : CV (f (l.getD i d)) vc 0 = f x) : Cm 1 (l.map f) vc i = (l.set i x).map f := by
 have := Lo (s := 1) hi hx (by omega)
 rwa [Nat.mul_one] at this
end
end Go.Idl
namespace Go.Idl
open Go Go.RowKit
variable {P : Program} {N : Nat} {ops : Array Oper} {Q : Exit → Tm → A0 → Prop} {tm : Tm} {H : A0}
def vcT (P : Program) (ops : Array Oper) (Q : Exit → Tm → A0 → Prop) (Pu : List Nat) (E : C8 → Tm → A0 → Prop) : List Nat → C8 → Tm → A0 → Prop
  | [], S, tm, H => E S tm H
  | i :: L, S, tm, H =>
    match ops[i]? with
    | none => False
    | some o => vcG ops o tm (Iq P (vcT P ops Q Pu E L) Q i o S H (inP Pu i)) (Jw (vcT P ops Q Pu E L) o S H)
def Yf (Q : Exit → Tm → A0 → Prop) (_ : C8) (tm : Tm) (H : A0) : Prop := Q .normal tm H
@[go_sem] theorem XC {Pu : List Nat} {E : C8 → Tm → A0 → Prop} {S : C8} : vcT P ops Q Pu E [] S tm H = E S tm H := rfl
@[go_sem] theorem Ws {S : C8} : Yf Q S tm H = Q .normal tm H := rfl
theorem A7 {H0 H1 H : A0} (h1 : Ext H0 H1)
    (he : Ext H0 H1 → Ext H0 H := by intro he1; repeat (first | exact he1 | refine Ext.skip ?_ | refine Ext.new ?_ _ | refine Ext.set ?_ (by first | omega | (simp [go_sem]; done) | (simp [go_sem]; omega)) _ | refine Ext.del ?_ (by first | omega | (simp [go_sem]; done) | (simp [go_sem]; omega)) | refine Ext.Wg ?_ (by simp [go_sem]) _)) : Ext H0 H := he h1
theorem MA {k sz : Nat} : NB k (.sl sz []) := .sl _ _ (by simp)
theorem nbA {k : Nat} {x : IV}
    (h : NB k x := by repeat (first | refine Km fun _ => ?_ | refine My ?_ | exact .v _ | exact NBL.nil | refine NBL.cons ?_ ?_ | refine Mt fun _ => ?_ | refine Mu ?_ | refine BL ?_ | refine NBL.app ?_ ?_ | refine NBL.map fun _ => ?_ | exact Kk | exact MA | exact Mv (by omega) | exact P8 (by omega))) : NB k x := h
theorem BY {k : Nat} {x : List IV}
    (h : NBL k x := by repeat (first | refine Km fun _ => ?_ | refine My ?_ | exact .v _ | exact NBL.nil | refine NBL.cons ?_ ?_ | refine Mt fun _ => ?_ | refine Mu ?_ | refine BL ?_ | refine NBL.app ?_ ?_ | refine NBL.map fun _ => ?_ | exact Kk | exact MA | exact Mv (by omega) | exact P8 (by omega))) : NBL k x := h
theorem BN {k : Nat} {x : HO}
    (h : NBo k x := by repeat (first | refine Km fun _ => ?_ | refine My ?_ | exact .v _ | exact NBL.nil | refine NBL.cons ?_ ?_ | refine Mt fun _ => ?_ | refine Mu ?_ | refine BL ?_ | refine NBL.app ?_ ?_ | refine NBL.map fun _ => ?_ | exact Kk | exact MA | refine Tj ?_ | refine QT fun _ => ?_ | refine QU fun _ => ?_ | exact Mv (by omega) | exact P8 (by omega))) : NBo k x := h
end Go.Idl
namespace Go.Idl
open Go
theorem nd {A B : Prop} (a : A) (b : B) : A ∧ B := ⟨a, b⟩
theorem v0 {P Q : Prop} (q : Q) (e : Q → P := by intro q; refine vcK ?_; exact q) : P := e q
theorem w0 {P Q : Prop} (q : Q) (e : Q → P := by intro q; refine A1 fun cb hc => ?_; refine vcK ?_; subst hc; exact q) : P := e q
theorem sm {P : Prop} (e : P := by refine .same ?_; and_intros <;> first | with_reducible rfl | with_reducible assumption | (simp -implicitDefEqProofs (disch := omega) [go_sem] <;> omega)) : P := e
end Go.Idl
namespace Go.Idl
open Go Go.RowKit
variable {P : Program} {N : Nat} {tm : Tm} {H : A0}
theorem MB {P : Program} (t : TypeId) (v : Value) (w : World) : (Instr.panic (.iface t v)).run P w = .halt (.panic (.iface t v)) w := by
 simp [Instr.panic]
theorem Lq {o : Oper} {K : IV → A0 → Prop} {Qp : List PanicEntry → A0 → Prop} {x : Operand} (ho : o.op = .panic x) (hok : okO N o = true) {t : TypeId} {y : Value} (hv : vOf (ev tm x) = some (.iface t y))
    (hq : Qp [{ v := .iface t y, recovered := false }] H) : Aj P N o tm H K Qp := by
 refine ⟨fun c e => (by rw [ho] at e; cases e), fun rr w g a s r hN => ?_⟩; subst hN; simp only [okO, ho, Bool.and_eq_true, List.all_eq_true, Op.operands] at hok; have rx := NW (r.ev (x := x) (hok.1 x (by simp))) hv; have hrun : (execOp a.eval o).run P w = .halt (.panic (.iface t y)) w := by
  simp [execOp, ho, rx, MB]
 rw [hrun]; exact ⟨_, g, H, rfl, rfl, .refl w g, s, hq⟩
theorem IM {f : FuncId} {fn : Func} {c : Code} {args : List IV} {K : An → A0 → Prop} (hf : P.funcs[f]? = some fn) (hbd : Bq P f = true) (hb : fn.body = some c) (hN : fn.ntmps = N)
    (hn : (decide (args.length ≤ N) && fn.results.toList.all (rvN N)) = true)
    (h : ∀ cb, cb = c → H.Wf → FD P N cb (OW P fn.results.toList H K) (tm0 args) H []) : A2 P f args H K := by
 subst hN; simp only [Bool.and_eq_true, decide_eq_true_eq] at hn; exact Iv hbd hf hb hn.1 hn.2 fun hw => h c rfl hw
theorem Ef {f : FuncId} {fn : Func} {c : Code} {args : List IV} {u : FrameMode} {K : An → FrameMode → A0 → Prop} (hf : P.funcs[f]? = some fn) (hbd : Bq P f = true) (hb : fn.body = some c) (hN : fn.ntmps = N)
    (hn : (decide (args.length ≤ N) && fn.results.toList.all (rvN N)) = true)
    (h : ∀ cb, cb = c → H.Wf → FF P N cb (QJ P fn.results.toList H K) (tm0 args) H u) : AX P f args u H K := by
 subst hN; simp only [Bool.and_eq_true, decide_eq_true_eq] at hn; exact HL hbd hf hb hn.1 hn.2 fun hw => h c rfl hw
theorem AX.eqA {f : FuncId} {args args' : List IV} {u : FrameMode} {K : An → FrameMode → A0 → Prop} (e : args = args') (h : AX P f args' u H K) : AX P f args u H K := e ▸ h
section
variable {K : Tm → A0 → List GD → Prop} {Q : Exit → Tm → A0 → List GD → Prop} {dl : List GD} {c : List PanicEntry} {l : Nat}
@[go_sem] theorem Q_ : Iu K Q .normal tm H dl = K tm H dl := rfl
@[go_sem] theorem Tn : Iu K Q (.exit l) tm H dl = Q (.exit l) tm H dl := rfl
@[go_sem] theorem To : Iu K Q (.goto l) tm H dl = Q (.goto l) tm H dl := rfl
@[go_sem] theorem Vx : Iu K Q .ret tm H dl = Q .ret tm H dl := rfl
@[go_sem] theorem Sb : Iu K Q (.panic c) tm H dl = Q (.panic c) tm H dl := rfl
end
section
variable {K : Tm → A0 → FrameMode → Prop} {Q : Exit → Tm → A0 → FrameMode → Prop} {u : FrameMode} {c : List PanicEntry} {l : Nat}
@[go_sem] theorem R1 : thenS K Q .normal tm H u = K tm H u := rfl
@[go_sem] theorem Tp : thenS K Q (.exit l) tm H u = Q (.exit l) tm H u := rfl
@[go_sem] theorem Tq : thenS K Q (.goto l) tm H u = Q (.goto l) tm H u := rfl
@[go_sem] theorem Vy : thenS K Q .ret tm H u = Q .ret tm H u := rfl
@[go_sem] theorem Sc : thenS K Q (.panic c) tm H u = Q (.panic c) tm H u := rfl
end
section
variable {H0 : A0} {rs : List ResultVar} {Q : An → A0 → Prop} {dl : List GD} {c : List PanicEntry} {q : GD}
@[go_sem] theorem Tr : M8 P rs H0 Q (.panic c) tm H = ((∃ J, Cw H0 H J ∧ Q (.pan c) J) ∨ Q (.pan c) H) := rfl
@[go_sem] theorem Sd : OW P rs H0 Q .normal tm H dl = LvD P rs H0 Q tm dl .returning H := rfl
@[go_sem] theorem Wt : OW P rs H0 Q .ret tm H dl = LvD P rs H0 Q tm dl .returning H := rfl
@[go_sem] theorem Ts : OW P rs H0 Q (.panic c) tm H dl = LvD P rs H0 Q tm dl (.panicking c) H := rfl
@[go_sem] theorem XD : LvD P rs H0 Q tm [] .returning H = Me (GH P H tm rs) H0 Q H := HQ
@[go_sem] theorem Wu : LvD P rs H0 Q tm [] (.panicking c) H = ((∃ J, Cw H0 H J ∧ Q (.pan c) J) ∨ Q (.pan c) H) := rfl
theorem Ng (h : AX P q.f (q.args ++ q.cap) .returning H (lvQ (LvD P rs H0 Q tm dl))) : LvD P rs H0 Q tm (q :: dl) .returning H := ⟨by simp, h⟩
theorem Cl (h : AX P q.f (q.args ++ q.cap) (.panicking c) H (lvQ (LvD P rs H0 Q tm dl))) : LvD P rs H0 Q tm (q :: dl) (.panicking c) H := ⟨by simp, h⟩
end
section
variable {H0 : A0} {rs : List ResultVar} {Q : An → FrameMode → A0 → Prop} {c : List PanicEntry} {u : FrameMode}
@[go_sem] theorem Se : QJ P rs H0 Q .normal tm H u = Me (GH P H tm rs) H0 (fun e J => Q e u J) H := HQ
@[go_sem] theorem Tt : QJ P rs H0 Q (.panic c) tm H u = ((∃ J, Cw H0 H J ∧ Q (.pan c) u J) ∨ Q (.pan c) u H) := rfl
end
section
variable {K : FrameMode → A0 → Prop} {u : FrameMode} {c : List PanicEntry} {i : IV} {v : Value}
@[go_sem] theorem XE : lvQ K (.ret i) u H = K (settle u) H := rfl
@[go_sem] theorem XF : lvQ K (.pan c) u H = K (raised u c) H := rfl
@[go_sem] theorem Tu : settle .returning = .returning := rfl
@[go_sem] theorem Tv : settle (.panicking [{ v := v, recovered := true }]) = .returning := rfl
@[go_sem] theorem Tw : settle (.panicking [{ v := v, recovered := false }]) = .panicking [{ v := v, recovered := false }] := rfl
@[go_sem] theorem Wv : Kg (.panicking [{ v := v, recovered := false }]) = (v, .panicking [{ v := v, recovered := true }]) := rfl
@[go_sem] theorem Ww : Kg .returning = (.nilIface, .returning) := rfl
end
def isD : Op → Bool
  | .defer _ => true
  | _ => false
section
variable {full : Array Oper} {L : List Oper} {Q : Exit → Tm → A0 → List GD → Prop} {dl : List GD} {d : Option Tmp} {t : TypeId} {p : String} {af : Array Edge}
theorem IN : Ec P N full [] Q tm H dl = Q .normal tm H dl := rfl
theorem Gd {x : Operand} {l : List Operand} {ats : Array TypeId} : Ec P N full (⟨d, .defer ⟨.value x, ⟨l⟩, ats⟩, t, p, af, none⟩ :: L) Q tm H dl =
    D2 (fnP (ev tm x)) (fun f cap => Ec P N full L Q (Br tm d (.v undef)) H (⟨f, cap, l.map (ev tm)⟩ :: dl)) False := propext ⟨fun h => h.2, fun h => ⟨rfl, h⟩⟩
theorem JH {op : Op} (h : isD op = false) : Ec P N full (⟨d, op, t, p, af, none⟩ :: L) Q tm H dl =
    BR P N ⟨d, op, t, p, af, none⟩ tm H (fun x H' => Ec P N full L Q (Br tm d x) H' dl) (fun ch H' => Q (.panic ch) tm H' dl) := by
 cases op <;> first | (simp [isD] at h; done) | exact propext ⟨fun h => h.2, fun h => ⟨rfl, h⟩⟩
end
structure Dl (H D : A0) : Prop where
  next : D.next = H.next
  sn : D.sn = H.sn
  sub : ∀ k o, D.obj k = some o → H.obj k = some o
theorem Dl.refl (H : A0) : Dl H H := ⟨rfl, rfl, fun _ _ h => h⟩
theorem Dl.del {D : A0} (h : Dl H D) (k : Nat) : Dl H (D.del k) := ⟨h.next, h.sn, fun i o hi => by
  simp only [A0.del] at hi
  split at hi
  · cases hi
  · exact h.sub i o hi⟩
theorem Dl.DN {D H' : A0} (h : Dl H D) (he : Ext D H') : Cw H H' D :=
  ⟨by rw [h.next]; exact Nat.le_refl _, he.le, he.sub, fun k o hk => Nat.lt_of_not_le fun q => (by rw [he.wf k q] at hk; cases hk), .inr fun k o hk => .inl (h.sub k o hk), h.sn⟩
theorem Ext.Yg {H' : A0} (h : Ext H H') {k : Nat} (hk : H.obj k = none) : Ext H (H'.del k) := by
 refine ⟨h.wf, h.le, fun i o' hi => ?_, h.sn⟩; simp only [A0.del]; by_cases e : i = k
 ·subst e; rw [hk] at hi; cases hi
 ·rw [if_neg e]; exact h.sub i o' hi
theorem BA {H0 D : A0} {Q : An → A0 → Prop} {c : List PanicEntry} (he : Ext D H) (hd : Dl H0 D) (h : Q (.pan c) D) : (∃ J, Cw H0 H J ∧ Q (.pan c) J) ∨ Q (.pan c) H := .inl ⟨D, hd.DN he, h⟩
theorem Bt {H0 H1 H : A0} (h1 : Ext H0 H1)
    (he : Ext H0 H1 → Ext H0 H := by intro he1; repeat (first | exact he1 | refine Ext.skip ?_ | refine Ext.new ?_ _ | refine Ext.set ?_ (by first | omega | (simp [go_sem]; done) | (simp [go_sem]; omega)) _ | refine Ext.del ?_ (by first | omega | (simp [go_sem]; done) | (simp [go_sem]; omega)) | refine Ext.Yg ?_ (by simp [go_sem]) | refine Ext.Wg ?_ (by simp [go_sem]) _)) : Ext H0 H := he h1
def orP {ε α β : Type} (x : Except ε α) (p : ε → β) (k : α → β) : β :=
  match x with
  | .error e => p e
  | .ok a => k a
theorem Bh {ε α β : Type} {a : α} {p : ε → Option β} {k : α → Option β} {r : β} (h : orP (.ok a) p k = some r) : k a = some r := h
theorem AO {ε α β : Type} {e : ε} {p : ε → Option β} {k : α → Option β} {r : β} (h : orP (.error e) p k = some r) : p e = some r := h
end Go.Idl
namespace Go.Idl
open Go Go.RowKit
variable {P : Program} {N : Nat} {tm : Tm} {H : A0}
theorem FK {t xT : TypeId} {d : TypeDesc} {v : Value} {w : World} (hu : P.underlying t = some d) (hd : ∀ ms, d ≠ .interface ms) : (Instr.typeAssert (.iface t v) xT t true).run P w = .ok (.tuple #[v, .bool true]) w := by
 cases d <;> first | (exact absurd rfl (hd _)) | simp [Instr.typeAssert, run_underlying hu]
theorem Ge {o : Oper} {K : IV → A0 → Prop} {Qp : List PanicEntry → A0 → Prop} {x : Operand} {xT T : TypeId} {d : TypeDesc} {c : IV} (ho : o.op = .typeAssert x xT T true) (hok : okO N o = true) (hx : ev tm x = .ifc T c)
    (hu : P.underlying T = some d) (hd : ∀ ms, d ≠ .interface ms) (hK : K (.tu [c, .v (.bool true)]) H) : Aj P N o tm H K Qp := by
 refine Fv (i := .tu [c, .v (.bool true)]) (fun c e => by rw [ho] at e; cases e) (fun w g a r hN => ?_) hK; subst hN; simp only [okO, ho, Bool.and_eq_true, List.all_eq_true, Op.operands] at hok; have rx := r.ev (x := x) (hok.1 x (by simp)); rw [hx] at rx; generalize hz : a.eval x = z at rx; cases rx with
 | ifc _ y _ hy =>
  refine ⟨.tuple #[y, .bool true], ?_, .tu _ _ rfl ?_⟩
  ·simp [execOp, ho, hz, FK hu hd]
  ·intro j x' c' h1 h2
   match j, h1, h2 with
   | 0, h1, h2 => simp at h1 h2; subst h1; subst h2; exact hy
   | 1, h1, h2 => simp at h1 h2; subst h1; subst h2; exact .v _
   | j + 2, h1, h2 => simp at h2
theorem Gf {o : Oper} {K : IV → A0 → Prop} {Qp : List PanicEntry → A0 → Prop} {t : TypeId} {x y : Operand} {k off : Nat} (ho : o.op = .store t x y) (hok : okO N o = true) (hx : ev tm x = .p k off) (hy : ev tm y = .ag [])
    (hs : ∀ w, (sizeOf t).run P w = .ok 0 w) (hK : K (.v undef) H) : Aj P N o tm H K Qp := by
 refine AF (fun c e => by rw [ho] at e; cases e) fun w g a s r hN => ?_; subst hN; simp [okO, ho, Op.operands] at hok; have rx := r.ev (x := x) hok.1.1; have ry := Mk (by have := r.ev (x := y) hok.1.2; rwa [hy] at this); rw [hx] at rx; obtain ⟨b, hb⟩ := rx.Gz; refine ⟨undef, w, g, H, .v undef, .inr ⟨?_, rfl⟩, .refl w g, s, .v _, hK⟩; simp [execOp, ho, hb, ry, Instr.storeAt, Instr.sureAddr, storeVar, hs, Value.cells, storeCells]
end Go.Idl
namespace Go.Idl
open Go Go.RowKit
theorem Rn.osR {H J : A0} {ρ : Nat → Nat} {m k k' n n' : Nat} (e : ρ k = k') (h : k < J.next) (en : n' = n) : Rn H J ρ m (.os k' n') (.os k n) := by subst e; subst en; exact .os k _ h
theorem Lr {α : Type} {n s : Nat} {f : α → List IV} {l : List α} (h : ∀ x, NBL n (f x)) : NBo n (.row s (l.map f)) := by
 intro e he c hc; obtain ⟨x, _, rfl⟩ := List.mem_map.1 he; exact h x c hc
section
variable {α : Type} {f : α → List IV} {d : α} {s : Nat}
theorem Ls (hf : ∀ x, (f x).length = s) : ∀ l : List α, (l.map f).flatten.length = l.length * s
  | [] => by simp
  | x :: l => by rw [List.map_cons, List.flatten_cons, List.length_append, hf, Ls hf l, List.length_cons, Nat.add_mul]; omega
theorem JI (hf : ∀ x, (f x).length = s) : ∀ (l : List α) (i : Nat), i < l.length → ((l.map f).flatten.drop (i * s)).take s = f (l.getD i d)
  | [], i, h => by simp at h
  | x :: l, 0, _ => by simp [List.take_append, hf]
  | x :: l, i + 1, h => by
    rw [List.map_cons, List.flatten_cons, List.drop_append, hf]
    have e : (i + 1) * s - s = i * s := by rw [Nat.add_mul]; omega
    rw [List.drop_of_length_le (by rw [hf, Nat.add_mul]; omega), e, List.nil_append, JI hf l i (by simpa using h)]
    simp
theorem Nh {l : List α} {i : Nat} (hf : ∀ x, (f x).length = s) (hi : i < l.length) : (l.map f).flatten.length = l.length * s ∧ ((l.map f).flatten.drop (i * s)).take s = f (l.getD i d) :=
  ⟨Ls hf l, JI hf l i hi⟩
end
end Go.Idl
namespace Go.Idl
open Go Go.RowKit
variable {P : Program} {N : Nat} {tm : Tm} {H : A0}
@[go_sem] theorem Yh (l : List UInt8) : byt l = l.map fun x => [.v (.int .u8 x.toNat)] := rfl
theorem EG (sz : Nat) : ∀ (n : Nat) (l : List IV), l.length = n * sz → (chunks sz n l).flatten = l
  | 0, l, h => by
    have : l = [] := List.length_eq_zero_iff.1 (by simpa using h)
    subst this; rfl
  | n + 1, l, h => by
    have e : chunks sz (n + 1) l = l.take sz :: chunks sz n (l.drop sz) := rfl
    rw [e, List.flatten_cons, EG sz n (l.drop sz) (by rw [List.length_drop, h, Nat.succ_mul]; omega), List.take_append_drop]
theorem Gg {o : Oper} {K : IV → A0 → Prop} {Qp : List PanicEntry → A0 → Prop} {t : TypeId} {len sz : Nat} {parts : Array (Nat × Operand)} {rs : List IV} {es : List (List IV)} (ho : o.op = .buildSlice t len parts) (hok : okO N o = true)
    (h : bsI P t len (parts.toList.map fun q => (q.1, ev tm q.2)) = some (sz, rs)) (he : chunks sz len rs = es) (hl : es.length = len) (hm : len ≤ D5) (hK : K (.os H.next len) (H.new (.row sz es))) : Aj P N o tm H K Qp := by
 subst he; obtain ⟨dst, op, type, pos, after, guard⟩ := o; simp only at ho; subst ho; refine AF (by simp) fun w g a sm ra hN => ?_; subst hN; simp only [okO, Bool.and_eq_true, List.all_eq_true] at hok; have hp : E4 w g (parts.map fun q => (q.1, a.eval q.2)).toList (parts.toList.map fun q => (q.1, ev tm q.2)) := by
  rw [Array.toList_map]; refine Dd ra _ fun q hq => hok.1 _ ?_; simp only [Op.operands, List.toList_toArray, List.mem_map]; exact ⟨q, hq, rfl⟩
 obtain ⟨out, el, q1, q2, q3, q4, q5, q6, q7⟩ := Cv (P := P) hp h; have hn := sm.new (w' := w.alloc (.cells out el)) (.slice (some ⟨w.heap.size, 0, none⟩) len len) (.row sz (chunks sz len rs)) (by simp) rfl rfl rfl (fun b hb => by rw [AV, if_neg (by omega)])
  (fun b hb => by simp only [blk, Option.some.injEq] at hb; subst hb; simp)
  (fun g' m _ => ⟨some ⟨w.heap.size, 0, none⟩, len, by rw [hl], by omega, by omega, De sz len rs (by omega), q4, .inr ⟨w.heap.size, out, el, (0, 0), rfl, by rw [AV, if_pos rfl], C7 _, by omega, by
    rw [EG sz len rs q3]
    refine ⟨by omega, fun j c hj => ?_⟩
    have hj' : j < out.size := by rw [q2]; exact (List.getElem?_eq_some_iff.1 hj).1
    exact ⟨out[j], Array.getElem?_eq_getElem hj', q6 _ _ (Array.getElem?_eq_getElem hj'), (q7 _ _ _ (Array.getElem?_eq_getElem hj') hj).mono m⟩⟩⟩)
 refine ⟨.slice (some ⟨w.heap.size, 0, none⟩) len len, w.alloc (.cells out el), _, _, .os H.next len, .inl ?_, hn.2, hn.1, ?_, hK⟩
 ·simp [execOp, q1]
 ·have : (HO.row sz (chunks sz len rs)).sh = .row len := by simp only [HO.sh, hl]
  rw [this]; exact Cc (Nat.lt_succ_self _) ⟨_, _, rfl⟩
theorem Fq {o : Oper} {K : IV → A0 → Prop} {Qp : List PanicEntry → A0 → Prop} {t : TypeId} {len sz : Nat} {parts : Array (Nat × Operand)} {rs : List IV} {es : List (List IV)} (ho : o.op = .buildSlice t len parts) (hok : okO N o = true)
    (h : bsI P t len (parts.toList.map fun q => (q.1, ev tm q.2)) = some (sz, rs)) (he : chunks sz len rs = es) (hl : es.length = len) (hm : len ≤ D5) (hK : ∀ ty, K (.os H.next len) (H.new (.ty ty (.row sz es)))) : Aj P N o tm H K Qp := by
 subst he; obtain ⟨dst, op, type, pos, after, guard⟩ := o; simp only at ho; subst ho; refine AF (by simp) fun w g a sm ra hN => ?_; subst hN; simp only [okO, Bool.and_eq_true, List.all_eq_true] at hok; have hp : E4 w g (parts.map fun q => (q.1, a.eval q.2)).toList (parts.toList.map fun q => (q.1, ev tm q.2)) := by
  rw [Array.toList_map]; refine Dd ra _ fun q hq => hok.1 _ ?_; simp only [Op.operands, List.toList_toArray, List.mem_map]; exact ⟨q, hq, rfl⟩
 obtain ⟨out, el, q1, q2, q3, q4, q5, q6, q7⟩ := Cv (P := P) hp h; have hn := sm.new (w' := w.alloc (.cells out el)) (.slice (some ⟨w.heap.size, 0, none⟩) len len) (.ty el (.row sz (chunks sz len rs))) (by simp) rfl rfl rfl (fun b hb => by rw [AV, if_neg (by omega)])
  (fun b hb => by simp only [blk, Option.some.injEq] at hb; subst hb; simp)
  (fun g' m _ => ⟨⟨some ⟨w.heap.size, 0, none⟩, len, by rw [hl], by omega, by omega, De sz len rs (by omega), q4, .inr ⟨w.heap.size, out, el, (0, 0), rfl, by rw [AV, if_pos rfl], C7 _, by omega, by
    rw [EG sz len rs q3]
    refine ⟨by omega, fun j c hj => ?_⟩
    have hj' : j < out.size := by rw [q2]; exact (List.getElem?_eq_some_iff.1 hj).1
    exact ⟨out[j], Array.getElem?_eq_getElem hj', q6 _ _ (Array.getElem?_eq_getElem hj'), (q7 _ _ _ (Array.getElem?_eq_getElem hj') hj).mono m⟩⟩⟩, fun b hb => by
      simp only [blk, Option.some.injEq] at hb
      subst hb
      exact ⟨out, by rw [AV, if_pos rfl], fun cs e => by cases e⟩⟩)
 refine ⟨.slice (some ⟨w.heap.size, 0, none⟩) len len, w.alloc (.cells out el), _, _, .os H.next len, .inl ?_, hn.2, hn.1, ?_, hK el⟩
 ·simp [execOp, q1]
 ·have : (HO.ty el (HO.row sz (chunks sz len rs))).sh = .row len := by simp only [HO.sh, hl]
  rw [this]; exact Cc (Nat.lt_succ_self _) ⟨_, _, rfl⟩
theorem Sf {o : Oper} {K : IV → A0 → Prop} {Qp : List PanicEntry → A0 → Prop} {ta e ty : TypeId} {x : Operand} {k n : Nat} {es : List (List IV)} (ho : o.op = .convert ta ta x) (hok : okO N o = true) (ha : P.underlying ta = some (.slice e)) (he : P.underlying e = some (.int .u8))
    (hx : ev tm x = .os k n) (hk : H.obj k = some (.ty ty (.row 1 es))) (hn : es.length = n) (h1 : 1 ≤ n) (hK : K (.os k n) (H.set k (.row 1 es))) : Aj P N o tm H K Qp := by
 obtain ⟨dst, op, type, pos, after, guard⟩ := o; simp only at ho; subst ho; refine AF (by simp) fun w g a sm r hN => ?_; subst hN; have rx := r.ev (x := x) (by simp [okO, Op.operands] at hok; exact hok.1); rw [hx] at rx; obtain ⟨⟨ad, cap, m1, m2, m3, m4, m5, m6⟩, hpin⟩ := sm.obj k _ hk; have hsh : g.sh k = some (.row es.length) := by rw [sm.sh, A0.sh, hk]; rfl
 have hxe : a.eval x = g.mu k := by
  generalize a.eval x = y at rx; cases rx with
  | os _ _ _ _ h _ => exact (h _ hsh).2 hn.symm
 rcases m6 with ⟨rfl, rfl⟩ | ⟨b, xs, el, f, rfl, m7, m8, m9, m10⟩
 ·omega
 obtain ⟨xs', p1, _⟩ := hpin b (by rw [m1]; rfl); rw [m7] at p1; simp only [Option.some.injEq, Obj.cells.injEq] at p1; obtain ⟨rfl, rfl, rfl⟩ := p1; have hlt := BE m7; have hrun : (convert ta ta (a.eval x)).run P w = .ok (a.eval x) (w.freeze ⟨b, xs.size, none⟩ 1) := by
  have hsh2 : w.shape? b = some (el, xs.size) := by simp only [World.shape?, m7]
  rw [hxe, m1]; simp [convert, run_underlying ha, run_underlying he, markStringish, run_shape, hsh2, run_freeze]
 have hfz : ∀ i, (w.freeze ⟨b, xs.size, none⟩ 1).heap[i]? = if i = b then some (.cells xs el (xs.size, xs.size + 1)) else w.heap[i]? := by
  intro i; simp only [World.freeze]; rw [if_neg (by omega), Array.getElem?_modify]; by_cases h : i = b
  ·rw [if_pos h.symm, if_pos h, h, m7]; rfl
  ·rw [if_neg (fun h' => h h'.symm), if_neg h]
 have hp := sm.put (w' := w.freeze ⟨b, xs.size, none⟩ 1) k b (.ty el (.row 1 es)) (.row 1 es) hk rfl (by rw [m1]; rfl) (by simp [World.freeze]) (by simp [World.freeze]) (by simp [World.freeze]) (by simp [World.freeze])
  (fun i hi => by rw [hfz, if_neg hi])
  (fun m => ⟨_, cap, m1, m2, m3, m4, m5, .inr ⟨b, xs, el, (xs.size, xs.size + 1), rfl, by rw [hfz, if_pos rfl], fun i hi h => by simp at h; omega, m9, ⟨m10.1, fun j c hj => by
    obtain ⟨y, q1, q2, q3⟩ := m10.2 j c hj
    exact ⟨y, q1, q2, q3.mono m⟩⟩⟩⟩)
 refine ⟨a.eval x, _, g, _, .os k n, .inl ?_, hp.2, hp.1, rx.mono hp.2, hK⟩; simp [execOp, hrun]
theorem HA {o : Oper} {K : IV → A0 → Prop} {Qp : List PanicEntry → A0 → Prop} {ta e ty : TypeId} {x : Operand} {k n : Nat} {es : List (List IV)} (ho : o.op = .convert ta ta x) (hok : okO N o = true) (ha : P.underlying ta = some (.slice e)) (he : P.underlying e = some (.int .u8))
    (hx : ev tm x = .os k n) (hk : H.obj k = some (.ty ty (.row 1 es))) (hn : es.length = n) (h1 : 1 ≤ n) (hK : K (.sl 1 es) ((H.set k (.row 1 es)).del k)) : Aj P N o tm H K Qp := by
 obtain ⟨dst, op, type, pos, after, guard⟩ := o; simp only at ho; subst ho; refine AF (by simp) fun w g a sm r hN => ?_; subst hN; have rx := r.ev (x := x) (by simp [okO, Op.operands] at hok; exact hok.1); rw [hx] at rx; obtain ⟨⟨ad, cap, m1, m2, m3, m4, m5, m6⟩, hpin⟩ := sm.obj k _ hk; have hsh : g.sh k = some (.row es.length) := by rw [sm.sh, A0.sh, hk]; rfl
 have hxe : a.eval x = g.mu k := by
  generalize a.eval x = y at rx; cases rx with
  | os _ _ _ _ h _ => exact (h _ hsh).2 hn.symm
 rcases m6 with ⟨rfl, rfl⟩ | ⟨b, xs, el, f, rfl, m7, m8, m9, m10⟩
 ·omega
 obtain ⟨xs', p1, _⟩ := hpin b (by rw [m1]; rfl); rw [m7] at p1; simp only [Option.some.injEq, Obj.cells.injEq] at p1; obtain ⟨rfl, rfl, rfl⟩ := p1; have hlt := BE m7; have hrun : (convert ta ta (a.eval x)).run P w = .ok (a.eval x) (w.freeze ⟨b, xs.size, none⟩ 1) := by
  have hsh2 : w.shape? b = some (el, xs.size) := by simp only [World.shape?, m7]
  rw [hxe, m1]; simp [convert, run_underlying ha, run_underlying he, markStringish, run_shape, hsh2, run_freeze]
 have hfz : ∀ i, (w.freeze ⟨b, xs.size, none⟩ 1).heap[i]? = if i = b then some (.cells xs el (xs.size, xs.size + 1)) else w.heap[i]? := by
  intro i; simp only [World.freeze]; rw [if_neg (by omega), Array.getElem?_modify]; by_cases h : i = b
  ·rw [if_pos h.symm, if_pos h, h, m7]; rfl
  ·rw [if_neg (fun h' => h h'.symm), if_neg h]
 have hp := sm.put (w' := w.freeze ⟨b, xs.size, none⟩ 1) k b (.ty el (.row 1 es)) (.row 1 es) hk rfl (by rw [m1]; rfl) (by simp [World.freeze]) (by simp [World.freeze]) (by simp [World.freeze]) (by simp [World.freeze])
  (fun i hi => by rw [hfz, if_neg hi])
  (fun m => ⟨_, cap, m1, m2, m3, m4, m5, .inr ⟨b, xs, el, (xs.size, xs.size + 1), rfl, by rw [hfz, if_pos rfl], fun i hi h => by simp at h; omega, m9, ⟨m10.1, fun j c hj => by
    obtain ⟨y, q1, q2, q3⟩ := m10.2 j c hj
    exact ⟨y, q1, q2, q3.mono m⟩⟩⟩⟩)
 have hk2 : (H.set k (.row 1 es)).obj k = some (.row 1 es) := by simp [A0.set]
 have he2 := G3 (H.set k (.row 1 es)) hp.1.wf k; obtain ⟨s1, mm1⟩ := he2.sim hp.1 (.refl _ g) hp.1; have hv : R (w.freeze ⟨b, xs.size, none⟩ 1) (g.to ((H.set k (.row 1 es)).del k)) (a.eval x) (.sl 1 es) := by
  have h1' := rx.mono hp.2; rw [← hn] at h1'; refine (Fz.os k es.length 1 es es (by simp [A0.del]) hk2 rfl rfl (fun j e e' h1 h2 => by rw [h1] at h2; cases h2; rfl) fun j e e' h1 h2 q c c' h3 h4 => ?_).sound hp.1 he2.sub h1'; rw [h1] at h2; cases h2; rw [h3] at h4; cases h4; refine .wk _ _ (fun _ _ _ h => h) ?_; have hnb := (hp.1.obj k _ hk2).nb; rw [hp.1.nx] at hnb; exact hnb e (List.mem_of_getElem? h1) c (List.mem_of_getElem? h3)
 refine ⟨a.eval x, _, _, _, .sl 1 es, .inl ?_, hp.2.tr mm1 sm hp.1, s1, hv, hK⟩; simp [execOp, hrun]
theorem MC {o : Oper} {K : IV → A0 → Prop} {Qp : List PanicEntry → A0 → Prop} {ta tb e : TypeId} {d : TypeDesc} {x : Operand} (l : List UInt8) (ho : o.op = .convert ta tb x) (hok : okO N o = true) (ha : P.underlying ta = some d)
    (hb : P.underlying tb = some (.slice e)) (he : P.underlying e = some (.int .u8)) (hx : ev tm x = .v (str l)) (hs : (l.length : Int) ≤ 9223372036854775807) (hK : K (.os H.next l.length) (H.new (.row 1 (l.map fun x => [.v (.int .u8 x.toNat)])))) : Aj P N o tm H K Qp := by
 obtain ⟨dst, op, type, pos, after, guard⟩ := o; simp only at ho; subst ho; refine AF (by simp) fun w g a sm r hN => ?_; subst hN; have rx := r.ev (x := x) (by simp [okO, Op.operands] at hok; exact hok.1); rw [hx] at rx; have hxe := rx.v_eq; obtain ⟨w', cap, xs, f, h1, h2, h3, h4, h5, h6, h7, h8, h9, h10, h11⟩ := EA (P := P) (e := e) ⟨l.toArray⟩ w; have hsz : (⟨l.toArray⟩ : ByteArray).size = l.length := by rw [BJ, Ck]
 rw [Ck] at h11; rw [hsz] at h1 h2 h11; have hfl : ((l.map fun x => [IV.v (.int .u8 x.toNat)]) : List (List IV)).flatten = l.map fun x => IV.v (.int .u8 x.toNat) := by
  induction l with
  | nil => rfl
  | cons b l ih =>
   have : ∀ (l : List UInt8), ((l.map fun x => [IV.v (.int .u8 x.toNat)]) : List (List IV)).flatten = l.map fun x => IV.v (.int .u8 x.toNat) := by
    intro l
    induction l with
    | nil => rfl
    | cons b l ih => rw [List.map_cons, List.flatten_cons, ih]; rfl
   exact this _
 have hn := sm.new (w' := w') (.slice (some ⟨w.heap.size, 0, none⟩) l.length cap) (.row 1 (l.map fun x => [.v (.int .u8 x.toNat)])) (Nat.le_of_lt h3) h4 h5 h6 h7
  (fun b hb => by simp only [blk, Option.some.injEq] at hb; subst hb; exact ⟨h3, Nat.le_refl _⟩)
  (fun g' m _ => ⟨some ⟨w.heap.size, 0, none⟩, cap, by rw [List.length_map], by rw [List.length_map]; exact h2, by rw [List.length_map]; simp only [D5]; omega, by
      intro e he'
      obtain ⟨b, _, rfl⟩ := List.mem_map.1 he'
      rfl, by omega, .inr ⟨w.heap.size, xs, e, f, rfl, h8, h10, by omega, by
    rw [hfl]
    refine ⟨by rw [List.length_map, h9]; exact h2, fun j c hj => ?_⟩
    have hjl : j < l.length := by
      have := (List.getElem?_eq_some_iff.1 hj).1
      simpa using this
    refine ⟨_, h11 j hjl, rfl, ?_⟩
    simp only [List.getElem?_map, Option.map_eq_some_iff] at hj
    obtain ⟨b, hb', rfl⟩ := hj
    rw [List.getD_eq_getElem?_getD, hb']
    exact .v _⟩⟩)
 refine ⟨.slice (some ⟨w.heap.size, 0, none⟩) l.length cap, w', _, _, _, .inl ?_, hn.2, hn.1, ?_, hK⟩
 ·simp [execOp, convert, hxe, run_underlying ha, run_underlying hb, run_underlying he, h1]
 ·have : (HO.row 1 (l.map fun x => [IV.v (.int .u8 x.toNat)])).sh = .row l.length := by simp only [HO.sh, List.length_map]
  rw [this]; exact Cc (Nat.lt_succ_self _) ⟨_, _, rfl⟩
theorem Tx {H0 H1 H' : A0} (he : H0.next ≤ H'.next) (hw : H1.Wf) (hn : H1.next = H0.next) (hs : H1.sn = H0.sn) {ks : List Nat} {os : List HO} (hl : ks.length = os.length)
    (h1 : ∀ i o, H1.obj i = some o → (H0.obj i = some o) ∨ (H'.obj i = some o ∧ NBo H0.next o)) (h1' : ∀ i o, H1.obj i = some o → H'.obj i = some o)
    (hk : ∀ (i k : Nat) (o' : HO), ks[i]? = some k → os[i]? = some o' → H0.next ≤ k ∧ k < H'.next ∧ ∃ o, H'.obj k = some o ∧ RnO H' (newL H1 os) (Co H0.next ks) H0.next o o')
    (nd : ks.Nodup) : FB H0 H' (newL H1 os) (Co H0.next ks) := by
 have nx : (newL H1 os).next = H0.next + os.length := by rw [GS, hn]
 have get : ∀ i o, (newL H1 os).obj i = some o → (i < H0.next ∧ H1.obj i = some o) ∨ (H0.next ≤ i ∧ os[i - H0.next]? = some o) := by
  intro i o hi; rw [Ll, hn] at hi; split at hi
  ·rename_i e; exact .inl ⟨e, hi⟩
  ·rename_i e; split at hi
   ·rename_i o2 q; cases hi; exact .inr ⟨by omega, q⟩
   ·rw [hw i (by omega)] at hi; cases hi
 have rho_hi : ∀ i, H0.next ≤ i → i - H0.next < ks.length → ks[i - H0.next]? = some (Co H0.next ks i) := by
  intro i h1 h2; rw [Co, if_neg (by omega), List.getD_eq_getElem?_getD, List.getElem?_eq_getElem h2]; rfl
 refine ⟨by rw [nx]; omega, fun k hk2 => by rw [Co, if_pos hk2], he, fun k o hk2 => ?_, fun k hk2 => ?_, fun k k' q q' e => ?_, fun k o' hk' => ?_, by rw [Nf, hs]⟩
 ·rw [nx]; rcases get k o hk2 with ⟨q, _⟩ | ⟨q, q2⟩
  ·omega
  ·have := (List.getElem?_eq_some_iff.1 q2).1; omega
 ·rw [nx] at hk2; rcases Nat.lt_or_ge k H0.next with q | q
  ·rw [Co, if_pos q]; exact Nat.lt_of_lt_of_le q he
  ·have h2 : k - H0.next < os.length := by omega
   have h3 := rho_hi k q (by omega); exact (hk _ _ _ h3 (List.getElem?_eq_getElem h2)).2.1
 ·obtain ⟨o, ho⟩ := Option.isSome_iff_exists.1 q; obtain ⟨o', ho'⟩ := Option.isSome_iff_exists.1 q'; rcases get k o ho with ⟨a, _⟩ | ⟨a, a2⟩ <;> rcases get k' o' ho' with ⟨b, _⟩ | ⟨b, b2⟩
  ·rw [Co, if_pos a, Co, if_pos b] at e; exact e
  ·have := (List.getElem?_eq_some_iff.1 b2).1; have h3 := rho_hi k' b (by omega); have := (hk _ _ _ h3 b2).1; rw [← e, Co, if_pos a] at this; omega
  ·have := (List.getElem?_eq_some_iff.1 a2).1; have h3 := rho_hi k a (by omega); have := (hk _ _ _ h3 a2).1; rw [e, Co, if_pos b] at this; omega
  ·have l1 := (List.getElem?_eq_some_iff.1 a2).1; have l2 := (List.getElem?_eq_some_iff.1 b2).1; have h3 := rho_hi k a (by omega); have h4 := rho_hi k' b (by omega); rw [e] at h3; have e1 := (List.getElem?_eq_some_iff.1 h3); have e2 := (List.getElem?_eq_some_iff.1 h4); obtain ⟨q1, e1⟩ := e1; obtain ⟨q2, e2⟩ := e2; have := (List.getElem_inj nd).1 (e1.trans e2.symm); omega
 ·rcases get k o' hk' with ⟨a, a2⟩ | ⟨a, a2⟩
  ·have e : Co H0.next ks k = k := by rw [Co, if_pos a]
   rw [e]; rcases h1 k o' a2 with h | ⟨h, hb⟩
   ·exact .inl ⟨h, h1' k o' a2⟩
   ·exact .inr ⟨o', h, .same _ hb⟩
  ·have l1 := (List.getElem?_eq_some_iff.1 a2).1; obtain ⟨_, _, o, h4, h5⟩ := hk _ _ _ (rho_hi k a (by omega)) a2; exact .inr ⟨o, h4, h5⟩
theorem R2 (L : List (Nat × HO)) {H : A0} (hw : H.Wf) (h : ∀ p, p ∈ L → p.1 < H.next) : (Dy H L).Wf := by
 intro k hk; rw [F2] at hk; rcases D_ L H k with ⟨o, h1, h2⟩ | ⟨h1, h2⟩
 ·have := h _ h1; simp only at this; omega
 ·rw [h2]; exact hw k hk
theorem MD {H0 H' : A0} (hw : H0.Wf) (L : List (Nat × HO)) (he : Ext (HM H0 L) H') (hv : ∀ p, p ∈ L → p.1 < H0.next ∧ H'.obj p.1 = some p.2 ∧ NBo H0.next p.2) {ks : List Nat} {os : List HO} (h : NwL H' (newL (Dy H0 L) os) (Co H0.next ks) H0.next ks os) (nd : ks.Nodup) : FB H0 H' (newL (Dy H0 L) os) (Co H0.next ks) := by
 have hle : H0.next ≤ H'.next := by have := he.le; rwa [GR] at this
 have old : ∀ i o, (∀ p, p ∈ L → p.1 ≠ i) → H0.obj i = some o → (HM H0 L).obj i = some o := fun i o h1 h2 => by rw [Lj L H0 i h1]; exact h2
 refine Tx hle (R2 L hw fun p hp => (hv p hp).1) (F2 L H0) (Nd L H0) h.len (fun i o hi => ?_) (fun i o hi => ?_) h.get nd
 ·rcases D_ L H0 i with ⟨o1, h1, h2⟩ | ⟨h1, h2⟩
  ·rw [h2] at hi; cases hi; exact .inr ⟨(hv _ h1).2.1, (hv _ h1).2.2⟩
  ·rw [h2] at hi; exact .inl hi
 ·rcases D_ L H0 i with ⟨o1, h1, h2⟩ | ⟨h1, h2⟩
  ·rw [h2] at hi; cases hi; exact (hv _ h1).2.1
  ·rw [h2] at hi; exact he.sub i o (old i o h1 hi)
def Di (P : Program) (N : Nat) (full : Array Oper) : List Bool → List Oper → (Exit → Tm → A0 → Prop) → Tm → A0 → Prop
  | [], l, Q, tm, H => Cx P N full l Q tm H
  | _ :: _, [], Q, tm, H => Q .normal tm H
  | true :: own, o :: l, Q, tm, H => o.guard = none ∧ Aj P N o tm H (fun x H' => Di P N full own l Q (Br tm o.dst x) H') (fun ch H' => Q (.panic ch) tm H')
  | false :: own, o :: l, Q, tm, H => o.guard = none ∧ BR P N o tm H (fun x H' => Di P N full own l Q (Br tm o.dst x) H') (fun ch H' => Q (.panic ch) tm H')
variable {Q : Exit → Tm → A0 → Prop}
theorem Eg {full : Array Oper} (hok : full.toList.all (okO N) = true) {Q : Exit → Tm → A0 → Prop} : ∀ (own : List Bool) (l : List Oper) (i : Nat) (tm : Tm) (H : A0), (∀ (j : Nat) (o : Oper), l[j]? = some o → full[i + j]? = some o) →
    Di P N full own l Q tm H → FV P N full (List.range' i l.length) Q tm H
  | [], l, i, tm, H, hl, h => DE hok l i tm H hl h
  | b :: own, [], i, tm, H, _, h => FX (by cases b <;> exact h)
  | b :: own, o :: l, i, tm, H, hl, h => by
    have ho : full[i]? = some o := hl 0 o rfl
    have hl' : ∀ (j : Nat) (o : Oper), l[j]? = some o → full[i + 1 + j]? = some o := fun j o' h => by
      have := hl (j + 1) o' (by simpa using h)
      rwa [show i + (j + 1) = i + 1 + j by omega] at this
    have hall := List.all_eq_true.1 hok
    have hoo : okO N o = true := hall o (by rw [Array.mem_toList_iff]; exact Array.mem_of_getElem? ho)
    show FV P N full (i :: List.range' (i + 1) l.length) Q tm H
    cases b with
    | true =>
      have h : o.guard = none ∧ Aj P N o tm H (fun x H' => Di P N full own l Q (Br tm o.dst x) H') (fun ch H' => Q (.panic ch) tm H') := h
      exact Dc ho (fun w g a r hN => by simp [Region.wanted, h.1]) (h.2.mono (fun x H' h => Eg hok own l (i + 1) _ _ hl' h) fun _ _ h => h)
    | false =>
      have h : o.guard = none ∧ BR P N o tm H (fun x H' => Di P N full own l Q (Br tm o.dst x) H') (fun ch H' => Q (.panic ch) tm H') := h
      exact Dc ho (fun w g a r hN => by simp [Region.wanted, h.1]) ((CH hoo h.2).mono (fun x H' h => Eg hok own l (i + 1) _ _ hl' h) fun _ _ h => h)
theorem CY (own : List Bool) {id : Nat} {l : List Oper} (hok : l.all (okO N) = true) (h : Di P N ⟨l⟩ own l Q tm H) : IWp P N (.region id ⟨l⟩ false) Q tm H := by
 refine E3 ?_; have := Eg (full := ⟨l⟩) hok own l 0 tm H (fun j o ho => by simpa using ho) h; rw [List.range_eq_range']; exact this
def ME (P : Program) (N : Nat) (full : Array Oper) (own : List Bool) (l : List Oper) (Q : Exit → Tm → A0 → Prop) (d : Option Tmp) (tm : Tm) : IV → A0 → Prop := fun x H' => Di P N full own l Q (Br tm d x) H'
section
variable {full : Array Oper} {d : Option Tmp} {op : Op} {t : TypeId} {p : String} {af : Array Edge} {l : List Oper} {own : List Bool} {x : IV}
@[go_sem] theorem Ty : Di P N full [] l Q tm H = Cx P N full l Q tm H := by cases l <;> rfl
@[go_sem] theorem Wx : Di P N full (true :: own) (⟨d, op, t, p, af, none⟩ :: l) Q tm H = Aj P N ⟨d, op, t, p, af, none⟩ tm H (ME P N full own l Q d tm) (Kc Q tm) := propext ⟨fun h => h.2, fun h => ⟨rfl, h⟩⟩
@[go_sem] theorem Wy : Di P N full (false :: own) (⟨d, op, t, p, af, none⟩ :: l) Q tm H = BR P N ⟨d, op, t, p, af, none⟩ tm H (ME P N full own l Q d tm) (Kc Q tm) := propext ⟨fun h => h.2, fun h => ⟨rfl, h⟩⟩
@[go_sem] theorem Tz : ME P N full own l Q d tm x H = Di P N full own l Q (Br tm d x) H := rfl
end
@[go_sem] theorem XG {k : Nat} {o : HO} : VOK P (H.set k o) = VOK P H := propext ⟨fun h => h.of rfl, fun h => h.of rfl⟩
@[go_sem] theorem XH {o : HO} : VOK P (H.new o) = VOK P H := propext ⟨fun h => h.of rfl, fun h => h.of rfl⟩
theorem Wk.eqv {a b : IV} (h : a = b) : Wk a b := h ▸ Wk.refl a
theorem MF {α : Type} {f : α → List IV} {d : α} {s : Nat} {l : List α} {i o : Nat} (hf : ∀ x, (f x).length = s) (hi : i < l.length) (ho : o < s) :
    ∀ h : i * s + o < (l.map f).flatten.length, (l.map f).flatten[i * s + o] = (f (l.getD i d)).getD o .any := fun h => by
  have e := congrArg (fun q => q.getD o IV.any) (Nh (d := d) hf hi).2
  simp only [List.getD_eq_getElem?_getD, List.getElem?_take_of_lt ho, List.getElem?_drop, List.getElem?_eq_getElem h, Option.getD_some] at e
  rw [e, List.getD_eq_getElem?_getD, List.getD_eq_getElem?_getD]
end Go.Idl
namespace Go.Idl
open Go Go.RowKit Go.Proofs Go.Shelf Go.Sort
variable {P : Program} {H : A0}
abbrev T2 := List UInt8 × List UInt8
def Cs (h : T2) : List Value := [str h.1, str h.2]
def A_ (l : List T2) : List Value := l.flatMap Cs
def BM (l : List T2) : List IV := (A_ l).map .v
theorem CZ (l : List T2) : (A_ l).length = l.length * 2 := by
 induction l with
 | nil => rfl
 | cons h l ih => simp only [A_, List.flatMap_cons, List.length_append] at ih ⊢; rw [ih]; simp [Cs]; omega
theorem HB : ∀ (l : List T2) (t : Nat) (h : t < l.length * 2), (A_ l)[t]? = (Cs l[t / 2]!)[t % 2]?
  | [], t, h => by simp at h
  | x :: l, 0, h => by simp [A_, Cs]
  | x :: l, 1, h => by simp [A_, Cs]
  | x :: l, t + 2, h => by
    have ih := HB l t (by simp at h; omega)
    have e : (t + 2) / 2 = t / 2 + 1 := by omega
    have e2 : (t + 2) % 2 = t % 2 := by omega
    rw [e, e2]
    simp only [A_, List.flatMap_cons] at ih ⊢
    rw [show Cs x ++ l.flatMap Cs = str x.1 :: str x.2 :: l.flatMap Cs from rfl]
    simpa using ih
theorem Ft (d : Array T2) : flatK Cs 2 d = (A_ d.toList).toArray := by
 apply Array.ext
 ·simp [flatK, CZ]
 ·intro t h1 h2; have hlt : t < d.size * 2 := by simpa [flatK] using h1
  have h3 := get_flatK Cs 2 d t hlt; rw [getElem!_pos _ t h1] at h3; rw [h3]; have h4 := HB d.toList t (by simpa using hlt); have hm : t % 2 < 2 := Nat.mod_lt _ (by omega); have hd : d.toList[t / 2]! = d[t / 2]! := by
   have : t / 2 < d.size := by omega
   rw [getElem!_pos d.toList _ (by simpa using this), getElem!_pos d _ this]; simp
  rw [hd] at h4; have h5 : t < (A_ d.toList).length := by simpa using h2
  rw [List.getElem?_eq_getElem h5] at h4; simp only [List.getElem_toArray]; have h6 : t % 2 < (Cs d[t / 2]!).length := hm; rw [List.getElem?_eq_getElem h6] at h4; rw [getElem!_pos (Cs d[t / 2]!) _ h6]; exact (Option.some.inj h4).symm
theorem GU {ρ : Go.Shelf.Ren} {f g0 : FuncId} (Ly : SlLaysF0.n6 P ρ) (hf : ρ.f 6 = f) (hb : Bq P f = true) (aE : ∀ w, (isAgg (ρ.t 24)).run P w = .ok true w) (zE : ∀ w, (Go.sizeOf (ρ.t 24)).run P w = .ok 2 w)
    (cf : T2 → T2 → Int) (hO : Go.Sort.SWO (Go.Proofs.ltOf cf)) (eg : ∀ args w, (callFunc g0 args).run P w = .ok (.enter g0 args) w) (hcmp : ∀ (w : World) (blk size : Nat), CmpLays P g0 #[] Cs 2 cf blk 0 size w)
    {K : An → A0 → Prop} (l : List T2) (k : Nat) (hk : H.obj k = some (.cells (BM l))) (hl : l.length < 4611686018427387904)
    (hK : ∀ l', l'.Perm l → l'.Pairwise (fun a b => Go.Proofs.ltOf cf b a = false) → K (.ret (.tu [])) (H.set k (.cells (BM l')))) : A2 P f [.bs k 0 l.length, .v (.func (.func g0) #[] #[])] H K := by
 refine ⟨hb, fun w g vs s rl => ?_⟩; obtain ⟨hsz, hrl⟩ := rl; have h0 : 0 < vs.size := by rw [hsz]; simp
 have h1' : 1 < vs.size := by rw [hsz]; simp
 have hv := hrl 0 vs[0] (.bs k 0 l.length) (Array.getElem?_eq_getElem (by rw [hsz]; simp)) rfl; have hv1 := hrl 1 vs[1] (.v (.func (.func g0) #[] #[])) (Array.getElem?_eq_getElem (by rw [hsz]; simp)) rfl; obtain ⟨b, xs, el, fr, h1, h2, h3, h4⟩ := s.obj k _ hk; have hsh : g.sh k = some .fx := by rw [s.sh, A0.sh, hk]; rfl
 have ⟨cap, hx⟩ : ∃ cap, vs[0] = .slice (some ⟨b, 0, none⟩) l.length cap := by
  generalize vs[0] = x at hv; cases hv with
  | bs _ _ _ _ _ _ h =>
   obtain ⟨b', cap, q1, q2⟩ := h .fx hsh rfl; rw [h1] at q1; cases q1; exact ⟨cap, q2⟩
 have hx1 : vs[1] = .func (.func g0) #[] #[] := hv1.v_eq; have hvs : vs = #[.slice (some ⟨b, 0, none⟩) l.length cap, .func (.func g0) #[] #[]] := by
  apply Array.ext
  ·simpa using hsz
  ·intro i h5 h6; have e : i = 0 ∨ i = 1 := by simp at h6; omega
   rcases e with rfl | rfl
   ·simpa using hx
   ·simpa using hx1
 have hcl := CZ l; have hcell : ∀ j (hj : j < (A_ l).length), xs[j]? = some (A_ l)[j] := by
  intro j hj; obtain ⟨x, q1, _, q2⟩ := h4.2 j (.v (A_ l)[j]) (by simp [BM, hj]); rw [q1, q2.v_eq]
 have hH : HoldsK Cs 2 w b 0 l.toArray := by
  unfold HoldsK; rw [Ft]; intro j hj; have hj' : j < (A_ l).length := by simpa using hj
  have e : ((A_ l.toArray.toList).toArray)[j]! = (A_ l)[j] := by simp [hj']
  refine ⟨?_, ?_⟩
  ·rw [e]; simp only [World.cell?, h2, Nat.zero_add]; simpa using hcell j hj'
  ·simp only [World.frozen?, h2, Nat.zero_add]; have hlt : j < xs.size := (Array.getElem?_eq_some_iff.1 (hcell j hj')).1; have := h3 j hlt; obtain ⟨lo, hi⟩ := fr; simp only [Bool.and_eq_false_iff, decide_eq_false_iff_not]; by_cases e : lo ≤ j
   ·exact .inr fun e' => this ⟨e, e'⟩
   ·exact .inl e
 have hc := Go.Proofs.AnyQ.slices_SortFunc Ly 2 aE zE Cs (fun _ => rfl) (fun x v hv => by simp [Cs] at hv; rcases hv with rfl | rfl <;> rfl) cf hO g0 #[] b 0 cap l.toArray w eg (hcmp w b _) hH (BE h2) (by simpa using hl); rw [show l.toArray.size = l.length from by simp] at hc; rw [hf, ← hvs] at hc; refine hc.mono ?_
 rintro e w' ⟨rfl, d', n, os, hp, hso, rfl⟩
 obtain ⟨hp1, _, hp2⟩ := hp; have hp1 : d'.size = l.length := by simpa using hp1
 have hex : ∀ (a : Array T2), a.size = l.length → a.extract 0 l.length = a := fun a ha => by rw [← ha]; simp
 rw [hex d' hp1, hex l.toArray (by simp)] at hp2; have hso2 : d'.toList.Pairwise (fun a b => Go.Proofs.ltOf cf b a = false) := by
  rw [List.pairwise_iff_getElem]; intro i j hi hj hij; have hj' : j < d'.size := by simpa using hj
  have := hso i j (Nat.zero_le _) hij (by omega); rw [getElem!_pos _ j hj', getElem!_pos _ i (by omega)] at this; simpa using this
 have hk2 := hK d'.toList (by simpa using hp2) hso2; generalize hS : d'.toList = S at *; have hSl : S.length = l.length := by rw [← hS, ← hp1]; simp
 have hflat : flatK Cs 2 d' = (A_ S).toArray := by rw [Ft, hS]
 have hsw : sortWorldK Cs 2 w b 0 n d' os = Go.Sort.grow (Go.Sort.putRow id (Go.Sort.ahead w n) b 0 (A_ S).toArray) os := by
  show Go.Sort.grow (putRowK Cs 2 (Go.Sort.ahead w n) b 0 d') os = _; unfold putRowK; rw [hflat]
 rw [hsw]; have hcS : (A_ S).length = (A_ l).length := by rw [CZ, CZ, hSl]
 have hlt := BE h2; have hheap : (Go.Sort.grow (Go.Sort.putRow id (Go.Sort.ahead w n) b 0 (A_ S).toArray) os).heap = w.heap.modify b (Go.Sort.onCells (Go.Sort.putCells id 0 (A_ S).toArray)) ++ os := rfl; have hat : (Go.Sort.grow (Go.Sort.putRow id (Go.Sort.ahead w n) b 0 (A_ S).toArray) os).heap[b]? = some (.cells (Go.Sort.putCells id 0 (A_ S).toArray xs) el fr) := by
  rw [hheap, Array.getElem?_append_left (by simpa using hlt), Array.getElem?_modify, if_pos rfl, h2]; rfl
 have hne : ∀ i, i < w.heap.size → i ≠ b → (Go.Sort.grow (Go.Sort.putRow id (Go.Sort.ahead w n) b 0 (A_ S).toArray) os).heap[i]? = w.heap[i]? := by
  intro i hi hn; rw [hheap, Array.getElem?_append_left (by simpa using hi), Array.getElem?_modify, if_neg (Ne.symm hn)]
 have hsize : w.heap.size ≤ (Go.Sort.grow (Go.Sort.putRow id (Go.Sort.ahead w n) b 0 (A_ S).toArray) os).heap.size := by
  rw [hheap]; simp
 have hg : ∀ o : HO, o.sh = .fx → g.put k (g.mu k) o.sh (H.set k o).next = g := by
  intro o ho; rw [ho]; show g.put k (g.mu k) .fx H.next = g; rw [← s.nx]; exact g.KS k _ hsh
 have hu := s.upd (H' := H.set k (.cells (BM S))) (w' := Go.Sort.grow (Go.Sort.putRow id (Go.Sort.ahead w n) b 0 (A_ S).toArray) os) k (g.mu k) (.cells (BM S)) rfl (Nat.le_refl _) (s.lt k (by rw [hk]; rfl)) hsize rfl rfl rfl
  (fun i hi => by
    by_cases e : i = b
    · exact .inl ⟨by rw [hsh]; rfl, by rw [h1, e]; rfl⟩
    · exact .inr (hne i hi e))
  (fun i hi => by
    rw [h1] at hi
    cases hi
    exact ⟨Nat.lt_of_lt_of_le hlt hsize, .inr ⟨by rw [hsh]; rfl, by rw [h1]; rfl⟩⟩)
  (.inr (.inl ⟨hsh, rfl, rfl⟩))
  (fun g' m e => by
    have hxl : (A_ l).length ≤ xs.size := by have := h4.1; simpa [BM] using this
    refine ⟨b, _, el, fr, h1, hat, ?_, ?_, ?_⟩
    · simpa [Go.Sort.putCells] using h3
    · simp [Go.Sort.putCells, BM]; omega
    · intro j c hj
      simp only [BM, List.getElem?_map, Option.map_eq_some_iff] at hj
      obtain ⟨x, hx', rfl⟩ := hj
      have hjl := (List.getElem?_eq_some_iff.1 hx').1
      have hjx : j < xs.size := by omega
      have ho : x.oneCell' = true := by
        have := List.mem_of_getElem? hx'
        simp only [A_, List.mem_flatMap, Cs] at this
        obtain ⟨h, _, h⟩ := this
        simp at h
        rcases h with rfl | rfl <;> rfl
      refine ⟨x, ?_, ho, .v _⟩
      simp [Go.Sort.putCells, hjx, hjl]
      exact (List.getElem?_eq_some_iff.1 hx').2)
 rw [hg _ rfl] at hu; exact ⟨.ret (.tu []), g, _, hu.2, hu.1, .ret _ _ (.tu #[] [] rfl (by simp)), hk2⟩
end Go.Idl
namespace Go.Idl
open Go Go.RowKit Go.Proofs Go.Shelf
variable {P : Program} {H : A0} {K : An → A0 → Prop}
theorem Lt (w : World) (o : Obj) : Below w.heap.size w (w.alloc o) := by
 refine ⟨rfl, rfl, rfl, ?_, fun i hi => ?_⟩
 ·show w.heap.size ≤ (w.heap.push o).size; simp
 ·show (w.heap.push o)[i]? = w.heap[i]?; rw [Array.getElem?_push]; split
  ·omega
  ·rfl
theorem MG (w : World) (xs : Array Value) (t : TypeId) (i : Nat) : World.cell? (w.alloc (.cells xs t)) ⟨w.heap.size, i, none⟩ = xs[i]? := by
 have h : (w.alloc (.cells xs t)).heap[w.heap.size]? = some (.cells xs t) := by
  show (w.heap.push (.cells xs t))[w.heap.size]? = _; simp
 unfold World.cell?; rw [h]; simp [Addr.spot]
end Go.Idl
namespace Go.Idl
open Go Go.RowKit Go.Proofs Go.Shelf
variable {P : Program} {H : A0} {K : An → A0 → Prop}
theorem Lu {ρ : Go.Shelf.Ren} {f : FuncId} (Ly : Lays.n160 P ρ) (hf : ρ.f 160 = f) (hv : ∀ w, (zeroValue (ρ.t 116)).run P w = .ok (.agg (Array.replicate 256 (.bool false))) w) (hi : (P.info? (ρ.t 116)).map (·.size) = some 256)
    (hb : Bq P f = true) (s c : List UInt8) (hs : s.length ≤ 9223372036854775807) (hc : c.length < 4294967281) (ha : ∀ b, b ∈ c → b.toNat < 128) (hK : K (.ret (.v (str (Lib.trimS s c)))) H) : A2 P f [.v (str s), .v (str c)] H K := by
 refine ⟨hb, fun w g vs sm rl => ?_⟩; obtain ⟨x, y, rfl, hx, hy⟩ := Mn rl; rw [hx.v_eq, hy.v_eq, ← hf]; refine (Any.strings_Trim_ascii Ly hv hi ⟨s.toArray⟩ ⟨c.toArray⟩ w (by show s.toArray.size ≤ _; simpa using hs) (by show c.toArray.size < _; simpa using hc) (fun j b hj => ha b (List.mem_of_getElem? (by simpa using hj)))).mono ?_
 rintro e w' ⟨rfl, hB⟩
 exact ⟨_, g, H, .AR hB, sm.AR hB, .ret _ _ (.v _), hK⟩
theorem Kn {ρ : Go.Shelf.Ren} {f : FuncId} (Ly : Lays.n146 P ρ) (hf : ρ.f 146 = f) (hi9 : (P.info? (ρ.t 9)).map (fun i => (i.zero, i.size, i.bytes)) = some (some (.string ByteArray.empty), 1, 16))
    (hg : P.globalNamed "internal/bytealg.MaxLen" = some (ρ.g 1)) (hb : Bq P f = true) (hV : VOK P H) (s t : List UInt8) (hs : s.length < 4294967281) (ht : 1 ≤ t.length)
    (hK : K (.ret (.sl 1 ((Lib.split s t).map fun x => [.v (str x)]))) H) : A2 P f [.v (str s), .v (str t)] H K := by
 refine ⟨hb, fun w g vs sm rl => ?_⟩; obtain ⟨x, y, rfl, hx, hy⟩ := Mn rl; rw [hx.v_eq, hy.v_eq, ← hf]; obtain ⟨b1, b2, b3, b4, t2, t3, p2, p3, x4, m4, q1, q2, q3, q5, q6, q4⟩ := hV; obtain ⟨el4, fz4, hc4⟩ := CX sm q4 (i := 3) rfl; have e4 : b4 = ρ.g 1 := by rw [hg] at q5; exact (Option.some.inj q5).symm
 subst e4; have hm : w.cell? ⟨ρ.g 1, 0, none⟩ = some (.int .i64 m4) := by simp only [World.cell?, hc4]; exact q6
 have hsz : (ByteArray.mk s.toArray).size = s.length := by show s.toArray.size = _; simp
 have ht' : 1 ≤ (ByteArray.mk t.toArray).size := by show 1 ≤ t.toArray.size; simpa using ht
 refine (Any.strings_Split Ly hi9 ⟨s.toArray⟩ ⟨t.toArray⟩ m4 w (by rw [hsz]; exact hs) hm ht').mono ?_
 rintro e w' ⟨rfl, rfl⟩
 have hle := Lib.countB_le (ByteArray.mk t.toArray) ht' _ (ByteArray.mk s.toArray) (Nat.le_refl _); rw [hsz] at hle; have hcount : Lib.countB (ByteArray.mk s.toArray) (ByteArray.mk t.toArray) = Lib.count s t := by simp [Lib.countB]
 have hall := Lib.splitB_all (ByteArray.mk t.toArray) ht' 0 _ (ByteArray.mk s.toArray) rfl; have hdata : Lib.split s t = (Lib.splitB (ByteArray.mk t.toArray) 0 (Lib.countB (ByteArray.mk s.toArray) (ByteArray.mk t.toArray)) (ByteArray.mk s.toArray)).map (·.data.toList) := by
  rw [Lib.splitB_data, Lib.split, hcount]
 generalize Lib.countB (ByteArray.mk s.toArray) (ByteArray.mk t.toArray) = n at *; generalize Lib.splitB (ByteArray.mk t.toArray) 0 n (ByteArray.mk s.toArray) = L at *; rw [hdata] at hK; have hB := Lt w (.cells (L.map Value.string).toArray (ρ.t 9)); refine ⟨_, g, H, .AR hB, sm.AR hB, .ret _ _ ?_, hK⟩; have hll : (List.map (fun x => [IV.v (str x)]) (L.map (·.data.toList))).length = n + 1 := by simp [hall]
 rw [← hll]; refine .sl w.heap.size 0 _ 1 _ (fun i j => (L.map Value.string).toArray[i]?.getD undef) (fun ho => ?_) ?_ ?_ ?_ ?_ ?_ ?_ ?_
 ·exact sm.fresh (Nat.le_refl _) ho
 ·show w.heap.size < (w.heap.push _).size; simp
 ·have h2 : 4294967282 ≤ D5 := by decide
  rw [hll]; omega
 ·exact Nat.le_refl _
 ·intro e he; simp only [List.map_map, List.mem_map] at he; obtain ⟨_, _, rfl⟩ := he; rfl
 all_goals
  intro i e j c h1 h2; rw [List.getElem?_map, List.getElem?_map] at h1; cases hi : L[i]? with
  | none => rw [hi] at h1; cases h1
  | some b =>
   rw [hi] at h1; simp only [Option.map_some, Option.some.injEq] at h1; subst h1; have hcell : (L.map Value.string).toArray[i]? = some (.string b) := by
    rw [List.getElem?_toArray, List.getElem?_map, hi]; rfl
   cases j with
   | succ j => simp at h2
   | zero =>
    simp only [List.getElem?_cons_zero, Option.some.injEq] at h2; subst h2
    first
     | (show World.cell? (w.alloc _) ⟨w.heap.size, 0 + i * 1 + 0, none⟩ = _
        have e1 : 0 + i * 1 + 0 = i := by omega
        rw [e1]
        rw [hcell]
        exact (MG w _ _ i).trans hcell)
     | (rw [hcell]; rfl)
     | (rw [hcell]
        exact .v _)
theorem R.Ni {w : World} {g : Gs} {x : Value} {l : List UInt8} (h : R w g x (.sl 1 (byt l))) : ∃ a cap, x = .slice a l.length cap ∧ Lib.BytesIn w a l.length (l.map fun b => (b.toNat : Int)) ∧ (a = none → l = []) ∧ (l ≠ [] → l.length ≤ cap) := by
 rcases h.Eu with ⟨h1, a, cap, rfl⟩ | ⟨b, off, cap, cv, rfl, hb, hlt, hlen, hcap, hsz, hc, ho, hr⟩
 ·have : l = [] := by
   cases l with
   | nil => rfl
   | cons x l => cases h1
  subst this; exact ⟨a, cap, rfl, Lib.BytesIn.nil _ _ _, fun _ => rfl, fun h => absurd rfl h⟩
 ·refine ⟨some ⟨b, off, none⟩, cap, by rw [CG], Lib.BytesIn.of_cells (fun i hi => ?_), (fun h => by simp at h), fun _ => by rw [CG] at hcap; exact hcap⟩; have h1 : (byt l)[i]? = some [.v (.int .u8 l[i].toNat)] := by simp [byt, hi]
  have h2 := hc i _ 0 _ h1 rfl; have h3 := hr i _ 0 _ h1 rfl; rw [h3.v_eq] at h2; rw [addr_add, show off + i = off + i * 1 + 0 by omega, h2]; simp [hi]
theorem HC (l : List UInt8) : Lib.bytesOf (l.map fun b => (b.toNat : Int)) = l := by
 unfold Lib.bytesOf; rw [List.map_map]
 conv => rhs; rw [← List.map_id l]
 refine List.map_congr_left fun b _ => ?_; simp
theorem R.Yi {w : World} {g : Gs} : R w g (.slice none 0 0) (.sl 1 (byt [])) := .sl0 _ _ _
theorem R.Yj {w : World} {g : Gs} {a : Option Addr} {cap : Nat} {l : List UInt8} (hx : R w g (.slice a l.length cap) (.sl 1 (byt l))) (i : Nat) (hi : i ≤ l.length) : R w g (.slice a i cap) (.sl 1 (byt (l.take i))) := by
 by_cases h0 : i = 0
 ·subst h0; exact .sl0 _ _ _
 ·have hb : (byt l).length = l.length := CG l; have hcap : l.length ≤ cap := by
   rcases hx.Eu with ⟨h1, _⟩ | ⟨b, off, c2, cv, hxe, _, _, _, hcap, _⟩
   ·have : l = [] := by
     cases l with
     | nil => rfl
     | cons x l => cases h1
    subst this; simp at hi; omega
   ·simp only [Value.slice.injEq] at hxe; obtain ⟨_, _, rfl⟩ := hxe; rw [hb] at hcap; exact hcap
  have := R.M1 (h := i) (l := 0) (m := cap) (es := byt l) (by rw [hb]; exact hx) (Nat.zero_le _) (by rw [hb]; exact hi) (by omega); rw [if_neg (by omega)] at this; have e : ((byt l).take i).drop 0 = byt (l.take i) := by simp [byt, List.map_take]
  rw [e] at this; have e2 : a.map (·.add (0 * 1)) = a := by cases a <;> simp [addr_add, Addr.add]
  rw [e2] at this; exact this
theorem R.Wz {w : World} {g : Gs} {a : Option Addr} {cap : Nat} {l : List UInt8} (hx : R w g (.slice a l.length cap) (.sl 1 (byt l))) (i : Nat) (hi : i ≤ l.length) : R w g (Lib.fromV a l.length cap i) (.sl 1 (byt (l.drop i))) := by
 by_cases h0 : i = l.length
 ·subst h0; unfold Lib.fromV; rw [Nat.sub_self, List.drop_length]; exact .sl0 _ _ _
 ·have hb : (byt l).length = l.length := CG l; have hcap : l.length ≤ cap := by
   rcases hx.Eu with ⟨h1, _⟩ | ⟨b, off, c2, cv, hxe, _, _, _, hcap, _⟩
   ·have : l = [] := by
     cases l with
     | nil => rfl
     | cons x l => cases h1
    subst this; simp at hi h0; omega
   ·simp only [Value.slice.injEq] at hxe; obtain ⟨_, _, rfl⟩ := hxe; rw [hb] at hcap; exact hcap
  have := R.M1 (l := i) (h := l.length) (m := cap) (es := byt l) (by rw [hb]; exact hx) hi (by rw [hb]; exact Nat.le_refl _) hcap; rw [if_neg (by omega)] at this; have e : ((byt l).take l.length).drop i = byt (l.drop i) := by
   rw [List.take_of_length_le (by rw [hb]; exact Nat.le_refl _)]; simp [byt, List.map_drop]
  rw [e, Nat.mul_one] at this; unfold Lib.fromV; rw [if_neg (by omega)]; exact this
def IP (s t : List UInt8) : List UInt8 × List UInt8 × Bool := if 0 ≤ Lib.index s t then (s.take (Lib.index s t).toNat, s.drop ((Lib.index s t).toNat + t.length), true) else (s, [], false)
theorem Lv {ρ : Go.Shelf.Ren} {f : FuncId} (Ly : SlLaysT.n4 P ρ) (hf : ρ.f 4 = f) (hg : P.globalNamed "internal/bytealg.MaxLen" = some (ρ.g 0)) (hb : Bq P f = true) (hV : VOK P H) (s t : List UInt8) (hs : s.length < 4294967281) (ht2 : 2 ≤ t.length) (ht : t.length ≤ 1000000)
    (hK : K (.ret (.tu [.sl 1 (byt (IP s t).1), .sl 1 (byt (IP s t).2.1), .v (.bool (IP s t).2.2)])) H) : A2 P f [.sl 1 (byt s), .sl 1 (byt t)] H K := by
 refine ⟨hb, fun w g vs sm rl => ?_⟩; obtain ⟨x, y, rfl, hx, hy⟩ : ∃ x y, vs = #[x, y] ∧ R w g x (.sl 1 (byt s)) ∧ R w g y (.sl 1 (byt t)) := by
  obtain ⟨l1, l2⟩ := rl; obtain ⟨vs⟩ := vs
  match vs, l1 with
  | [x, y], _ => exact ⟨x, y, rfl, l2 0 _ _ rfl rfl, l2 1 _ _ rfl rfl⟩
 obtain ⟨a1, c1, rfl, i1, n1, m1⟩ := hx.Ni; obtain ⟨a2, c2, rfl, i2, n2, m2⟩ := hy.Ni; rw [← hf]; obtain ⟨b1, b2, b3, b4, t2, t3, p2, p3, x4, m4, q1, q2, q3, q5, q6, q4⟩ := hV; obtain ⟨el4, fz4, hc4⟩ := CX sm q4 (i := 3) rfl; have e4 : b4 = ρ.g 0 := by rw [hg] at q5; exact (Option.some.inj q5).symm
 subst e4; have hm : w.cell? ⟨ρ.g 0, 0, none⟩ = some (.int .i64 m4) := by simp only [World.cell?, hc4]; exact q6
 have rng : ∀ (l : List UInt8), ∀ x ∈ l.map (fun b => (b.toNat : Int)), 0 ≤ x ∧ x < 256 := fun l x hx => by
  obtain ⟨b, _, rfl⟩ := List.mem_map.1 hx; have := b.toNat_lt; omega
 have key : Calls P (ρ.f 4) #[.slice a1 s.length c1, .slice a2 t.length c2] w fun e w' => e = .returned (Lib.cutV a1 s.length c1 t.length (Lib.index s t)) ∧ ∃ q, w' = w.drewN q := by
  by_cases h0 : a1 = none ∧ c1 ≠ 0
  ·have hs0 := n1 h0.1; subst hs0; have e : Lib.index [] t = -1 := Lib.index_long (by simp only [List.length_nil]; omega) (fun e => by rw [e] at ht2; simp at ht2); rw [e]; exact Any.bytes_Cut_of Ly a1 a2 _ c1 _ c2 (-1) w (Nat.zero_le _) (by omega) (by omega) (by simp) ((Any.bytes_Index_longer Ly.index a1 a2 _ c1 _ c2 w ht2 (by simp; omega) (by omega)).mono fun _ _ ⟨he, hw⟩ => ⟨he, 0, hw⟩)
  ·have hcap : s.length ≤ c1 := by
    by_cases hse : s = []
    ·subst hse; simp
    ·exact m1 hse
   have := Any.bytes_Cut_all Ly a1 a2 s.length c1 t.length c2 _ _ m4 w (by simp) (by simp) (rng s) (rng t) i1 i2 (fun h => by by_cases q : c1 = 0; exact q; exact absurd ⟨h, q⟩ h0) hcap hs (by omega) hm; rw [HC, HC] at this; exact this
 refine key.mono ?_
 rintro e w' ⟨rfl, n, rfl⟩
 have hB : Below w.heap.size w (w.drewN n) := ⟨rfl, rfl, rfl, Nat.le_refl _, fun _ _ => rfl⟩; refine ⟨_, g, H, .AR hB, sm.AR hB, ?_, hK⟩; have hx' := hx.mono (.AR hB); unfold Lib.cutV IP; have hroom := Lib.index_room s t; by_cases hi : 0 ≤ Lib.index s t
 ·rw [if_pos hi, if_pos hi]; have hr := hroom hi; refine .ret _ _ (.tu _ _ rfl fun j x c h1 h2 => ?_)
  match j, h1, h2 with
  | 0, h1, h2 => simp at h1 h2; subst h1; subst h2; exact R.Yj hx' _ (by omega)
  | 1, h1, h2 =>
   simp at h1 h2; subst h1; subst h2; exact R.Wz hx' _ (by omega)
  | 2, h1, h2 => simp at h1 h2; subst h1; subst h2; exact .v _
  | j + 3, h1, h2 => simp at h1
 ·rw [if_neg hi, if_neg hi]; refine .ret _ _ (.tu _ _ rfl fun j x c h1 h2 => ?_)
  match j, h1, h2 with
  | 0, h1, h2 => simp at h1 h2; subst h1; subst h2; exact hx'
  | 1, h1, h2 => simp at h1 h2; subst h1; subst h2; exact R.Yi
  | 2, h1, h2 => simp at h1 h2; subst h1; subst h2; exact .v _
  | j + 3, h1, h2 => simp at h1
end Go.Idl
namespace Go.Idl
open Go Go.RowKit Go.ChangeShapes Go.WideShapes
def g0 : Gs := { oth := fun _ => False, mu := fun _ => undef, sh := fun _ => none, nx := 0 }
def H0 : A0 := { next := 0, obj := fun _ => none, sn := [] }
theorem ow0 (b : Nat) : ¬ g0.ow b := by
 rintro (h | ⟨k, h, _⟩)
 ·exact h
 ·cases h
theorem Jh {w w' : World} {g' : Gs} (m : AB w g0 w' g') : Below w.heap.size w w' :=
  ⟨m.os, m.tape, m.output, m.size, fun k hk => m.keep k hk fun ⟨i, h, _⟩ => by cases h⟩
variable {P : Program} {w : World} {Hh : Type} {enc : TypeId × Value → Hh}
def Rd (P : Program) (w : World) {Hh : Type} (enc : TypeId × Value → Hh) (t : TypeId) (S : List IV → Prop) : Prop :=
  ∀ (base : Nat) (spare : Nat → Bool) (held : Bool) (fuel : Nat) (cs : List Value) (x : DataW Hh × List MemPlace), DataW.trod enc P w base spare held fuel t cs = some x →
    ∃ is, S is ∧ is.length = cs.length ∧ ∀ (j : Nat) (c : Value) (i : IV), cs[j]? = some c → is[j]? = some i → c.oneCell' = true ∧ R w g0 c i
theorem EH {c : Value} {i : IV} (ho : c.oneCell' = true) (hr : R w g0 c i) : ∀ (j : Nat) (c' : Value) (i' : IV), [c][j]? = some c' → [i][j]? = some i' → c'.oneCell' = true ∧ R w g0 c' i' := by
 intro j c' i' h1 h2; cases j with
 | zero => simp at h1 h2; subst h1; subst h2; exact ⟨ho, hr⟩
 | succ j => simp at h1
theorem TA {t : TypeId} {k : IntKind} (hu : P.underlying t = some (.int k)) : Rd P w enc t fun is => ∃ n : Int, is = [.v (.int k n)] := by
 intro base spare held fuel cs x h; obtain ⟨n, rfl, _, _⟩ := DataW.trod_int hu h; exact ⟨_, ⟨n, rfl⟩, rfl, EH rfl (.v _)⟩
theorem N_ {t : TypeId} (hu : P.underlying t = some .string) : Rd P w enc t fun is => ∃ s : List UInt8, is = [.v (str s)] := by
 intro base spare held fuel cs x h; obtain ⟨s, rfl, _, _⟩ := DataW.trod_string hu h; refine ⟨_, ⟨bytes s, rfl⟩, rfl, EH rfl ?_⟩; rw [show str (bytes s) = .string s by rw [str, FY]]; exact .v _
theorem EI {E : Type} (Pr : Nat → E → Prop) : ∀ n : Nat, (∀ i, i < n → ∃ x, Pr i x) → ∃ l : List E, l.length = n ∧ ∀ (i : Nat) (x : E), l[i]? = some x → Pr i x
  | 0, _ => ⟨[], rfl, by simp⟩
  | n + 1, h => by
    obtain ⟨l, h1, h2⟩ := EI Pr n fun i hi => h i (by omega)
    obtain ⟨x, hx⟩ := h n (by omega)
    refine ⟨l ++ [x], by simp [h1], fun i y hy => ?_⟩
    rcases Nat.lt_or_ge i n with hi | hi
    · rw [List.getElem?_append_left (by omega)] at hy
      exact h2 i y hy
    · rw [List.getElem?_append_right (by omega)] at hy
      have e : i = n := by
        have := (List.getElem?_eq_some_iff.1 hy).1
        simp at this; omega
      subst e
      simp [h1] at hy
      subst hy
      exact hx
theorem JJ {base : Nat} {a : Addr} : ∀ {n : Nat} {cs : List Value}, w.cells? base a n = some cs → cs.length = n ∧ ∀ j, j < n → w.cell? (a.add j) = cs[j]? := by
 intro n cs h; unfold World.cells? at h; split at h
 ·refine ⟨?_, fun j hj => ?_⟩
  ·have := mapM_some_length h; simpa using this
  ·exact mapM_some_get h j j (by simp [hj])
 ·cases h
theorem Pb {t e : TypeId} {E : Type} (cells : E → List IV) (hu : P.underlying t = some (.slice e)) (h0 : 0 < P.cellsOf e) (he : Rd P w enc e fun is => ∃ x : E, is = cells x) :
    Rd P w enc t fun is => ∃ l : List E, is = [.sl (P.cellsOf e) (l.map cells)] := by
 intro base spare held fuel cs x h; rcases DataW.trod_slice hu h with ⟨rfl, _⟩ | ⟨a, len, cap, elems, rest, n, _, rfl, _, hb, hl, hm, hlen, hel, _, _⟩
 ·exact ⟨_, ⟨[], rfl⟩, rfl, EH rfl (.sl0 _ _ _)⟩
 ·obtain ⟨l, l1, l2⟩ := EI (fun i (y : E) => (cells y).length = P.cellsOf e ∧ ∀ (j : Nat) (i' : IV), (cells y)[j]? = some i' → ∃ c, w.cell? ((a.add (i * P.cellsOf e)).add j) = some c ∧ c.oneCell' = true ∧ R w g0 c i') len (fun i hi => by
    have hei := hel i hi
    have hne : elems[i]? = some elems[i] := List.getElem?_eq_getElem (by omega)
    rw [hne, Option.bind_eq_some_iff] at hei
    obtain ⟨ci, hc, ht⟩ := hei
    obtain ⟨q1, q2⟩ := JJ hc
    obtain ⟨is, ⟨y, rfl⟩, q3, q4⟩ := he _ _ _ _ _ _ ht
    refine ⟨y, by rw [q3, q1], fun j i' hj => ?_⟩
    have hjl : j < ci.length := by rw [← q3]; exact (List.getElem?_eq_some_iff.1 hj).1
    have := q4 j ci[j] i' (List.getElem?_eq_getElem hjl) hj
    exact ⟨ci[j], by rw [q2 j (by omega)]; exact List.getElem?_eq_getElem hjl, this⟩)
  refine ⟨_, ⟨l, rfl⟩, rfl, EH rfl ?_⟩; by_cases hz : len = 0
  ·subst hz; have : l = [] := List.eq_nil_of_length_eq_zero l1; subst this; exact .sl0 _ _ _
  ·have hlm : (l.map cells).length = len := by simp [l1]
   have h0l : 0 < l.length := by omega
   obtain ⟨q1, q2⟩ := l2 0 l[0] (List.getElem?_eq_getElem h0l); have hpos : 0 < (cells l[0]).length := by omega
   obtain ⟨c0, q3, _⟩ := q2 0 _ (List.getElem?_eq_getElem hpos); obtain ⟨b, off, spot⟩ := a; have hsp : spot = none ∧ b < w.heap.size := by
    have e0 : ((⟨b, off, spot⟩ : Addr).add (0 * P.cellsOf e)).add 0 = ⟨b, off, spot⟩ := by simp [Addr.add]
    rw [e0] at q3; unfold World.cell? at q3; split at q3
    ·rename_i hh; refine ⟨?_, (Array.getElem?_eq_some_iff.1 hh).1⟩; split at q3
     ·cases q3
     ·rename_i hs; simpa using hs
    ·cases q3
   obtain ⟨rfl, hlt⟩ := hsp; rw [← hlm]; refine .sl b off cap _ _ (fun i j => (w.cell? ⟨b, off + i * P.cellsOf e + j, none⟩).getD undef) (ow0 b) hlt (by rw [hlm]; have hm' : cap ≤ 9223372036854775807 := hm; unfold D5; omega) (by omega) ?_ ?_ ?_ ?_
   ·intro c hc; obtain ⟨y, hy, rfl⟩ := List.mem_map.1 hc; obtain ⟨i, hi⟩ := List.getElem?_of_mem hy; exact (l2 i y hi).1
   all_goals
    intro i ee j c h1 h2; simp only [List.getElem?_map, Option.map_eq_some_iff] at h1; obtain ⟨y, hy, rfl⟩ := h1; obtain ⟨c', r1, r2, r3⟩ := (l2 i y hy).2 j c h2; rw [addr_add, addr_add] at r1
    first | (rw [r1]; rfl) | (simp only [r1, Option.getD_some]; first | exact r2 | exact r3)
theorem Rd.one {t : TypeId} {v : Value} {d : DataW Hh} {ps : List MemPlace} {S : List IV → Prop} {base : Nat} {spare : Nat → Bool} {held : Bool} (h : Rd P w enc t S) (hv : v.cells = #[v]) (hd : DataW.Trod enc P w base spare held t v d ps) : ∃ i, S [i] ∧ R w g0 v i := by
 obtain ⟨fuel, hf⟩ := hd; obtain ⟨is, h1, h2, h3⟩ := h _ _ _ _ _ _ hf; rw [hv] at h2 h3
 match is, h2, h1, h3 with
 | [i], _, h1, h3 => exact ⟨i, h1, (h3 0 v i rfl rfl).2⟩
theorem Rd.agg {t : TypeId} {cs : Array Value} {d : DataW Hh} {ps : List MemPlace} {S : List IV → Prop} {base : Nat} {spare : Nat → Bool} {held : Bool} (h : Rd P w enc t S) (hd : DataW.Trod enc P w base spare held t (.agg cs) d ps) : ∃ is, S is ∧ R w g0 (.agg cs) (.ag is) := by
 obtain ⟨fuel, hf⟩ := hd; obtain ⟨is, h1, h2, h3⟩ := h _ _ _ _ _ _ hf; have hcs : (Value.agg cs).cells.toList = cs.toList := rfl; rw [hcs] at h2 h3; refine ⟨is, h1, .ag cs is (by simpa using h2.symm) (fun j x hx => ?_) fun j x c hx hc => (h3 j x c (by simpa using hx) hc).2⟩; have hlt : j < is.length := by
  have := (Array.getElem?_eq_some_iff.1 hx).1; rw [h2]; simpa using this
 exact (h3 j x is[j] (by simpa using hx) (List.getElem?_eq_getElem hlt)).1
end Go.Idl
namespace Go.Proofs
open Go.Shelf
def Tryz.Lw : Go.Shelf.Ren := ⟨fun | 160 => 80 | 232 => 108 | 231 => 107 | 227 => 109 | 234 => 111 | 233 => 110 | 236 => 113 | 235 => 112 | 228 => 136 | 271 => 138 | 151 => 137 | 197 => 130 | 120 => 164 | 152 => 163 | 260 => 158 | 137 => 174 | 119 => 175 | 224 => 144 | 225 => 160 | 217 => 159 | 266 => 172 | n => n, fun | 9 => 9 | 4 => 4 | 3 => 3 | 5 => 5 | 117 => 146 | 116 => 145 | 0 => 0 | 124 => 149 | 21 => 21 | 105 => 166 | 46 => 152 | 119 => 199 | 139 => 202 | 138 => 201 | n => n, fun | 3 => 6 | 4 => 7 | n => n⟩
theorem Tryz.R3 : Go.Proofs.Lays.n160 Tryz.prog Tryz.Lw := {
  mixed := by kernel_rfl
  f119 := Tryz.func175.trans (congrArg some (by kernel_rfl))
  f120 := Tryz.func164.trans (congrArg some (by kernel_rfl))
  f137 := Tryz.func174.trans (congrArg some (by kernel_rfl))
  f151 := Tryz.func137.trans (congrArg some (by kernel_rfl))
  f152 := Tryz.func163.trans (congrArg some (by kernel_rfl))
  f160 := Tryz.func80.trans (congrArg some (by kernel_rfl))
  f197 := Tryz.func130.trans (congrArg some (by kernel_rfl))
  f217 := Tryz.func159.trans (congrArg some (by kernel_rfl))
  f224 := Tryz.func144.trans (congrArg some (by kernel_rfl))
  f225 := Tryz.func160.trans (congrArg some (by kernel_rfl))
  f227 := Tryz.func109.trans (congrArg some (by kernel_rfl))
  f228 := Tryz.func136.trans (congrArg some (by kernel_rfl))
  f231 := Tryz.func107.trans (congrArg some (by kernel_rfl))
  f232 := Tryz.func108.trans (congrArg some (by kernel_rfl))
  f233 := Tryz.func110.trans (congrArg some (by kernel_rfl))
  f234 := Tryz.func111.trans (congrArg some (by kernel_rfl))
  f235 := Tryz.func112.trans (congrArg some (by kernel_rfl))
  f236 := Tryz.func113.trans (congrArg some (by kernel_rfl))
  f260 := Tryz.func158.trans (congrArg some (by kernel_rfl))
  f266 := Tryz.func172.trans (congrArg some (by kernel_rfl))
  f271 := Tryz.func138.trans (congrArg some (by kernel_rfl))
  t0 := Tryz.underlying0
  a0 := Tryz.isAgg0
  z0 := Tryz.sizeOf0
  v0 := Tryz.zeroValue0
  t3 := Tryz.underlying3
  a3 := Tryz.isAgg3
  z3 := Tryz.sizeOf3
  v3 := Tryz.zeroValue3
  t4 := Tryz.underlying4
  a4 := Tryz.isAgg4
  z4 := Tryz.sizeOf4
  v4 := Tryz.zeroValue4
  t5 := Tryz.underlying5
  a5 := Tryz.isAgg5
  z5 := Tryz.sizeOf5
  v5 := Tryz.zeroValue5
  t9 := Tryz.underlying9
  a9 := Tryz.isAgg9
  z9 := Tryz.sizeOf9
  v9 := Tryz.zeroValue9
  t21 := Tryz.underlying21
  a21 := Tryz.isAgg21
  z21 := Tryz.sizeOf21
  v21 := Tryz.zeroValue21
  t46 := Tryz.underlying152
  a46 := Tryz.isAgg152
  z46 := Tryz.sizeOf152
  v46 := Tryz.zeroValue152
  t105 := Tryz.underlying166
  a105 := Tryz.isAgg166
  z105 := Tryz.sizeOf166
  v105 := Tryz.zeroValue166
  t116 := Tryz.underlying145
  a116 := Tryz.isAgg145
  z116 := Tryz.sizeOf145
  t117 := Tryz.underlying146
  a117 := Tryz.isAgg146
  z117 := Tryz.sizeOf146
  v117 := Tryz.zeroValue146
  t119 := Tryz.underlying199
  a119 := Tryz.isAgg199
  z119 := Tryz.sizeOf199
  t124 := Tryz.underlying149
  a124 := Tryz.isAgg149
  z124 := Tryz.sizeOf149
  v124 := Tryz.zeroValue149
  t138 := Tryz.underlying201
  a138 := Tryz.isAgg201
  z138 := Tryz.sizeOf201
  v138 := Tryz.zeroValue201
  t139 := Tryz.underlying202
  a139 := Tryz.isAgg202
  z139 := Tryz.sizeOf202
  v139 := Tryz.zeroValue202
  g3 := by kernel_rfl
  g4 := by kernel_rfl }
def Tryz.Lx : Go.Shelf.Ren := ⟨fun | 146 => 50 | 221 => 75 | 268 => 100 | 138 => 101 | 143 => 102 | 195 => 129 | 197 => 130 | 218 => 131 | 219 => 132 | 260 => 158 | 217 => 159 | 225 => 160 | 224 => 144 | 267 => 161 | 266 => 172 | 314 => 173 | n => n, fun | 9 => 9 | 31 => 82 | 3 => 3 | 4 => 4 | 0 => 0 | 105 => 166 | 21 => 21 | 5 => 5 | 46 => 152 | 119 => 199 | 139 => 202 | 138 => 201 | 146 => 189 | 51 => 163 | n => n, fun | 1 => 3 | 3 => 6 | 4 => 7 | n => n⟩
theorem Tryz.R4 : Go.Proofs.Lays.n146 Tryz.prog Tryz.Lx := {
  mixed := by kernel_rfl
  f138 := Tryz.func101.trans (congrArg some (by kernel_rfl))
  f143 := Tryz.func102.trans (congrArg some (by kernel_rfl))
  f146 := Tryz.func50.trans (congrArg some (by kernel_rfl))
  f195 := Tryz.func129.trans (congrArg some (by kernel_rfl))
  f197 := Tryz.func130.trans (congrArg some (by kernel_rfl))
  f217 := Tryz.func159.trans (congrArg some (by kernel_rfl))
  f218 := Tryz.func131.trans (congrArg some (by kernel_rfl))
  f219 := Tryz.func132.trans (congrArg some (by kernel_rfl))
  f221 := Tryz.func75.trans (congrArg some (by kernel_rfl))
  f224 := Tryz.func144.trans (congrArg some (by kernel_rfl))
  f225 := Tryz.func160.trans (congrArg some (by kernel_rfl))
  f260 := Tryz.func158.trans (congrArg some (by kernel_rfl))
  f266 := Tryz.func172.trans (congrArg some (by kernel_rfl))
  f267 := Tryz.func161.trans (congrArg some (by kernel_rfl))
  f268 := Tryz.func100.trans (congrArg some (by kernel_rfl))
  f314 := Tryz.func173.trans (congrArg some (by kernel_rfl))
  t0 := Tryz.underlying0
  a0 := Tryz.isAgg0
  z0 := Tryz.sizeOf0
  v0 := Tryz.zeroValue0
  t3 := Tryz.underlying3
  a3 := Tryz.isAgg3
  z3 := Tryz.sizeOf3
  v3 := Tryz.zeroValue3
  t4 := Tryz.underlying4
  a4 := Tryz.isAgg4
  z4 := Tryz.sizeOf4
  v4 := Tryz.zeroValue4
  t5 := Tryz.underlying5
  a5 := Tryz.isAgg5
  z5 := Tryz.sizeOf5
  v5 := Tryz.zeroValue5
  t9 := Tryz.underlying9
  a9 := Tryz.isAgg9
  z9 := Tryz.sizeOf9
  v9 := Tryz.zeroValue9
  t21 := Tryz.underlying21
  a21 := Tryz.isAgg21
  z21 := Tryz.sizeOf21
  v21 := Tryz.zeroValue21
  t31 := Tryz.underlying82
  a31 := Tryz.isAgg82
  z31 := Tryz.sizeOf82
  v31 := Tryz.zeroValue82
  t46 := Tryz.underlying152
  a46 := Tryz.isAgg152
  z46 := Tryz.sizeOf152
  v46 := Tryz.zeroValue152
  t51 := Tryz.underlying163
  a51 := Tryz.isAgg163
  z51 := Tryz.sizeOf163
  v51 := Tryz.zeroValue163
  t105 := Tryz.underlying166
  a105 := Tryz.isAgg166
  z105 := Tryz.sizeOf166
  v105 := Tryz.zeroValue166
  t119 := Tryz.underlying199
  a119 := Tryz.isAgg199
  z119 := Tryz.sizeOf199
  t138 := Tryz.underlying201
  a138 := Tryz.isAgg201
  z138 := Tryz.sizeOf201
  v138 := Tryz.zeroValue201
  t139 := Tryz.underlying202
  a139 := Tryz.isAgg202
  z139 := Tryz.sizeOf202
  v139 := Tryz.zeroValue202
  t146 := Tryz.underlying189
  a146 := Tryz.isAgg189
  z146 := Tryz.sizeOf189
  v146 := Tryz.zeroValue189
  g1 := by kernel_rfl
  g3 := by kernel_rfl
  g4 := by kernel_rfl }
def Tryz.Lz : Go.Shelf.Ren := ⟨fun | 145 => 89 | 220 => 118 | 219 => 132 | 217 => 159 | 225 => 160 | 224 => 144 | 267 => 161 | 266 => 172 | 314 => 173 | n => n, fun | 9 => 9 | 4 => 4 | 59 => 127 | 3 => 3 | 5 => 5 | 46 => 152 | 146 => 189 | 51 => 163 | n => n, fun | 1 => 3 | n => n⟩
theorem Tryz.R5 : Go.Proofs.Lays.n145 Tryz.prog Tryz.Lz := {
  mixed := by kernel_rfl
  f145 := Tryz.func89.trans (congrArg some (by kernel_rfl))
  f217 := Tryz.func159.trans (congrArg some (by kernel_rfl))
  f219 := Tryz.func132.trans (congrArg some (by kernel_rfl))
  f220 := Tryz.func118.trans (congrArg some (by kernel_rfl))
  f224 := Tryz.func144.trans (congrArg some (by kernel_rfl))
  f225 := Tryz.func160.trans (congrArg some (by kernel_rfl))
  f266 := Tryz.func172.trans (congrArg some (by kernel_rfl))
  f267 := Tryz.func161.trans (congrArg some (by kernel_rfl))
  f314 := Tryz.func173.trans (congrArg some (by kernel_rfl))
  t3 := Tryz.underlying3
  a3 := Tryz.isAgg3
  z3 := Tryz.sizeOf3
  v3 := Tryz.zeroValue3
  t4 := Tryz.underlying4
  a4 := Tryz.isAgg4
  z4 := Tryz.sizeOf4
  v4 := Tryz.zeroValue4
  t5 := Tryz.underlying5
  a5 := Tryz.isAgg5
  z5 := Tryz.sizeOf5
  v5 := Tryz.zeroValue5
  t9 := Tryz.underlying9
  a9 := Tryz.isAgg9
  z9 := Tryz.sizeOf9
  v9 := Tryz.zeroValue9
  t46 := Tryz.underlying152
  a46 := Tryz.isAgg152
  z46 := Tryz.sizeOf152
  v46 := Tryz.zeroValue152
  t51 := Tryz.underlying163
  a51 := Tryz.isAgg163
  z51 := Tryz.sizeOf163
  v51 := Tryz.zeroValue163
  t59 := Tryz.underlying127
  a59 := Tryz.isAgg127
  z59 := Tryz.sizeOf127
  v59 := Tryz.zeroValue127
  t146 := Tryz.underlying189
  a146 := Tryz.isAgg189
  z146 := Tryz.sizeOf189
  v146 := Tryz.zeroValue189
  g1 := by kernel_rfl }
def Tryz.Ko : Go.Shelf.Ren := ⟨fun | 171 => 29 | 243 => 59 | 246 => 69 | 283 => 95 | 284 => 96 | 285 => 97 | 286 => 98 | 129 => 125 | 317 => 124 | 318 => 126 | 319 => 127 | 320 => 128 | 337 => 156 | 338 => 157 | n => n, fun | 3 => 3 | 9 => 9 | 2 => 2 | 4 => 4 | 171 => 134 | 0 => 0 | 53 => 135 | 37 => 23 | 5 => 5 | 173 => 138 | 212 => 162 | 51 => 163 | 20 => 20 | 213 => 164 | 46 => 152 | 232 => 197 | 233 => 198 | n => n, fun | 17 => 2 | 18 => 4 | 19 => 5 | n => n⟩
theorem Tryz.Pc : Go.Proofs.LaysM.n171 Tryz.prog Tryz.Ko := {
  mixed := by kernel_rfl
  f129 := Tryz.func125.trans (congrArg some (by kernel_rfl))
  f171 := Tryz.func29.trans (congrArg some (by kernel_rfl))
  f243 := Tryz.func59.trans (congrArg some (by kernel_rfl))
  f246 := Tryz.func69.trans (congrArg some (by kernel_rfl))
  f283 := Tryz.func95.trans (congrArg some (by kernel_rfl))
  f284 := Tryz.func96.trans (congrArg some (by kernel_rfl))
  f285 := Tryz.func97.trans (congrArg some (by kernel_rfl))
  f286 := Tryz.func98.trans (congrArg some (by kernel_rfl))
  f317 := Tryz.func124.trans (congrArg some (by kernel_rfl))
  f318 := Tryz.func126.trans (congrArg some (by kernel_rfl))
  f319 := Tryz.func127.trans (congrArg some (by kernel_rfl))
  f320 := Tryz.func128.trans (congrArg some (by kernel_rfl))
  f337 := Tryz.func156.trans (congrArg some (by kernel_rfl))
  f338 := Tryz.func157.trans (congrArg some (by kernel_rfl))
  t0 := Tryz.underlying0
  a0 := Tryz.isAgg0
  z0 := Tryz.sizeOf0
  v0 := Tryz.zeroValue0
  t2 := Tryz.underlying2
  a2 := Tryz.isAgg2
  z2 := Tryz.sizeOf2
  v2 := Tryz.zeroValue2
  t3 := Tryz.underlying3
  a3 := Tryz.isAgg3
  z3 := Tryz.sizeOf3
  v3 := Tryz.zeroValue3
  t4 := Tryz.underlying4
  a4 := Tryz.isAgg4
  z4 := Tryz.sizeOf4
  v4 := Tryz.zeroValue4
  t5 := Tryz.underlying5
  a5 := Tryz.isAgg5
  z5 := Tryz.sizeOf5
  v5 := Tryz.zeroValue5
  t9 := Tryz.underlying9
  a9 := Tryz.isAgg9
  z9 := Tryz.sizeOf9
  v9 := Tryz.zeroValue9
  t20 := Tryz.underlying20
  a20 := Tryz.isAgg20
  z20 := Tryz.sizeOf20
  v20 := Tryz.zeroValue20
  t37 := Tryz.underlying23
  a37 := Tryz.isAgg23
  z37 := Tryz.sizeOf23
  v37 := Tryz.zeroValue23
  t46 := Tryz.underlying152
  a46 := Tryz.isAgg152
  z46 := Tryz.sizeOf152
  v46 := Tryz.zeroValue152
  t51 := Tryz.underlying163
  a51 := Tryz.isAgg163
  z51 := Tryz.sizeOf163
  v51 := Tryz.zeroValue163
  t53 := Tryz.underlying135
  a53 := Tryz.isAgg135
  z53 := Tryz.sizeOf135
  v53 := Tryz.zeroValue135
  t171 := Tryz.underlying134
  a171 := Tryz.isAgg134
  z171 := Tryz.sizeOf134
  v171 := Tryz.zeroValue134
  t173 := Tryz.underlying138
  a173 := Tryz.isAgg138
  z173 := Tryz.sizeOf138
  v173 := Tryz.zeroValue138
  t212 := Tryz.underlying162
  a212 := Tryz.isAgg162
  z212 := Tryz.sizeOf162
  v212 := Tryz.zeroValue162
  t213 := Tryz.underlying164
  a213 := Tryz.isAgg164
  z213 := Tryz.sizeOf164
  t232 := Tryz.underlying197
  a232 := Tryz.isAgg197
  z232 := Tryz.sizeOf197
  v232 := Tryz.zeroValue197
  t233 := Tryz.underlying198
  a233 := Tryz.isAgg198
  z233 := Tryz.sizeOf198
  v233 := Tryz.zeroValue198
  g17 := by kernel_rfl
  g18 := by kernel_rfl
  g19 := by kernel_rfl
  i0 := by kernel_rfl
  i2 := by kernel_rfl
  i3 := by kernel_rfl
  i4 := by kernel_rfl
  i5 := by kernel_rfl
  i9 := by kernel_rfl
  i20 := by kernel_rfl
  i37 := by kernel_rfl
  i46 := by kernel_rfl
  i51 := by kernel_rfl
  i53 := by kernel_rfl
  i171 := by kernel_rfl
  i173 := by kernel_rfl
  i212 := by kernel_rfl
  i232 := by kernel_rfl
  i233 := by kernel_rfl
  m17 := by kernel_rfl
  m18 := by kernel_rfl
  m19 := by kernel_rfl }
def Tryz.Kp : Go.Shelf.Ren := ⟨fun | 172 => 33 | 244 => 61 | 245 => 62 | 247 => 83 | 279 => 84 | 280 => 85 | 281 => 86 | 282 => 87 | 287 => 114 | 316 => 115 | 171 => 29 | 205 => 116 | 321 => 139 | 322 => 140 | 243 => 59 | 246 => 69 | 283 => 95 | 284 => 96 | 285 => 97 | 286 => 98 | 129 => 125 | 317 => 124 | 318 => 126 | 319 => 127 | 320 => 128 | 337 => 156 | 338 => 157 | n => n, fun | 9 => 9 | 3 => 3 | 75 => 65 | 76 => 66 | 4 => 4 | 5 => 5 | 167 => 119 | 37 => 23 | 0 => 0 | 85 => 120 | 2 => 2 | 168 => 122 | 53 => 135 | 175 => 150 | 46 => 152 | 210 => 154 | 127 => 172 | 145 => 175 | 143 => 173 | 21 => 21 | 171 => 134 | 173 => 138 | 212 => 162 | 51 => 163 | 20 => 20 | 213 => 164 | 232 => 197 | 233 => 198 | 80 => 102 | n => n, fun | 15 => 0 | 16 => 1 | 17 => 2 | 18 => 4 | 19 => 5 | n => n⟩
theorem Tryz.Pd : Go.Proofs.LaysC.n172 Tryz.prog Tryz.Kp := {
  mixed := by kernel_rfl
  f129 := Tryz.func125.trans (congrArg some (by kernel_rfl))
  f171 := Tryz.func29.trans (congrArg some (by kernel_rfl))
  f172 := Tryz.func33.trans (congrArg some (by kernel_rfl))
  f205 := Tryz.func116.trans (congrArg some (by kernel_rfl))
  f243 := Tryz.func59.trans (congrArg some (by kernel_rfl))
  f244 := Tryz.func61.trans (congrArg some (by kernel_rfl))
  f245 := Tryz.func62.trans (congrArg some (by kernel_rfl))
  f246 := Tryz.func69.trans (congrArg some (by kernel_rfl))
  f247 := Tryz.func83.trans (congrArg some (by kernel_rfl))
  f279 := Tryz.func84.trans (congrArg some (by kernel_rfl))
  f280 := Tryz.func85.trans (congrArg some (by kernel_rfl))
  f281 := Tryz.func86.trans (congrArg some (by kernel_rfl))
  f282 := Tryz.func87.trans (congrArg some (by kernel_rfl))
  f283 := Tryz.func95.trans (congrArg some (by kernel_rfl))
  f284 := Tryz.func96.trans (congrArg some (by kernel_rfl))
  f285 := Tryz.func97.trans (congrArg some (by kernel_rfl))
  f286 := Tryz.func98.trans (congrArg some (by kernel_rfl))
  f287 := Tryz.func114.trans (congrArg some (by kernel_rfl))
  f316 := Tryz.func115.trans (congrArg some (by kernel_rfl))
  f317 := Tryz.func124.trans (congrArg some (by kernel_rfl))
  f318 := Tryz.func126.trans (congrArg some (by kernel_rfl))
  f319 := Tryz.func127.trans (congrArg some (by kernel_rfl))
  f320 := Tryz.func128.trans (congrArg some (by kernel_rfl))
  f321 := Tryz.func139.trans (congrArg some (by kernel_rfl))
  f322 := Tryz.func140.trans (congrArg some (by kernel_rfl))
  f337 := Tryz.func156.trans (congrArg some (by kernel_rfl))
  f338 := Tryz.func157.trans (congrArg some (by kernel_rfl))
  t0 := Tryz.underlying0
  a0 := Tryz.isAgg0
  z0 := Tryz.sizeOf0
  v0 := Tryz.zeroValue0
  t2 := Tryz.underlying2
  a2 := Tryz.isAgg2
  z2 := Tryz.sizeOf2
  v2 := Tryz.zeroValue2
  t3 := Tryz.underlying3
  a3 := Tryz.isAgg3
  z3 := Tryz.sizeOf3
  v3 := Tryz.zeroValue3
  t4 := Tryz.underlying4
  a4 := Tryz.isAgg4
  z4 := Tryz.sizeOf4
  v4 := Tryz.zeroValue4
  t5 := Tryz.underlying5
  a5 := Tryz.isAgg5
  z5 := Tryz.sizeOf5
  v5 := Tryz.zeroValue5
  t9 := Tryz.underlying9
  a9 := Tryz.isAgg9
  z9 := Tryz.sizeOf9
  v9 := Tryz.zeroValue9
  t20 := Tryz.underlying20
  a20 := Tryz.isAgg20
  z20 := Tryz.sizeOf20
  v20 := Tryz.zeroValue20
  t21 := Tryz.underlying21
  a21 := Tryz.isAgg21
  z21 := Tryz.sizeOf21
  v21 := Tryz.zeroValue21
  t37 := Tryz.underlying23
  a37 := Tryz.isAgg23
  z37 := Tryz.sizeOf23
  v37 := Tryz.zeroValue23
  t46 := Tryz.underlying152
  a46 := Tryz.isAgg152
  z46 := Tryz.sizeOf152
  v46 := Tryz.zeroValue152
  t51 := Tryz.underlying163
  a51 := Tryz.isAgg163
  z51 := Tryz.sizeOf163
  v51 := Tryz.zeroValue163
  t53 := Tryz.underlying135
  a53 := Tryz.isAgg135
  z53 := Tryz.sizeOf135
  v53 := Tryz.zeroValue135
  t75 := Tryz.underlying65
  a75 := Tryz.isAgg65
  z75 := Tryz.sizeOf65
  v75 := Tryz.zeroValue65
  t76 := Tryz.underlying66
  a76 := Tryz.isAgg66
  z76 := Tryz.sizeOf66
  v76 := Tryz.zeroValue66
  t85 := Tryz.underlying120
  a85 := Tryz.isAgg120
  z85 := Tryz.sizeOf120
  v85 := Tryz.zeroValue120
  t127 := Tryz.underlying172
  a127 := Tryz.isAgg172
  z127 := Tryz.sizeOf172
  v127 := Tryz.zeroValue172
  t143 := Tryz.underlying173
  a143 := Tryz.isAgg173
  z143 := Tryz.sizeOf173
  v143 := Tryz.zeroValue173
  t145 := Tryz.underlying175
  a145 := Tryz.isAgg175
  z145 := Tryz.sizeOf175
  v145 := Tryz.zeroValue175
  t167 := Tryz.underlying119
  a167 := Tryz.isAgg119
  z167 := Tryz.sizeOf119
  v167 := Tryz.zeroValue119
  t168 := Tryz.underlying122
  a168 := Tryz.isAgg122
  z168 := Tryz.sizeOf122
  v168 := Tryz.zeroValue122
  t171 := Tryz.underlying134
  a171 := Tryz.isAgg134
  z171 := Tryz.sizeOf134
  v171 := Tryz.zeroValue134
  t173 := Tryz.underlying138
  a173 := Tryz.isAgg138
  z173 := Tryz.sizeOf138
  v173 := Tryz.zeroValue138
  t175 := Tryz.underlying150
  a175 := Tryz.isAgg150
  z175 := Tryz.sizeOf150
  v175 := Tryz.zeroValue150
  t210 := Tryz.underlying154
  a210 := Tryz.isAgg154
  z210 := Tryz.sizeOf154
  v210 := Tryz.zeroValue154
  t212 := Tryz.underlying162
  a212 := Tryz.isAgg162
  z212 := Tryz.sizeOf162
  v212 := Tryz.zeroValue162
  t213 := Tryz.underlying164
  a213 := Tryz.isAgg164
  z213 := Tryz.sizeOf164
  t232 := Tryz.underlying197
  a232 := Tryz.isAgg197
  z232 := Tryz.sizeOf197
  v232 := Tryz.zeroValue197
  t233 := Tryz.underlying198
  a233 := Tryz.isAgg198
  z233 := Tryz.sizeOf198
  v233 := Tryz.zeroValue198
  g15 := by kernel_rfl
  g16 := by kernel_rfl
  g17 := by kernel_rfl
  g18 := by kernel_rfl
  g19 := by kernel_rfl
  t80 := Tryz.underlying102
  a80 := Tryz.isAgg102
  z80 := Tryz.sizeOf102
  v80 := Tryz.zeroValue102
  i0 := by kernel_rfl
  i2 := by kernel_rfl
  i3 := by kernel_rfl
  i4 := by kernel_rfl
  i5 := by kernel_rfl
  i9 := by kernel_rfl
  i20 := by kernel_rfl
  i21 := by kernel_rfl
  i37 := by kernel_rfl
  i46 := by kernel_rfl
  i51 := by kernel_rfl
  i53 := by kernel_rfl
  i75 := by kernel_rfl
  i76 := by kernel_rfl
  i80 := by kernel_rfl
  i85 := by kernel_rfl
  i127 := by kernel_rfl
  i143 := by kernel_rfl
  i145 := by kernel_rfl
  i167 := by kernel_rfl
  i168 := by kernel_rfl
  i171 := by kernel_rfl
  i173 := by kernel_rfl
  i175 := by kernel_rfl
  i210 := by kernel_rfl
  i212 := by kernel_rfl
  i232 := by kernel_rfl
  i233 := by kernel_rfl
  m15 := by kernel_rfl
  m16 := by kernel_rfl
  m17 := by kernel_rfl
  m18 := by kernel_rfl
  m19 := by kernel_rfl
  c0 := by kernel_rfl
  c2 := by kernel_rfl
  c3 := by kernel_rfl
  c4 := by kernel_rfl
  c5 := by kernel_rfl
  c9 := by kernel_rfl
  c20 := by kernel_rfl
  c21 := by kernel_rfl
  c37 := by kernel_rfl
  c46 := by kernel_rfl
  c51 := by kernel_rfl
  c53 := by kernel_rfl
  c75 := by kernel_rfl
  c76 := by kernel_rfl
  c80 := by kernel_rfl
  c85 := by kernel_rfl
  c127 := by kernel_rfl
  c143 := by kernel_rfl
  c145 := by kernel_rfl
  c167 := by kernel_rfl
  c168 := by kernel_rfl
  c171 := by kernel_rfl
  c173 := by kernel_rfl
  c175 := by kernel_rfl
  c210 := by kernel_rfl
  c212 := by kernel_rfl
  c213 := by kernel_rfl
  c232 := by kernel_rfl
  c233 := by kernel_rfl }
def Tryz.LA : Go.Shelf.Ren := ⟨fun | 106 => 94 | 213 => 123 | 265 => 155 | n => n, fun | 9 => 9 | 3 => 3 | n => n, fun | n => n⟩
theorem Tryz.R6 : Go.Proofs.Lays.n106 Tryz.prog Tryz.LA := {
  mixed := by kernel_rfl
  f106 := Tryz.func94.trans (congrArg some (by kernel_rfl))
  f213 := Tryz.func123.trans (congrArg some (by kernel_rfl))
  f265 := Tryz.func155.trans (congrArg some (by kernel_rfl))
  t3 := Tryz.underlying3
  a3 := Tryz.isAgg3
  z3 := Tryz.sizeOf3
  v3 := Tryz.zeroValue3
  t9 := Tryz.underlying9
  a9 := Tryz.isAgg9
  z9 := Tryz.sizeOf9
  v9 := Tryz.zeroValue9 }
def Tryz.MH : Go.Shelf.Ren := ⟨fun | 6 => 92 | 15 => 122 | 14 => 121 | 28 => 154 | 29 => 125 | 20 => 146 | 21 => 147 | 22 => 148 | 23 => 149 | 24 => 150 | 25 => 151 | 26 => 152 | 27 => 153 | 46 => 167 | 47 => 168 | 48 => 169 | 49 => 170 | 50 => 171 | 57 => 176 | n => n, fun | 22 => 24 | 24 => 56 | 25 => 133 | 3 => 3 | 39 => 152 | 0 => 0 | 53 => 163 | 55 => 135 | 4 => 4 | 46 => 180 | 45 => 179 | 50 => 184 | 5 => 5 | 9 => 9 | 66 => 191 | 70 => 195 | 76 => 205 | 77 => 206 | n => n, fun | n => n⟩
theorem Tryz.IQ : Go.Proofs.SlLaysF0.n6 Tryz.prog Tryz.MH := {
  mixed := by kernel_rfl
  f6 := ⟨Tryz.f92.name, by decide, Tryz.func92.trans (congrArg some (by kernel_rfl))⟩
  f14 := ⟨Tryz.f121.name, by decide, Tryz.func121.trans (congrArg some (by kernel_rfl))⟩
  f15 := Tryz.func122.trans (congrArg some (by kernel_rfl))
  f20 := ⟨Tryz.f146.name, by decide, Tryz.func146.trans (congrArg some (by kernel_rfl))⟩
  f21 := ⟨Tryz.f147.name, by decide, Tryz.func147.trans (congrArg some (by kernel_rfl))⟩
  f22 := ⟨Tryz.f148.name, by decide, Tryz.func148.trans (congrArg some (by kernel_rfl))⟩
  f23 := ⟨Tryz.f149.name, by decide, Tryz.func149.trans (congrArg some (by kernel_rfl))⟩
  f24 := ⟨Tryz.f150.name, by decide, Tryz.func150.trans (congrArg some (by kernel_rfl))⟩
  f25 := ⟨Tryz.f151.name, by decide, Tryz.func151.trans (congrArg some (by kernel_rfl))⟩
  f26 := ⟨Tryz.f152.name, by decide, Tryz.func152.trans (congrArg some (by kernel_rfl))⟩
  f27 := ⟨Tryz.f153.name, by decide, Tryz.func153.trans (congrArg some (by kernel_rfl))⟩
  f28 := Tryz.func154.trans (congrArg some (by kernel_rfl))
  f29 := Tryz.func125.trans (congrArg some (by kernel_rfl))
  f46 := ⟨Tryz.f167.name, by decide, Tryz.func167.trans (congrArg some (by kernel_rfl))⟩
  f47 := Tryz.func168.trans (congrArg some (by kernel_rfl))
  f48 := Tryz.func169.trans (congrArg some (by kernel_rfl))
  f49 := ⟨Tryz.f170.name, by decide, Tryz.func170.trans (congrArg some (by kernel_rfl))⟩
  f50 := ⟨Tryz.f171.name, by decide, Tryz.func171.trans (congrArg some (by kernel_rfl))⟩
  f57 := ⟨Tryz.f176.name, by decide, Tryz.func176.trans (congrArg some (by kernel_rfl))⟩
  t0 := Tryz.underlying0
  a0 := Tryz.isAgg0
  z0 := Tryz.sizeOf0
  v0 := Tryz.zeroValue0
  t3 := Tryz.underlying3
  a3 := Tryz.isAgg3
  z3 := Tryz.sizeOf3
  v3 := Tryz.zeroValue3
  t4 := Tryz.underlying4
  a4 := Tryz.isAgg4
  z4 := Tryz.sizeOf4
  v4 := Tryz.zeroValue4
  t5 := Tryz.underlying5
  a5 := Tryz.isAgg5
  z5 := Tryz.sizeOf5
  v5 := Tryz.zeroValue5
  t9 := Tryz.underlying9
  a9 := Tryz.isAgg9
  z9 := Tryz.sizeOf9
  v9 := Tryz.zeroValue9
  t22 := Tryz.underlying24
  a22 := Tryz.isAgg24
  z22 := Tryz.sizeOf24
  v22 := Tryz.zeroValue24
  t25 := Tryz.underlying133
  a25 := Tryz.isAgg133
  z25 := Tryz.sizeOf133
  v25 := Tryz.zeroValue133
  t39 := Tryz.underlying152
  a39 := Tryz.isAgg152
  z39 := Tryz.sizeOf152
  v39 := Tryz.zeroValue152
  t45 := Tryz.underlying179
  a45 := Tryz.isAgg179
  z45 := Tryz.sizeOf179
  v45 := Tryz.zeroValue179
  t46 := Tryz.underlying180
  a46 := Tryz.isAgg180
  z46 := Tryz.sizeOf180
  v46 := Tryz.zeroValue180
  t50 := Tryz.underlying184
  a50 := Tryz.isAgg184
  z50 := Tryz.sizeOf184
  v50 := Tryz.zeroValue184
  t53 := Tryz.underlying163
  a53 := Tryz.isAgg163
  z53 := Tryz.sizeOf163
  v53 := Tryz.zeroValue163
  t55 := Tryz.underlying135
  a55 := Tryz.isAgg135
  z55 := Tryz.sizeOf135
  v55 := Tryz.zeroValue135
  t66 := Tryz.underlying191
  a66 := Tryz.isAgg191
  z66 := Tryz.sizeOf191
  v66 := Tryz.zeroValue191
  t70 := Tryz.underlying195
  a70 := Tryz.isAgg195
  z70 := Tryz.sizeOf195
  v70 := Tryz.zeroValue195
  t76 := Tryz.underlying205
  a76 := Tryz.isAgg205
  z76 := Tryz.sizeOf205
  v76 := Tryz.zeroValue205
  t77 := Tryz.underlying206
  a77 := Tryz.isAgg206
  z77 := Tryz.sizeOf206
  v77 := Tryz.zeroValue206 }
def Tryz.O0 : Go.Shelf.Ren := ⟨fun | 4 => 88 | 5 => 117 | 6 => 141 | 7 => 142 | 8 => 143 | 9 => 144 | 10 => 145 | 11 => 165 | 12 => 166 | n => n, fun | 22 => 23 | 4 => 4 | 3 => 3 | 0 => 0 | 5 => 5 | 29 => 152 | 9 => 9 | 31 => 189 | 30 => 163 | n => n, fun | 0 => 3 | n => n⟩
theorem Tryz.WA : Go.Proofs.SlLaysT.n4 Tryz.prog Tryz.O0 := {
  mixed := by kernel_rfl
  f4 := Tryz.func88.trans (congrArg some (by kernel_rfl))
  f5 := Tryz.func117.trans (congrArg some (by kernel_rfl))
  f6 := Tryz.func141.trans (congrArg some (by kernel_rfl))
  f7 := Tryz.func142.trans (congrArg some (by kernel_rfl))
  f8 := Tryz.func143.trans (congrArg some (by kernel_rfl))
  f9 := Tryz.func144.trans (congrArg some (by kernel_rfl))
  f10 := Tryz.func145.trans (congrArg some (by kernel_rfl))
  f11 := Tryz.func165.trans (congrArg some (by kernel_rfl))
  f12 := Tryz.func166.trans (congrArg some (by kernel_rfl))
  t0 := Tryz.underlying0
  a0 := Tryz.isAgg0
  z0 := Tryz.sizeOf0
  v0 := Tryz.zeroValue0
  t3 := Tryz.underlying3
  a3 := Tryz.isAgg3
  z3 := Tryz.sizeOf3
  v3 := Tryz.zeroValue3
  t4 := Tryz.underlying4
  a4 := Tryz.isAgg4
  z4 := Tryz.sizeOf4
  v4 := Tryz.zeroValue4
  t5 := Tryz.underlying5
  a5 := Tryz.isAgg5
  z5 := Tryz.sizeOf5
  v5 := Tryz.zeroValue5
  t9 := Tryz.underlying9
  a9 := Tryz.isAgg9
  z9 := Tryz.sizeOf9
  v9 := Tryz.zeroValue9
  t22 := Tryz.underlying23
  a22 := Tryz.isAgg23
  z22 := Tryz.sizeOf23
  v22 := Tryz.zeroValue23
  t29 := Tryz.underlying152
  a29 := Tryz.isAgg152
  z29 := Tryz.sizeOf152
  v29 := Tryz.zeroValue152
  t30 := Tryz.underlying163
  a30 := Tryz.isAgg163
  z30 := Tryz.sizeOf163
  v30 := Tryz.zeroValue163
  t31 := Tryz.underlying189
  a31 := Tryz.isAgg189
  z31 := Tryz.sizeOf189
  v31 := Tryz.zeroValue189
  g0 := by kernel_rfl }
end Go.Proofs
namespace Go.Idl
set_option maxHeartbeats 8000000
set_option maxRecDepth 60000
set_option pp.deepTerms false
open Go Go.Proofs.Tryz Go.RowKit Go.Proofs Go.Shelf
variable {H : A0} {K : An → A0 → Prop}
@[go_sem] theorem Yk {b : Bool} {t : TypeId} : FZ prog .eql 65 (FH t b) = some (True, .v (.bool (!b))) := NX underlying65 rfl
noncomputable def F29 (n : Int) : Option Str := gd (-9223372036854775808 ≤ n ∧ n ≤ 9223372036854775807) (some (Lib.itoa n))
theorem Kq (n : Int) (hV : VOK prog H) {r : Str} (h : F29 n = some r) (hK : K (.ret (.v (str r))) H) : A2 prog 29 [.v (.int .i64 n)] H K := by
 obtain ⟨⟨h0, h1⟩, h⟩ := A8.1 h; cases h; exact Lc Go.Proofs.Tryz.Pc rfl (by kernel_rfl) hV n h0 h1 hK
noncomputable def F89 (s t : List UInt8) : Option (List UInt8 × List UInt8 × Bool) := gd ((s.length : Int) < 4294967281) (some (Lib.cut s t))
theorem TB (s t : List UInt8) (hV : VOK prog H) {r : List UInt8 × List UInt8 × Bool} (h : F89 s t = some r) (hK : K (.ret (.tu [.v (str r.1), .v (str r.2.1), .v (.bool r.2.2)])) H) : A2 prog 89 [.v (str s), .v (str t)] H K := by
 obtain ⟨h0, h⟩ := A8.1 h; cases h; exact Mo Go.Proofs.Tryz.R5 rfl (by kernel_rfl) (by kernel_rfl) hV s t (by omega) hK
noncomputable def F33 (s : List UInt8) : Option (Int × Bool) := gd ((s.length : Int) ≤ 281474976710656) (some (C9 s))
theorem MI (s : List UInt8) (hV : VOK prog H) {r : Int × Bool} (h : F33 s = some r) (hK : K (.ret (.tu [.v (.int .i64 r.1), FH 122 r.2])) H) : A2 prog 33 [.v (str s)] H K := by
 obtain ⟨h0, h⟩ := A8.1 h; cases h; exact Ld Go.Proofs.Tryz.Pd rfl rfl (by kernel_rfl) hV s (by omega) hK
noncomputable def F80 (s t : List UInt8) : Option (List UInt8) := gd ((s.length : Int) ≤ 9223372036854775807) (gd ((t.length : Int) < 4294967281 ∧ ∀ b, b ∈ t → b.toNat < 128) (some (Lib.trimS s t)))
theorem MJ (s t : List UInt8) {r : List UInt8} (h : F80 s t = some r) (hK : K (.ret (.v (str r))) H) : A2 prog 80 [.v (str s), .v (str t)] H K := by
 obtain ⟨h0, h⟩ := A8.1 h; obtain ⟨⟨h1, h2⟩, h⟩ := A8.1 h; cases h; exact Lu Go.Proofs.Tryz.R3 rfl (fun w => by first | exact zeroValue145 w | kernel_rfl) (by kernel_rfl) (by kernel_rfl) s t (by omega) (by omega) h2 hK
noncomputable def F50 (s t : List UInt8) : Option (List (List UInt8)) := gd ((s.length : Int) < 4294967281) (gd (1 ≤ (t.length : Int)) (some (Lib.split s t)))
theorem TC (s t : List UInt8) (hV : VOK prog H) {r : List (List UInt8)} (h : F50 s t = some r) (hK : K (.ret (.sl 1 (r.map fun x => [.v (str x)]))) H) : A2 prog 50 [.v (str s), .v (str t)] H K := by
 obtain ⟨h0, h⟩ := A8.1 h; obtain ⟨h1, h⟩ := A8.1 h; cases h; exact Kn Go.Proofs.Tryz.R4 rfl (by kernel_rfl) (by kernel_rfl) (by kernel_rfl) hV s t (by omega) (by omega) hK
noncomputable def F88 (s t : List UInt8) : Option (List UInt8 × List UInt8 × Bool) := gd ((s.length : Int) < 4294967281) (gd (2 ≤ (t.length : Int) ∧ (t.length : Int) ≤ 1000000) (some (IP s t)))
theorem TD (s t : List UInt8) (hV : VOK prog H) {r : List UInt8 × List UInt8 × Bool} (h : F88 s t = some r) (hK : K (.ret (.tu [.sl 1 (r.1.map fun x => [.v (.int .u8 x.toNat)]), .sl 1 (r.2.1.map fun x => [.v (.int .u8 x.toNat)]), .v (.bool r.2.2)])) H) :
    A2 prog 88 [.sl 1 (s.map fun x => [.v (.int .u8 x.toNat)]), .sl 1 (t.map fun x => [.v (.int .u8 x.toNat)])] H K := by
 obtain ⟨h0, h⟩ := A8.1 h; obtain ⟨h1, h⟩ := A8.1 h; cases h; exact Lv Go.Proofs.Tryz.WA rfl (by kernel_rfl) (by kernel_rfl) hV s t (by omega) (by omega) (by omega) hK
noncomputable def TE (s : List UInt8) : Option (List UInt8) := gd ((s.length : Int) ≤ 1000000000) (some s)
theorem R7 (s : List UInt8) {r : List UInt8} (h : TE s = some r) (hK : K (.ret (.sl 1 (r.map fun x => [.v (.int .u8 x.toNat)]))) H) : A2 prog 120 [.sl 1 (s.map fun x => [.v (.int .u8 x.toNat)])] H K := by
 obtain ⟨h0, h⟩ := A8.1 h; cases h; have hnl : NB H.next (.sl 1 (s.map fun x => [.v (.int .u8 x.toNat)])) := by first | exact nbA | exact BY | exact BN
 refine DZ (N := 8) func120 (by kernel_rfl) rfl (by kernel_rfl) (by kernel_rfl) fun hw hbd hnb => ?_; clear hnb; simp (maxSteps := 1000000) (disch := omega) [go_sem]; refine L7 rfl (by kernel_rfl) underlying23 (by simp [go_sem]; exact ⟨rfl, rfl⟩) rfl (.inl rfl) fun b hb => ?_; simp (maxSteps := 1000000) (disch := omega) [go_sem]; refine D4 ?_ ?_ <;> intro hc <;> (try simp at hc)
 ·simp (maxSteps := 1000000) (disch := omega) [go_sem]; have e : s = [] := by simpa using hb hc
  subst e; exact EW (J := H) (Ext.refl hw).DN (.wk _ _ (.nil 1) hnl) hK
 ·simp (maxSteps := 1000000) (disch := omega) [go_sem]; refine GG (sz := 1) (rs := []) rfl (by simp [bsI, underlying23, Wc, Ml, Value.cells, Value.oneCell', rep, El]) ?_; simp (maxSteps := 1000000) (disch := omega) [go_sem]; exact EW (J := H) ((Ext.refl hw).new _ |>.set (Nat.le_refl _) _).DN (.row (hw _ (Nat.le_refl _)) (by simp [go_sem]) (by simp) hnl) hK
def F57 (s : Str) : Option Str := gd ((s.length : Int) ≤ 1000000) (some (s.map Cf))
theorem Gi (b : UInt8) : (65 ≤ (b.toNat : Int) ∧ (b.toNat : Int) ≤ 90 → ((Cf b).toNat : Int) = (b.toNat : Int) + 97 - 65) ∧ (¬ (65 ≤ (b.toNat : Int) ∧ (b.toNat : Int) ≤ 90) → Cf b = b) := by
 constructor
 ·rintro ⟨h1, h2⟩
  have e : (UInt8.ofNat (b.toNat + 32)).toNat = b.toNat + 32 := by simp [UInt8.toNat_ofNat']; omega
  unfold Cf; rw [if_pos (by omega), e]; omega
 ·intro h; unfold Cf; rw [if_neg (by omega)]
def Dj (s : Str) (i : Nat) : List IV := (((s.take i).map Cf) ++ s.drop i).map fun x => .v (.int .u8 x.toNat)
theorem JK (s : Str) (i : Nat) : (Dj s i).length = s.length := by simp [Dj]; omega
theorem JL (s : Str) (i : Nat) (h : i < s.length) : (Dj s i)[i]? = some (.v (.int .u8 s[i].toNat)) := by
 have hl : ((s.take i).map Cf).length = i := by simp; omega
 unfold Dj; rw [List.getElem?_map, List.getElem?_append_right (by omega), hl, Nat.sub_self, List.getElem?_drop]; simp [h]
theorem JM (s : Str) (i : Nat) (h : i < s.length) : (Dj s i).set i (.v (.int .u8 (Cf s[i]).toNat)) = Dj s (i + 1) := by
 have hl : ((s.take i).map Cf).length = i := by simp; omega
 unfold Dj; rw [List.take_succ_eq_append_getElem h, List.drop_eq_getElem_cons h]; simp only [List.map_append, List.map_cons, List.map_nil]; rw [List.set_append_right _ _ (by simp; omega)]; simp [List.length_take, Nat.min_eq_left (Nat.le_of_lt h)]
theorem IS (s : Str) (i : Nat) (h : i < s.length) (e : Cf s[i] = s[i]) : Dj s i = Dj s (i + 1) := by
 rw [← JM s i h, e]; apply List.ext_getElem?; intro j; by_cases hj : i = j
 ·subst hj; rw [JL s i h, List.getElem?_set_self (by rw [JK]; exact h)]
 ·rw [List.getElem?_set_ne hj]
set_option pp.deepTerms false in
set_option maxRecDepth 8000 in
theorem FL (s : Str) {r : Str} (h : F57 s = some r) (hK : K (.ret (.v (str r))) H) : A2 prog 57 [.v (str s)] H K := by
 obtain ⟨hs, h⟩ := A8.1 h; cases h; refine DZ (N := 30) func57 (by kernel_rfl) rfl (by kernel_rfl) (by kernel_rfl) fun hw hbd hnb => ?_; simp (maxSteps := 1000000) (disch := omega) [go_sem]; refine IJ s rfl (by kernel_rfl) underlying9 underlying23 underlying5 (by simp [go_sem]) ?_; simp (maxSteps := 1000000) (disch := omega) [go_sem]; refine GK (fun tm' H' => ∃ i : Nat, tm' 3 = .bs H.next 0 s.length ∧ tm' 8 = .bs H.next 0 s.length ∧ tm' 9 = .v (.int .i64 s.length) ∧ tm' 10 = .v (.int .i64 i) ∧ i ≤ s.length ∧ H'.obj H.next = some (.cells (Dj s i)) ∧ Ext H H' ∧ H.next < H'.next) (fun tm' _ => s.length - (intOf (tm' 10)).toNat) (.same ?_) ?_
 ·exact ⟨0, by simp [go_sem], by simp [go_sem], by simp [go_sem], by simp [go_sem], by omega, by simp [go_sem, Dj], (Ext.refl hw).new _, by simp [go_sem]⟩
 rintro I' μ' hI hμ tm' H' ⟨i, h3, h8, h9, h10, hi, ho, he, hn⟩
 refine AK _ (by kernel_rfl) _ _ _ ?_; simp (maxSteps := 1000000) (disch := omega) [go_sem, h3, h8, h9, h10]; refine D4 ?_ ?_ <;> intro hc <;> (try simp at hc)
 ·have hl := JK s i; have hg := JL s i hc; have hg' : (Dj s i).getD i .any = .v (.int .u8 s[i].toNat) := by rw [List.getD_eq_getElem?_getD, hg]; rfl
  simp (maxSteps := 1000000) (disch := omega) [go_sem, h3, h8, h9, h10, ho, hl]; have e1 : (Dj s i)[i]'(by rw [hl]; exact hc) = .v (.int .u8 s[i].toNat) := by
   rw [List.getElem?_eq_getElem (by rw [hl]; exact hc)] at hg; simpa using hg
  simp (maxSteps := 1000000) (disch := omega) [go_sem, h3, h8, h9, h10, ho, hl, e1]
  (first | refine G7 ?_ ?_ | refine HP ?_ ?_) <;> intro g1 <;> (try simp at g1)
  ·simp (maxSteps := 1000000) (disch := omega) [go_sem, h3, h8, h9, h10, ho, hl, e1]; refine D4 ?_ ?_ <;> intro g2 <;> (try simp at g2)
   ·simp (maxSteps := 1000000) (disch := omega) [go_sem, h3, h8, h9, h10, ho, hl, e1]; have hlb := (Gi s[i]).1 ⟨g1, g2⟩; refine .of hI hμ ⟨i + 1, by simp [go_sem, h3], by simp [go_sem, h8], by simp [go_sem, h9], by simp [go_sem], by omega, ?_, he.set (Nat.le_refl _) _, hn⟩ (by simp [go_sem, h10]; omega); rw [← JM s i hc, hlb]; rw [List.set_eq_take_append_cons_drop, if_pos (by rw [hl]; exact hc)]; simp [go_sem]
   ·simp (maxSteps := 1000000) (disch := omega) [go_sem, h3, h8, h9, h10, ho, hl, e1]; have hlb := (Gi s[i]).2 (fun q => by omega); exact .of hI hμ ⟨i + 1, by simp [go_sem, h3], by simp [go_sem, h8], by simp [go_sem, h9], by simp [go_sem], by omega, by rw [← IS s i hc hlb]; exact ho, he, hn⟩ (by simp [go_sem, h10]; omega)
  ·simp (maxSteps := 1000000) (disch := omega) [go_sem, h3, h8, h9, h10, ho, hl, e1]; have hlb := (Gi s[i]).2 (fun q => by omega); exact .of hI hμ ⟨i + 1, by simp [go_sem, h3], by simp [go_sem, h8], by simp [go_sem, h9], by simp [go_sem], by omega, by rw [← IS s i hc hlb]; exact ho, he, hn⟩ (by simp [go_sem, h10]; omega)
 ·simp (maxSteps := 1000000) (disch := omega) [go_sem, h3, h8, h9, h10]; have e : i = s.length := by omega
  subst e; have hL : Dj s s.length = (s.map Cf).map fun x => IV.v (.int .u8 x.toNat) := by simp [Dj]
  rw [hL] at ho; refine Aj.gh (Gh.QW (d := 28) (k := H.next) (n := s.length) ho (by simp [go_sem]) (by simp) (by simp only [D5]; omega)) true (CH (by kernel_rfl) ?_); generalize s.map Cf = q at hK ⊢; simp (maxSteps := 1000000) (disch := omega) [go_sem]; refine AP (he.del (Nat.le_refl _)) (.v _) ?_; simp only [Function.comp_def, Option.getD_some, Int.toNat_natCast, UInt8.ofNat_toNat, List.map_id']; exact hK
def Ci (_ : Unit) : List PanicEntry := [{ v := .iface 95 (.agg #[]), recovered := false }]
theorem CE {c : Bool} (hc : c = true) (hK : K (.ret (.tu [])) H) : A2 prog 32 [.v (.bool c)] H K := by
 subst hc; refine Aa (N := 6) func32 (by kernel_rfl) rfl (by kernel_rfl) (by kernel_rfl) fun cb hcb hw hbd hnb => ?_; subst hcb; refine AK _ (by kernel_rfl) _ _ _ ?_; simp -implicitDefEqProofs [go_sem]; exact AP (.refl hw) (BL .nil) hK
theorem Bn {c : Bool} (hc : c = false) (hP : K (.pan (Ci ())) H) : A2 prog 32 [.v (.bool c)] H K := by
 subst hc; refine Aa (N := 6) func32 (by kernel_rfl) rfl (by kernel_rfl) (by kernel_rfl) fun cb hcb hw hbd hnb => ?_; subst hcb; refine AK _ (by kernel_rfl) _ _ _ ?_; simp -implicitDefEqProofs [go_sem, bdP]; refine (show Aj prog 6 _ _ _ _ _ from ?_); refine Lq rfl (by kernel_rfl) (t := 95) (y := .agg #[]) (by simp [go_sem, vOf]) ?_; simp -implicitDefEqProofs [go_sem]; exact .inr hP
theorem R8 {Q : An → FrameMode → A0 → Prop} {kd ke : Nat} (hQ : Q (.ret (.tu [])) .returning H) : AX prog 63 [.p kd 0, .p ke 0] .returning H Q := by
 refine Ef (N := 13) func63 (by kernel_rfl) rfl (by kernel_rfl) (by kernel_rfl) fun cb hcb hw => ?_; subst hcb; refine EZ fun cb hc => ?_; refine DG (by kernel_rfl) ?_; simp [Eb, go_sem, Mj]; subst hc; refine FF.of ?_; refine AK _ (by kernel_rfl) _ _ _ ?_; simp -implicitDefEqProofs [go_sem, FZ]; exact AP (.refl hw) (BL .nil) hQ
theorem F3 {Q : An → FrameMode → A0 → Prop} (kd ke : Nat) (c0 c1 c2 ce : IV) (okd : H.obj kd = some (.cells [c0, c1, c2])) (oke : H.obj ke = some (.cells [ce])) (hd : ¬ ke = kd)
    (hQ : Q (.ret (.tu [])) (.panicking [{ v := .iface 95 (.agg #[]), recovered := true }]) ((H.set kd (.cells [.v (.int .i64 0), .v (.slice none 0 0), .v (.slice none 0 0)])).set ke (.cells [.v (.int .i64 220)]))) :
    AX prog 63 [.p kd 0, .p ke 0] (.panicking (Ci ())) H Q := by
 refine Ef (N := 13) func63 (by kernel_rfl) rfl (by kernel_rfl) (by kernel_rfl) fun cb hcb hw => ?_; subst hcb; refine EZ fun cb hc => ?_; refine DG (by kernel_rfl) ?_; simp [Eb, go_sem, Mj, Ci]; subst hc; refine FF.of ?_; refine Ag ?_; refine A1 fun cb hc => ?_; refine AK _ (by kernel_rfl) _ _ _ ?_; simp -implicitDefEqProofs [go_sem, FZ]; subst hc; refine By (by simp [go_sem]) rfl ?_; refine A1 fun cb hc => ?_; refine AK _ (by kernel_rfl) _ _ _ ?_; simp -implicitDefEqProofs [go_sem]; refine (show Aj prog 13 _ _ _ _ _ from ?_); refine Ge (T := 95) (c := .ag []) rfl (by kernel_rfl) (by simp [go_sem]) underlying95 (by simp) ?_; simp -implicitDefEqProofs [go_sem]; subst hc; refine Aq (by simp [go_sem]) rfl ?_; refine A1 fun cb hc => ?_; refine E3 ?_; refine (show FV prog 13 _ [0, 1] _ _ _ from ?_); refine Dc rfl (fun _ _ _ _ _ => rfl) (CH (by kernel_rfl) ?_); simp -implicitDefEqProofs [go_sem]; refine Dc rfl (fun _ _ _ _ _ => rfl) ?_; refine Gf rfl (by kernel_rfl) (k := H.next) (off := 0) (by simp [go_sem]) (by simp [go_sem]) (fun w => by kernel_rfl) ?_; refine FX ?_; have hkd : ¬ kd = H.next := fun q => by rw [q, hw _ (Nat.le_refl _)] at okd; cases okd
 have hke : ¬ ke = H.next := fun q => by rw [q, hw _ (Nat.le_refl _)] at oke; cases oke
 have lkd : kd < H.next := Nat.lt_of_not_le fun q => by rw [hw _ q] at okd; cases okd
 have lke : ke < H.next := Nat.lt_of_not_le fun q => by rw [hw _ q] at oke; cases oke
 have Pe : ¬ kd = H.next + 1 := by omega
 have TF : ¬ ke = H.next + 1 := by omega
 simp -implicitDefEqProofs [go_sem]; subst hc; refine AK _ (by kernel_rfl) _ _ _ ?_; simp -implicitDefEqProofs [go_sem, okd, oke, hd, hkd, hke, Pe, TF]; have hd' : ¬ kd = ke := fun q => hd q.symm; refine EW (J := Dy H [(kd, .cells [.v (.int .i64 0), .v (.slice none 0 0), .v (.slice none 0 0)]), (ke, .cells [.v (.int .i64 220)])]) (Cw.ioL _ ?_ ?_) (.same (BL .nil)) hQ
 ·simp only [Cg, CB]; exact Bt (Ext.Ao (Ext.Ao (Ext.refl hw) kd) ke)
 ·intro p hp; simp only [List.mem_cons, List.not_mem_nil, or_false] at hp; rcases hp with hp | hp <;> subst hp
  ·exact ⟨lkd, by simp [go_sem, hd', hkd, Pe], BN⟩
  ·exact ⟨lke, by simp [go_sem], BN⟩
theorem R9 {Q : An → FrameMode → A0 → Prop} {kd ke : Nat} (hQ : Q (.ret (.tu [])) .returning H) : AX prog 76 [.p kd 0, .p ke 0] .returning H Q := by
 refine Ef (N := 13) func76 (by kernel_rfl) rfl (by kernel_rfl) (by kernel_rfl) fun cb hcb hw => ?_; subst hcb; refine EZ fun cb hc => ?_; refine DG (by kernel_rfl) ?_; simp [Eb, go_sem, Mj]; subst hc; refine FF.of ?_; refine AK _ (by kernel_rfl) _ _ _ ?_; simp -implicitDefEqProofs [go_sem, FZ]; exact AP (.refl hw) (BL .nil) hQ
theorem F4 {Q : An → FrameMode → A0 → Prop} (kd ke : Nat) (c0 c1 c2 c3 ce : IV) (okd : H.obj kd = some (.cells [c0, c1, c2, c3])) (oke : H.obj ke = some (.cells [ce])) (hd : ¬ ke = kd)
    (hQ : Q (.ret (.tu [])) (.panicking [{ v := .iface 95 (.agg #[]), recovered := true }]) ((H.set kd (.cells [.v (str []), .v (str []), .v (.slice none 0 0), .v (.slice none 0 0)])).set ke (.cells [.v (.int .i64 220)]))) :
    AX prog 76 [.p kd 0, .p ke 0] (.panicking (Ci ())) H Q := by
 refine Ef (N := 13) func76 (by kernel_rfl) rfl (by kernel_rfl) (by kernel_rfl) fun cb hcb hw => ?_; subst hcb; refine EZ fun cb hc => ?_; refine DG (by kernel_rfl) ?_; simp [Eb, go_sem, Mj, Ci]; subst hc; refine FF.of ?_; refine Ag ?_; refine A1 fun cb hc => ?_; refine AK _ (by kernel_rfl) _ _ _ ?_; simp -implicitDefEqProofs [go_sem, FZ]; subst hc; refine By (by simp [go_sem]) rfl ?_; refine A1 fun cb hc => ?_; refine AK _ (by kernel_rfl) _ _ _ ?_; simp -implicitDefEqProofs [go_sem]; refine (show Aj prog 13 _ _ _ _ _ from ?_); refine Ge (T := 95) (c := .ag []) rfl (by kernel_rfl) (by simp [go_sem]) underlying95 (by simp) ?_; simp -implicitDefEqProofs [go_sem]; subst hc; refine Aq (by simp [go_sem]) rfl ?_; refine A1 fun cb hc => ?_; refine E3 ?_; refine (show FV prog 13 _ [0, 1] _ _ _ from ?_); refine Dc rfl (fun _ _ _ _ _ => rfl) (CH (by kernel_rfl) ?_); simp -implicitDefEqProofs [go_sem]; refine Dc rfl (fun _ _ _ _ _ => rfl) ?_; refine Gf rfl (by kernel_rfl) (k := H.next) (off := 0) (by simp [go_sem]) (by simp [go_sem]) (fun w => by kernel_rfl) ?_; refine FX ?_; have hkd : ¬ kd = H.next := fun q => by rw [q, hw _ (Nat.le_refl _)] at okd; cases okd
 have hke : ¬ ke = H.next := fun q => by rw [q, hw _ (Nat.le_refl _)] at oke; cases oke
 have lkd : kd < H.next := Nat.lt_of_not_le fun q => by rw [hw _ q] at okd; cases okd
 have lke : ke < H.next := Nat.lt_of_not_le fun q => by rw [hw _ q] at oke; cases oke
 have Pe : ¬ kd = H.next + 1 := by omega
 have TF : ¬ ke = H.next + 1 := by omega
 simp -implicitDefEqProofs [go_sem]; subst hc; refine AK _ (by kernel_rfl) _ _ _ ?_; simp -implicitDefEqProofs [go_sem, okd, oke, hd, hkd, hke, Pe, TF]; have hd' : ¬ kd = ke := fun q => hd q.symm; refine EW (J := Dy H [(kd, .cells [.v (str []), .v (str []), .v (.slice none 0 0), .v (.slice none 0 0)]), (ke, .cells [.v (.int .i64 220)])]) (Cw.ioL _ ?_ ?_) (.same (BL .nil)) hQ
 ·simp only [Cg, CB]; exact Bt (Ext.Ao (Ext.Ao (Ext.refl hw) kd) ke)
 ·intro p hp; simp only [List.mem_cons, List.not_mem_nil, or_false] at hp; rcases hp with hp | hp <;> subst hp
  ·exact ⟨lkd, by simp [go_sem, hd', hkd, Pe], BN⟩
  ·exact ⟨lke, by simp [go_sem], BN⟩
end Go.Idl
namespace Go.Idl
set_option maxHeartbeats 8000000
set_option maxRecDepth 60000
set_option pp.deepTerms false
open Go Go.Proofs.Tryz Go.RowKit Go.Proofs Go.Shelf Go.Sort
def cfH (x y : T2) : Int := Lib.compareBytes x.1 y.1
theorem WB (x y : T2) (W : World) : Calls prog 93 #[.agg #[str x.1, str x.2], .agg #[str y.1, str y.2]] W fun e w' => e = .returned (.int .i64 (cfH x y)) ∧ ∃ q os', w' = Go.Sort.grow (W.drewN q) os' := by
 have hcon : ∀ W : World, Calls prog 94 #[str x.1, str y.1] W fun e w' => e = .returned (.int .i64 (cfH x y)) ∧ w' = W := fun W => Any.strings_Compare Go.Proofs.Tryz.R6 ⟨x.1.toArray⟩ ⟨y.1.toArray⟩ W; generalize cfH x y = r at hcon ⊢; generalize str x.1 = a1 at *; generalize str x.2 = a2 at *; generalize str y.1 = b1 at *; generalize str y.2 = b2 at *
 go_enter func93, ntmps93
 go_wp2_with (go_at_call 94; refine (hcon _).mono ?_; rintro e w' ⟨rfl, rfl⟩)
 go_ret
 refine ⟨rfl, 0, #[.cells #[a1, a2] 56, .cells #[b1, b2] 56], ?_⟩; rw [alloc_eq_grow, alloc_eq_grow, grow_grow]; rfl
theorem Nj : ∀ a b : Str, Lib.compareBytes a b < 0 ↔ a < b
  | [], [] => by simp [Lib.compareBytes]
  | [], _ :: _ => by simp [Lib.compareBytes]
  | _ :: _, [] => by simp [Lib.compareBytes]
  | a :: x, b :: y => by
    have ih := Nj x y
    rw [List.cons_lt_cons_iff]
    simp only [Lib.compareBytes]
    rcases Nat.lt_trichotomy a.toNat b.toNat with h | h | h
    · have h1 : a < b := UInt8.lt_iff_toNat_lt.2 h
      simp [h1]
    · have h1 : a = b := UInt8.toNat_inj.1 h
      subst h1
      simp [ih, UInt8.lt_irrefl]
    · have h1 : b < a := UInt8.lt_iff_toNat_lt.2 h
      have h2 : ¬ a < b := fun q => by have := UInt8.lt_iff_toNat_lt.1 q; omega
      have h3 : ¬ a = b := fun q => by rw [q] at h; omega
      simp [h1, h2, h3]
theorem HR (x y : T2) : ltOf cfH x y = true ↔ lt8 x.1 y.1 := by
 rw [Gb]; simp only [ltOf, cfH, decide_eq_true_eq, Nj]
theorem Yl : SWO (ltOf cfH) where
  irrefl x := by
    rw [← Bool.not_eq_true, HR]; exact CO _
  trans x y z h1 h2 := by
    rw [HR] at *; exact E_ h1 h2
  ntrans x y z h1 h2 := by
    rw [← Bool.not_eq_true, HR] at *
    rw [Gb] at *
    exact List.not_lt.2 (List.le_trans (List.not_lt.1 h2) (List.not_lt.1 h1))
variable {H : A0} {K : An → A0 → Prop}
theorem IQ (l : List Hd) (hn : BX l) (k : Nat) (hk : H.obj k = some (.cells (BM l))) (hl : l.length < 4611686018427387904)
    (hK : K (.ret (.tu [])) (H.set k (.cells (BM (BZ l))))) : A2 prog 92 [.bs k 0 l.length, .v (.func (.func 93) #[] #[])] H K := by
 refine GU Go.Proofs.Tryz.IQ rfl (by kernel_rfl) isAgg56 sizeOf56 cfH Yl (enters_of func93 (by kernel_rfl) rfl) (fun w blk size m os dk hs x y => WB x y _) l k hk hl fun l' hp hs => ?_; have hn' : BX l' := hp.pairwise_iff (fun {a b} h => Ne.symm h) |>.2 hn
 have hr : BW l' := by
  have hb := List.pairwise_and_iff.2 ⟨hs, hn'⟩; refine List.Pairwise.imp (fun {a b} ⟨h1, h2⟩ => ?_) hb; rw [← Bool.not_eq_true, HR] at h1; exact Nb h1 (fun e => h2 e.symm)
 have : BZ l = l' := IG hr hn fun x => hp.mem_iff.symm; rw [this] at hK; exact hK
theorem Ra (hK : K (.ret (.tu [])) H) : A2 prog 92 [.sl 2 [], .v (.func (.func 93) #[] #[])] H K := by
 refine ⟨by kernel_rfl, fun w g vs s rl => ?_⟩; obtain ⟨x, y, rfl, hx⟩ : ∃ x y, vs = #[x, y] ∧ R w g x (.sl 2 []) := by
  obtain ⟨l1, l2⟩ := rl; obtain ⟨vs⟩ := vs
  match vs, l1 with
  | [x, y], _ => exact ⟨x, y, rfl, l2 0 _ _ rfl rfl⟩
 rcases hx.Eu with ⟨_, a, cap, rfl⟩ | ⟨b, off, cap, cv, rfl, _⟩
 ·refine (AnyF.slices_SortFunc_none Go.Proofs.Tryz.IQ a cap y w).mono ?_
  rintro e w' ⟨rfl, rfl⟩
  exact ⟨.ret (.tu []), g, H, .refl _ g, s, .ret _ _ (.tu #[] [] rfl (by simp)), hK⟩
 ·refine (AnyF.slices_SortFunc_none Go.Proofs.Tryz.IQ _ cap y w).mono ?_
  rintro e w' ⟨rfl, rfl⟩
  exact ⟨.ret (.tu []), g, H, .refl _ g, s, .ret _ _ (.tu #[] [] rfl (by simp)), hK⟩
end Go.Idl
namespace Go.Idl
set_option maxHeartbeats 8000000
set_option maxRecDepth 60000
set_option pp.deepTerms false
open Go Go.Proofs.Tryz Go.RowKit Go.Proofs
structure S55 where
  fName : List UInt8
  A6 : List UInt8
deriving DecidableEq
def toS (h : Hd) : S55 := ⟨h.1, h.2⟩
abbrev mH (m : List Hd) : List (Value × IV) := mE (fun (x : List UInt8) => .v (str x)) m
def FM (l : List Hd) : List (List IV) := l.map fun h => [.v (str h.1), .v (str h.2)]
def F67 (m : List Hd) : Option (List S55) := gd (m.length ≤ 1000000) (gd (BX m) (some ((BZ m).map toS)))
variable {H : A0} {K : An → A0 → Prop}
theorem O1 (l : List Hd) : (FM l).flatten = BM l := by
 induction l with
 | nil => rfl
 | cons h l ih => rw [FM, List.map_cons, List.flatten_cons, ← FM, ih]; rfl
theorem Fu : ∀ l : List Hd, chunks 2 l.length (BM l) = FM l
  | [] => rfl
  | h :: l => by
    have e : chunks 2 (l.length + 1) (BM (h :: l)) = (BM (h :: l)).take 2 :: chunks 2 l.length ((BM (h :: l)).drop 2) := rfl
    rw [List.length_cons, e]
    have e2 : BM (h :: l) = .v (str h.1) :: .v (str h.2) :: BM l := rfl
    rw [e2]
    simp only [List.take_succ_cons, List.take_zero, List.drop_succ_cons, List.drop_zero]
    rw [Fu l]
    rfl
def Ji (bs : List Nat) (m : List Hd) (seen : List Nat) (acc : List Hd) : Prop :=
  ∃ js : List Nat, js.Nodup ∧ js.length = acc.length ∧ seen.length = js.length ∧ (∀ (n j : Nat), js[n]? = some j → bs[j]? = seen[n]? ∧ m[j]? = acc[n]? ∧ j < m.length)
theorem Ji.nil {bs : List Nat} {m : List Hd} : Ji bs m [] [] := ⟨[], List.nodup_nil, rfl, rfl, fun n j h => by simp at h⟩
theorem Ji.len {bs : List Nat} {m : List Hd} {seen : List Nat} {acc : List Hd} (h : Ji bs m seen acc) : acc.length ≤ m.length := by
 obtain ⟨js, hn, h1, h2, h3⟩ := h; have hsub : js ⊆ List.range m.length := fun j hj => by
  obtain ⟨n, hn⟩ := List.getElem?_of_mem hj; exact List.mem_range.2 (h3 n j hn).2.2
 have := List.Nodup.length_le_of_subset hn hsub; rw [List.length_range] at this; omega
theorem Ji.more {bs : List Nat} {m : List Hd} {seen : List Nat} {acc : List Hd} (h : Ji bs m seen acc) {i b : Nat} {e : Hd} (hb : bs[i]? = some b) (he : m[i]? = some e) (hs : b ∉ seen) : Ji bs m (seen ++ [b]) (acc ++ [e]) := by
 obtain ⟨js, hn, h1, h2, h3⟩ := h; have hi : i ∉ js := fun hi => by
  obtain ⟨n, hn⟩ := List.getElem?_of_mem hi; have := (h3 n i hn).1; rw [hb] at this; exact hs (List.mem_of_getElem? this.symm)
 refine ⟨js ++ [i], List.nodup_append.2 ⟨hn, by simp, fun a ha b hb e => by simp at hb; subst hb; subst e; exact hi ha⟩, by simp [h1], by simp [h2], fun n j hj => ?_⟩; rcases Nat.lt_trichotomy n js.length with q | q | q
 ·rw [List.getElem?_append_left q] at hj; rw [List.getElem?_append_left (by omega), List.getElem?_append_left (by omega)]; exact h3 n j hj
 ·subst q; rw [List.getElem?_append_right (Nat.le_refl _), Nat.sub_self] at hj; simp at hj; subst hj; rw [List.getElem?_append_right (by omega), List.getElem?_append_right (by omega), h2, h1, Nat.sub_self]; exact ⟨by simp [hb], by simp [he], (List.getElem?_eq_some_iff.1 he).1⟩
 ·rw [List.getElem?_append_right (by omega)] at hj; have := (List.getElem?_eq_some_iff.1 hj).1; simp at this; omega
theorem Ji.all {bs : List Nat} {m : List Hd} {seen : List Nat} {acc : List Hd} (h : Ji bs m seen acc) (hl : bs.length = m.length) (hd : bs.Nodup) (ha : ∀ b, b ∈ bs → b ∈ seen) (hm : BX m) : BX acc ∧ (∀ x, x ∈ acc ↔ x ∈ m) := by
 obtain ⟨js, hn, h1, h2, h3⟩ := h; have hjm : ∀ j, j < m.length → j ∈ js := fun j hj => by
  have hb : j < bs.length := by omega
  obtain ⟨n, hn'⟩ := List.getElem?_of_mem (ha _ (List.getElem_mem hb)); have hnl : n < js.length := by rw [← h2]; exact (List.getElem?_eq_some_iff.1 hn').1
  have h4 := (h3 n js[n] (List.getElem?_eq_getElem hnl)).1; rw [hn'] at h4; obtain ⟨q1, q2⟩ := List.getElem?_eq_some_iff.1 h4; have := (List.getElem_inj hd).1 q2; rw [← this]; exact List.getElem_mem hnl
 constructor
 ·rw [BX, List.pairwise_iff_getElem]; intro a b ha' hb' hab; have hja : a < js.length := by omega
  have hjb : b < js.length := by omega
  obtain ⟨_, e1, l1⟩ := h3 a _ (List.getElem?_eq_getElem hja); obtain ⟨_, e2, l2⟩ := h3 b _ (List.getElem?_eq_getElem hjb); rw [List.getElem?_eq_getElem ha', List.getElem?_eq_getElem l1] at e1; rw [List.getElem?_eq_getElem hb', List.getElem?_eq_getElem l2] at e2; rw [← Option.some.inj e1, ← Option.some.inj e2]; have hne : js[a] ≠ js[b] := fun q => by have := (List.getElem_inj hn).1 q; omega
  have hp := List.pairwise_iff_getElem.1 hm; rcases Nat.lt_or_gt_of_ne hne with q | q
  ·exact hp _ _ l1 l2 q
  ·exact fun e => hp _ _ l2 l1 q e.symm
 ·intro x; constructor
  ·intro hx; obtain ⟨n, hn'⟩ := List.getElem?_of_mem hx; have hnl : n < js.length := by rw [h1]; exact (List.getElem?_eq_some_iff.1 hn').1
   have := (h3 n _ (List.getElem?_eq_getElem hnl)).2.1; rw [hn'] at this; exact List.mem_of_getElem? this
  ·intro hx; obtain ⟨j, hj⟩ := List.getElem?_of_mem hx; obtain ⟨n, hn'⟩ := List.getElem?_of_mem (hjm j (List.getElem?_eq_some_iff.1 hj).1); have := (h3 n j hn').2.1; rw [hj] at this; exact List.mem_of_getElem? this.symm
theorem TG {m : List Hd} {i : Nat} {e : Value × IV} (h : (mH m)[i]? = some e) : ∃ x, m[i]? = some x ∧ e = (str x.1, .v (str x.2)) := by
 simp only [mH, mE, List.getElem?_map, Option.map_eq_some_iff] at h; obtain ⟨x, h1, rfl⟩ := h; exact ⟨x, h1, rfl⟩
theorem Ext.Ym {H' : A0} (hw : H.Wf) {k : Nat} {o : HO} (he : Ext (H.del k) H') (hk : H.obj k = some o) : Ext H (H'.set k o) := by
 refine ⟨hw, he.le, fun i o' hi => ?_, he.sn⟩; simp only [A0.set]; by_cases e : i = k
 ·subst e; rw [if_pos rfl, ← hk, hi]
 ·rw [if_neg e]; exact he.sub i o' (by simp only [A0.del]; rw [if_neg e]; exact hi)
theorem Gh.ofR {tm : Tm} {H' : A0} {d : Nat} {i' : IV} (h : GhR (tm d) H i' H') : Gh tm H (upd tm d i') H' := fun w g s => by
  obtain ⟨g1, m1, s1, h1⟩ := h w g s
  refine ⟨g1, m1, s1, fun a r i hi => ?_⟩
  show R w _ _ (if i = d then _ else _)
  by_cases e : i = d
  · rw [if_pos e]; subst e; exact h1 _ (r i hi)
  · rw [if_neg e]; exact (r i hi).mono m1
theorem IT (l : List Hd) : (FM l).length = l.length := by simp [FM]
theorem Pf (l : List Hd) (x : Hd) : FM (l ++ [x]) = FM l ++ [[.v (str x.1), .v (str x.2)]] := by simp [FM]
theorem MK (l : List Hd) : (BM l).length = l.length * 2 := by rw [BM, List.length_map, CZ]
theorem Fz.WC {J : A0} {k : Nat} (hJ : J.obj k = none) {l : List Hd} (hk : H.obj k = some (.cells (BM l))) (hl : l.length ≤ 1000000) : Fz H J (.bs k 0 l.length) (.sl 2 (FM l)) := by
 have h := Fz.bs (H := H) (J := J) k 0 l.length 2 (BM l) (BM l) hJ hk rfl (by rw [MK]; omega) (Nat.le_trans hl (by decide)) (fun j c c' h1 h2 => by
   rw [h1] at h2
   cases h2
   refine .wk _ _ (fun _ _ _ h => h) ?_
   have := List.mem_of_getElem? h1
   simp only [BM, List.mem_map] at this
   obtain ⟨v, _, rfl⟩ := this
   exact .v _)
 rw [List.drop_zero, Fu] at h; exact h
theorem Kr (m : List Hd) (km : Nat) (okm : H.obj km = some (.map (mE (fun (x : List UInt8) => .v (str x)) m))) {r : List S55} (h : F67 m = some r) (hK : K (.ret (.sl 2 (r.map fun x => [.v (str x.fName), .v (str x.A6)]))) H) : A2 prog 67 [.mp km] H K := by
 obtain ⟨h0, h⟩ := A8.1 h; obtain ⟨hnd, h⟩ := A8.1 h; cases h; have hK : K (.ret (.sl 2 (FM (BZ m)))) H := by
  rw [List.map_map] at hK; exact hK
 refine Aa (N := 22) func67 (by kernel_rfl) rfl (by kernel_rfl) (by kernel_rfl) fun cb hcb hw hbd hnb => ?_; clear hbd hnb; subst hcb; have lkm : km < H.next := Nat.lt_of_not_le fun q => by rw [hw _ q] at okm; cases okm
 refine IWp.QX okm fun bs cl hbl hbn hbc => ?_; have hbl : bs.length = m.length := by simpa [mE] using hbl
 have hK' : ∀ (x : IV) (J : A0), x = x := fun _ _ => rfl; refine A1 fun cb hc => ?_; refine AK _ (by kernel_rfl) _ _ _ ?_; simp -implicitDefEqProofs [go_sem]; subst hc; refine A1 fun cb hc => ?_; refine AK _ (by kernel_rfl) _ _ _ ?_; simp -implicitDefEqProofs [go_sem]; subst hc; refine A1 fun cb hc => ?_; refine AK _ (by kernel_rfl) _ _ _ ?_; simp -implicitDefEqProofs [go_sem]; refine IK (k := km) (cl := cl) (bs := bs) (es := mH m) rfl (by kernel_rfl) underlying103 (by simp [go_sem]) (by simp [go_sem]) ?_; simp -implicitDefEqProofs [go_sem]; have k1 : ¬ km = H.next := by omega
 have k2 : ¬ km = H.next + 1 := by omega
 refine GK (fun tm' H' => ∃ seen acc, tm' 7 = .p H.next 0 ∧ tm' 3 = .os (H.next + 1) acc.length ∧ Ji bs m seen acc ∧ H'.obj H.next = some (.it km cl seen cl) ∧ H'.obj (H.next + 1) = some (.row 2 (FM acc)) ∧ H'.obj km = some (.Dx bs cl (mH m)) ∧ Ext (H.del km) H' ∧ H.next + 1 < H'.next)
  (fun _ H' => m.length - (match H'.obj H.next with | some (.it _ _ seen _) => seen.length | _ => 0)) (.gh (Gh.Kj (d := 3) (sz := 2) (by omega) (by simp [go_sem])) (.same ?_)) ?_
 ·exact ⟨[], [], by simp [go_sem], by simp [go_sem], .nil, by simp [go_sem], by simp [go_sem, FM], by simp [go_sem, k1, k2], Bt (Ext.Ao (Ext.refl hw) km), by simp [go_sem]⟩
 rintro I' μ' hI hμ tm' H' ⟨seen, acc, h7, h3, hg, hi, hr, hm, he, hn⟩
 have hal := hg.len; have hsl : seen.length = acc.length := by obtain ⟨js, _, q1, q2, _⟩ := hg; omega
 refine AK _ (by kernel_rfl) _ _ _ ?_; simp (maxSteps := 1000000) (disch := omega) [go_sem, h7, h3]; refine Jg rfl (by kernel_rfl) (by simp [go_sem, h7]) hi hm hbc (fun hend => ?_) (fun i b e hb hee hs => ?_)
 ·simp (maxSteps := 1000000) (disch := omega) [go_sem, h7, h3]; subst hc; obtain ⟨g1, g2⟩ := hg.all hbl hbn hend hnd; have hsort : BZ acc = BZ m := IG (IE hnd) g1 fun x => (g2 x).trans (F0 m x).symm; have he1 := Ext.Ym hw he okm; refine IWp.gh (Gh.P9 hm) ?_; by_cases h0' : acc = []
  ·subst h0'; have hm0 : BZ m = [] := by rw [← hsort]; rfl
   rw [hm0] at hK; refine IWp.gh (Gh.freeze (d := 3) (k := H.next + 1) (sz := 2) (es := []) (by have := hr; simp [go_sem, k2, Ne.symm k2, FM] at this ⊢; simpa using this) (by simp [go_sem, h3])) ?_; refine A1 fun cb hc => ?_; refine AK _ (by kernel_rfl) _ _ _ ?_; simp -implicitDefEqProofs [go_sem]; refine Ra ?_; simp -implicitDefEqProofs [go_sem]; subst hc; refine A1 fun cb hc => ?_; refine AK _ (by kernel_rfl) _ _ _ ?_; simp -implicitDefEqProofs [go_sem]; subst hc; refine AK _ (by kernel_rfl) _ _ _ ?_; simp -implicitDefEqProofs [go_sem]; exact AP (he1.del (by omega)) (.sl _ _ (by simp)) hK
  ·have hpos : 0 < acc.length := List.length_pos_iff.2 h0'; have hr1 : (H'.set km (.map (mH m))).obj (H.next + 1) = some (.row 2 (FM acc)) := by simp [go_sem, Ne.symm k2, hr]
   have hf := GhR.fix hr1 (by rw [IT]; exact hpos); rw [IT, O1] at hf; refine IWp.gh (Gh.ofR (d := 3) (by simp only [go_sem]; rw [h3]; exact hf)) ?_; refine A1 fun cb hc => ?_; refine AK _ (by kernel_rfl) _ _ _ ?_; simp -implicitDefEqProofs [go_sem]; refine IQ acc g1 H'.next (by simp [A0.fix, go_sem]) (by omega) ?_; simp -implicitDefEqProofs [go_sem]; subst hc; refine A1 fun cb hc => ?_; refine AK _ (by kernel_rfl) _ _ _ ?_; simp -implicitDefEqProofs [go_sem]; subst hc; refine AK _ (by kernel_rfl) _ _ _ ?_; simp -implicitDefEqProofs [go_sem]; rw [hsort]; have hlen : acc.length = (BZ m).length := by
    rw [← hsort]; have : ∀ (l a : List Hd), (l.foldl Ff a).length = a.length + l.length := by
     intro l
     induction l with
     | nil => intro a; rfl
     | cons h l ih =>
      intro a; have hins : ∀ a : List Hd, (Ff a h).length = a.length + 1 := by
       intro a
       induction a with
       | nil => rfl
       | cons y a ih => simp only [Ff]; split <;> simp [ih]
      rw [List.foldl_cons, ih, hins, List.length_cons]; omega
    rw [BZ, this]; simp
   rw [hlen]; refine EW (J := H) ((he1.fix (by omega) _).set (by have := he.le; simp [go_sem] at this ⊢; omega) _).DN (Fz.WC (hw _ (by have := he.le; simp [go_sem] at this; omega)) (by simp [go_sem]) (by omega)) hK
 ·obtain ⟨x, hx, rfl⟩ := TG hee; simp (maxSteps := 1000000) (disch := omega) [go_sem, h7, h3]; refine IL (ki := H.next) (k := km) (cl := cl) (i := i) (b := b) (bs := bs) (seen := seen) (es := mH m) rfl (by kernel_rfl) (by simp [go_sem, h7]) (by simp [go_sem]) (by simp [go_sem, hm, k1]) hb hee hbn ?_; have hrl := IT acc; have hg2 := hg.more hb hx hs; have hl2 := hg2.len; simp only [List.length_append, List.length_cons, List.length_nil] at hl2; simp -implicitDefEqProofs (disch := omega) [go_sem, bdP, h7, h3, hr, hrl, k1, k2]; refine .of hI hμ ⟨seen ++ [b], acc ++ [x], by simp [go_sem, h7], by simp [go_sem], hg2, by simp [go_sem], by rw [Pf]; simp [go_sem], by simp [go_sem, k1, k2, hm], (he.set (Nat.le_refl _) _).set (Nat.le_succ _) _, hn⟩ ?_; simp [go_sem, hi]; exact Nat.sub_lt_sub_left (by rw [hsl]; omega) (Nat.lt_succ_self _)
end Go.Idl
namespace Go.Proofs
open Go.Shelf
def Tryz.Ks : Go.Shelf.Ren := ⟨fun | 245 => 62 | 279 => 84 | 280 => 85 | 281 => 86 | 282 => 87 | 316 => 115 | 171 => 29 | 205 => 116 | 243 => 59 | 246 => 69 | 283 => 95 | 284 => 96 | 285 => 97 | 286 => 98 | 129 => 125 | 317 => 124 | 318 => 126 | 319 => 127 | 320 => 128 | 337 => 156 | 338 => 157 | n => n, fun | 9 => 9 | 3 => 3 | 75 => 65 | 167 => 119 | 4 => 4 | 168 => 122 | 210 => 154 | 37 => 23 | 0 => 0 | 127 => 172 | 145 => 175 | 143 => 173 | 2 => 2 | 171 => 134 | 53 => 135 | 5 => 5 | 173 => 138 | 212 => 162 | 51 => 163 | 20 => 20 | 213 => 164 | 46 => 152 | 232 => 197 | 233 => 198 | 80 => 102 | n => n, fun | 15 => 0 | 16 => 1 | 17 => 2 | 18 => 4 | 19 => 5 | n => n⟩
theorem Tryz.LB : Go.Proofs.LaysC.n245 Tryz.prog Tryz.Ks := {
  mixed := by kernel_rfl
  f129 := Tryz.func125.trans (congrArg some (by kernel_rfl))
  f171 := Tryz.func29.trans (congrArg some (by kernel_rfl))
  f205 := Tryz.func116.trans (congrArg some (by kernel_rfl))
  f243 := Tryz.func59.trans (congrArg some (by kernel_rfl))
  f245 := Tryz.func62.trans (congrArg some (by kernel_rfl))
  f246 := Tryz.func69.trans (congrArg some (by kernel_rfl))
  f279 := Tryz.func84.trans (congrArg some (by kernel_rfl))
  f280 := Tryz.func85.trans (congrArg some (by kernel_rfl))
  f281 := Tryz.func86.trans (congrArg some (by kernel_rfl))
  f282 := Tryz.func87.trans (congrArg some (by kernel_rfl))
  f283 := Tryz.func95.trans (congrArg some (by kernel_rfl))
  f284 := Tryz.func96.trans (congrArg some (by kernel_rfl))
  f285 := Tryz.func97.trans (congrArg some (by kernel_rfl))
  f286 := Tryz.func98.trans (congrArg some (by kernel_rfl))
  f316 := Tryz.func115.trans (congrArg some (by kernel_rfl))
  f317 := Tryz.func124.trans (congrArg some (by kernel_rfl))
  f318 := Tryz.func126.trans (congrArg some (by kernel_rfl))
  f319 := Tryz.func127.trans (congrArg some (by kernel_rfl))
  f320 := Tryz.func128.trans (congrArg some (by kernel_rfl))
  f337 := Tryz.func156.trans (congrArg some (by kernel_rfl))
  f338 := Tryz.func157.trans (congrArg some (by kernel_rfl))
  t0 := Tryz.underlying0
  a0 := Tryz.isAgg0
  z0 := Tryz.sizeOf0
  v0 := Tryz.zeroValue0
  t2 := Tryz.underlying2
  a2 := Tryz.isAgg2
  z2 := Tryz.sizeOf2
  v2 := Tryz.zeroValue2
  t3 := Tryz.underlying3
  a3 := Tryz.isAgg3
  z3 := Tryz.sizeOf3
  v3 := Tryz.zeroValue3
  t4 := Tryz.underlying4
  a4 := Tryz.isAgg4
  z4 := Tryz.sizeOf4
  v4 := Tryz.zeroValue4
  t5 := Tryz.underlying5
  a5 := Tryz.isAgg5
  z5 := Tryz.sizeOf5
  v5 := Tryz.zeroValue5
  t9 := Tryz.underlying9
  a9 := Tryz.isAgg9
  z9 := Tryz.sizeOf9
  v9 := Tryz.zeroValue9
  t20 := Tryz.underlying20
  a20 := Tryz.isAgg20
  z20 := Tryz.sizeOf20
  v20 := Tryz.zeroValue20
  t37 := Tryz.underlying23
  a37 := Tryz.isAgg23
  z37 := Tryz.sizeOf23
  v37 := Tryz.zeroValue23
  t46 := Tryz.underlying152
  a46 := Tryz.isAgg152
  z46 := Tryz.sizeOf152
  v46 := Tryz.zeroValue152
  t51 := Tryz.underlying163
  a51 := Tryz.isAgg163
  z51 := Tryz.sizeOf163
  v51 := Tryz.zeroValue163
  t53 := Tryz.underlying135
  a53 := Tryz.isAgg135
  z53 := Tryz.sizeOf135
  v53 := Tryz.zeroValue135
  t75 := Tryz.underlying65
  a75 := Tryz.isAgg65
  z75 := Tryz.sizeOf65
  v75 := Tryz.zeroValue65
  t127 := Tryz.underlying172
  a127 := Tryz.isAgg172
  z127 := Tryz.sizeOf172
  v127 := Tryz.zeroValue172
  t143 := Tryz.underlying173
  a143 := Tryz.isAgg173
  z143 := Tryz.sizeOf173
  v143 := Tryz.zeroValue173
  t145 := Tryz.underlying175
  a145 := Tryz.isAgg175
  z145 := Tryz.sizeOf175
  v145 := Tryz.zeroValue175
  t167 := Tryz.underlying119
  a167 := Tryz.isAgg119
  z167 := Tryz.sizeOf119
  v167 := Tryz.zeroValue119
  t168 := Tryz.underlying122
  a168 := Tryz.isAgg122
  z168 := Tryz.sizeOf122
  v168 := Tryz.zeroValue122
  t171 := Tryz.underlying134
  a171 := Tryz.isAgg134
  z171 := Tryz.sizeOf134
  v171 := Tryz.zeroValue134
  t173 := Tryz.underlying138
  a173 := Tryz.isAgg138
  z173 := Tryz.sizeOf138
  v173 := Tryz.zeroValue138
  t210 := Tryz.underlying154
  a210 := Tryz.isAgg154
  z210 := Tryz.sizeOf154
  v210 := Tryz.zeroValue154
  t212 := Tryz.underlying162
  a212 := Tryz.isAgg162
  z212 := Tryz.sizeOf162
  v212 := Tryz.zeroValue162
  t213 := Tryz.underlying164
  a213 := Tryz.isAgg164
  z213 := Tryz.sizeOf164
  t232 := Tryz.underlying197
  a232 := Tryz.isAgg197
  z232 := Tryz.sizeOf197
  v232 := Tryz.zeroValue197
  t233 := Tryz.underlying198
  a233 := Tryz.isAgg198
  z233 := Tryz.sizeOf198
  v233 := Tryz.zeroValue198
  g15 := by kernel_rfl
  g16 := by kernel_rfl
  g17 := by kernel_rfl
  g18 := by kernel_rfl
  g19 := by kernel_rfl
  t80 := Tryz.underlying102
  a80 := Tryz.isAgg102
  z80 := Tryz.sizeOf102
  v80 := Tryz.zeroValue102
  i0 := by kernel_rfl
  i2 := by kernel_rfl
  i3 := by kernel_rfl
  i4 := by kernel_rfl
  i5 := by kernel_rfl
  i9 := by kernel_rfl
  i20 := by kernel_rfl
  i37 := by kernel_rfl
  i46 := by kernel_rfl
  i51 := by kernel_rfl
  i53 := by kernel_rfl
  i75 := by kernel_rfl
  i80 := by kernel_rfl
  i127 := by kernel_rfl
  i143 := by kernel_rfl
  i145 := by kernel_rfl
  i167 := by kernel_rfl
  i168 := by kernel_rfl
  i171 := by kernel_rfl
  i173 := by kernel_rfl
  i210 := by kernel_rfl
  i212 := by kernel_rfl
  i232 := by kernel_rfl
  i233 := by kernel_rfl
  m15 := by kernel_rfl
  m16 := by kernel_rfl
  m17 := by kernel_rfl
  m18 := by kernel_rfl
  m19 := by kernel_rfl
  c0 := by kernel_rfl
  c2 := by kernel_rfl
  c3 := by kernel_rfl
  c4 := by kernel_rfl
  c5 := by kernel_rfl
  c9 := by kernel_rfl
  c20 := by kernel_rfl
  c37 := by kernel_rfl
  c46 := by kernel_rfl
  c51 := by kernel_rfl
  c53 := by kernel_rfl
  c75 := by kernel_rfl
  c80 := by kernel_rfl
  c127 := by kernel_rfl
  c143 := by kernel_rfl
  c145 := by kernel_rfl
  c167 := by kernel_rfl
  c168 := by kernel_rfl
  c171 := by kernel_rfl
  c173 := by kernel_rfl
  c210 := by kernel_rfl
  c212 := by kernel_rfl
  c213 := by kernel_rfl
  c232 := by kernel_rfl
  c233 := by kernel_rfl }
end Go.Proofs
namespace Go.Idl
set_option maxHeartbeats 8000000
set_option maxRecDepth 60000
set_option pp.deepTerms false
open Go Go.Proofs.Tryz Go.RowKit Go.Proofs Go.Shelf
variable {H : A0} {K : An → A0 → Prop}
def D1 (x : UInt8) : Int := orI .u8 (x.toNat : Int) 32
theorem Gj (x : UInt8) (hK : K (.ret (.v (.int .u8 (D1 x)))) H) : A2 prog 139 [.v (.int .u8 (x.toNat : Int))] H K := by
 refine DZ (N := 5) func139 (by kernel_rfl) rfl (by kernel_rfl) (by kernel_rfl) fun hw hbd hnb => ?_; simp (maxSteps := 1000000) (disch := omega) [go_sem]; exact AP (.refl hw) (.v _) hK
theorem Nk (hK : K (.ret (.v (.int .u8 127))) H) : A2 prog 139 [.v (.int .u8 95)] H K := by
 have e : D1 95 = 127 := by decide
 exact Gj 95 (by rw [e]; exact hK)
def Rb (k : Nat) : IV := if k = 0 then .v .nilIface else .v (.iface 119 (.int .i64 k))
def puG : Nat → Str → Nat × Nat
  | n, [] => (n, 0)
  | n, x :: s => match Ee x with
    | none => (0, 2)
    | some d => if 16 * n + d > 4294967295 then (4294967295, 1) else puG (16 * n + d) s
def puS (s : Str) : Nat × Nat := if s = [] then (0, 2) else puG 0 s
theorem O2 : ∀ x : Fin 256, let c := UInt8.ofNat x.1
    (48 ≤ (c.toNat : Int) ∧ (c.toNat : Int) ≤ 57 ∧ Ee c = some (c.toNat - 48)) ∨
    (¬ (48 ≤ (c.toNat : Int) ∧ (c.toNat : Int) ≤ 57) ∧ 97 ≤ D1 c ∧ D1 c ≤ 102 ∧ Ee c = some (D1 c - 87).toNat) ∨
    (¬ (48 ≤ (c.toNat : Int) ∧ (c.toNat : Int) ≤ 57) ∧ 103 ≤ D1 c ∧ D1 c ≤ 122 ∧ Ee c = none) ∨
    (¬ (48 ≤ (c.toNat : Int) ∧ (c.toNat : Int) ≤ 57) ∧ ¬ (97 ≤ D1 c ∧ D1 c ≤ 122) ∧ Ee c = none) := by decide +kernel
theorem Pg (c : UInt8) : (48 ≤ (c.toNat : Int) ∧ (c.toNat : Int) ≤ 57 ∧ Ee c = some (c.toNat - 48)) ∨
    (¬ (48 ≤ (c.toNat : Int) ∧ (c.toNat : Int) ≤ 57) ∧ 97 ≤ D1 c ∧ D1 c ≤ 102 ∧ Ee c = some (D1 c - 87).toNat) ∨
    (¬ (48 ≤ (c.toNat : Int) ∧ (c.toNat : Int) ≤ 57) ∧ 103 ≤ D1 c ∧ D1 c ≤ 122 ∧ Ee c = none) ∨
    (¬ (48 ≤ (c.toNat : Int) ∧ (c.toNat : Int) ≤ 57) ∧ ¬ (97 ≤ D1 c ∧ D1 c ≤ 122) ∧ Ee c = none) := by
 have h := O2 ⟨c.toNat, c.toNat_lt⟩; simp only [UInt8.ofNat_toNat] at h; exact h
theorem Rc (s : Str) (hs : s.length ≤ 1000000000) (hK : K (.ret (.tu [.v (.int .u64 (puS s).1), Rb (puS s).2])) H) : A2 prog 114 [.v (str s), .v (.int .i64 16), .v (.int .i64 32)] H K := by
 refine DZ (N := 172) func114 (by kernel_rfl) rfl (by kernel_rfl) (by kernel_rfl) fun hw hbd hnb => ?_; clear hbd hnb; simp (maxSteps := 1000000) (disch := omega) [go_sem]; refine D4 ?_ ?_ <;> intro h0 <;> (try simp at h0)
 ·subst h0; simp (maxSteps := 1000000) (disch := omega) [go_sem]; exact AP (.refl hw) (BL (.cons (.v _) (.cons (.v _) .nil))) hK
 ·simp (maxSteps := 1000000) (disch := omega) [go_sem]; have hP : puS s = puG 0 s := by rw [puS, if_neg h0]
  refine CQ s rfl (by kernel_rfl) underlying9 underlying23 underlying5 (by simp [go_sem]) (by omega) ?_; simp (maxSteps := 1000000) (disch := omega) [go_sem]; refine GK (fun tm' H' => ∃ i n : Nat, tm' 1 = .v (.int .i64 16) ∧ tm' 8 = .v (.bool false) ∧ tm' 10 = .v (.int .u64 1152921504606846976) ∧ tm' 11 = .v (.int .u64 4294967295) ∧ tm' 12 = .v (.bool false) ∧ tm' 13 = .v (.int .u64 n) ∧ tm' 99 = .sl 1 (s.map fun x => [.v (.int .u8 x.toNat)]) ∧ tm' 100 = .v (.int .i64 s.length) ∧ tm' 101 = .v (.int .i64 i) ∧ i ≤ s.length ∧ n ≤ 4294967295 ∧ puG n (s.drop i) = puS s ∧ H' = H) (fun tm' _ => s.length - (intOf (tm' 101)).toNat) (.same ?_) ?_
  ·exact ⟨0, 0, by simp [go_sem], by simp [go_sem], by simp [go_sem], by simp [go_sem], by simp [go_sem], by simp [go_sem], by simp [go_sem], by simp [go_sem], by simp [go_sem], by omega, by omega, by rw [hP]; rfl, rfl⟩
  rintro I' μ' hI hμ tm' H' ⟨i, n, h1, h8, h10, h11, h12, h13, h99, h100, h101, hi, hn, hp, rfl⟩
  refine AK _ (by kernel_rfl) _ _ _ ?_; simp (maxSteps := 1000000) (disch := omega) [go_sem, h99, h100, h101]; refine D4 ?_ ?_ <;> intro hc <;> (try simp at hc)
  ·have hil : i < s.length := by omega
   have hg : s.getD i 0 = s[i] := by rw [List.getD_eq_getElem?_getD, List.getElem?_eq_getElem hil]; rfl
   rw [List.drop_eq_getElem_cons hil] at hp; simp (maxSteps := 1000000) (disch := omega) [go_sem, h1, h8, h10, h11, h12, h13, h99, h100, h101]; generalize s[i] = x at hp hg ⊢; have hx := x.toNat_lt; rcases Pg x with ⟨a1, a2, a3⟩ | ⟨a1, a2, a4, a3⟩ | ⟨a1, a2, a4, a3⟩ | ⟨a1, a2, a3⟩
   ·have h95 : ¬ (x.toNat : Int) = 95 := by omega
    have b1 : 48 ≤ x.toNat := by omega
    have b2 : x.toNat ≤ 57 := by omega
    simp only [puG, a3] at hp; simp (maxSteps := 1000000) (disch := omega) [go_sem, h1, h8, h10, h11, h12, h13, h99, h100, h101, h95, a1, a2, b1, b2]; refine D4 ?_ ?_ <;> intro g3 <;> (try simp at g3)
    ·exfalso; omega
    simp (maxSteps := 1000000) (disch := omega) [go_sem, h1, h8, h10, h11, h12, h13, h99, h100, h101]; refine D4 ?_ ?_ <;> intro g4 <;> (try simp at g4)
    ·exfalso; omega
    simp (maxSteps := 1000000) (disch := omega) [go_sem, h1, h8, h10, h11, h12, h13, h99, h100, h101]
    (first | refine G7 ?_ ?_ | refine HP ?_ ?_) <;> intro g5 <;> (try simp at g5)
    ·exfalso; omega
    simp (maxSteps := 1000000) (disch := omega) [go_sem, h1, h8, h10, h11, h12, h13, h99, h100, h101]; refine D4 ?_ ?_ <;> intro g6 <;> (try simp at g6)
    ·rw [if_pos (by omega)] at hp; rw [← hp] at hK; simp (maxSteps := 1000000) (disch := omega) [go_sem, h1, h8, h10, h11, h12, h13, h99, h100, h101]; exact AP (.refl hw) (BL (.cons (.v _) (.cons (.v _) .nil))) hK
    ·rw [if_neg (by omega)] at hp; simp (maxSteps := 1000000) (disch := omega) [go_sem, h1, h8, h10, h11, h12, h13, h99, h100, h101]; refine .of hI hμ ⟨i + 1, 16 * n + (x.toNat - 48), by simp [go_sem, h1], by simp [go_sem, h8], by simp [go_sem, h10], by simp [go_sem, h11], by simp [go_sem, h12], ?_, by simp [go_sem, h99], by simp [go_sem, h100], by simp [go_sem, h101], by omega, by omega, hp, rfl⟩ (by simp [go_sem, h101]; omega); simp [go_sem]; omega
   ·simp only [puG, a3] at hp; have l2 : D1 x ≤ 122 := by omega
    have h95 : ¬ (x.toNat : Int) = 95 := fun q => by
     have : x = 95 := UInt8.toNat_inj.1 (by show x.toNat = 95; omega); subst this; revert a2 a4; decide
    have hL : ∀ {K : An → A0 → Prop} {H : A0}, K (.ret (.v (.int .u8 (D1 x)))) H → A2 prog 139 [.v (.int .u8 (x.toNat : Int))] H K := fun h => Gj x h; generalize D1 x = L at *; rcases (show (¬ 48 ≤ x.toNat) ∨ (48 ≤ x.toNat ∧ ¬ x.toNat ≤ 57) by omega) with r | ⟨r, r3⟩
    ·have r2 : ¬ 48 ≤ (x.toNat : Int) := by omega
     simp (maxSteps := 1000000) (disch := omega) [go_sem, h1, h8, h10, h11, h12, h13, h99, h100, h101, h95, r, r2]; refine hL ?_; simp (maxSteps := 1000000) (disch := omega) [go_sem, h1, h8, h10, h11, h12, h13, h99, h100, h101, h95, r, r2, a2, l2]; refine hL ?_; simp (maxSteps := 1000000) (disch := omega) [go_sem, h1, h8, h10, h11, h12, h13, h99, h100, h101, h95, r, r2, a2, l2]; refine hL ?_; simp (maxSteps := 1000000) (disch := omega) [go_sem, h1, h8, h10, h11, h12, h13, h99, h100, h101, h95, r, r2, a2, l2]; refine D4 ?_ ?_ <;> intro g3 <;> (try simp at g3)
     ·exfalso; omega
     simp (maxSteps := 1000000) (disch := omega) [go_sem, h1, h8, h10, h11, h12, h13, h99, h100, h101]; refine D4 ?_ ?_ <;> intro g4 <;> (try simp at g4)
     ·exfalso; omega
     simp (maxSteps := 1000000) (disch := omega) [go_sem, h1, h8, h10, h11, h12, h13, h99, h100, h101]
     (first | refine G7 ?_ ?_ | refine HP ?_ ?_) <;> intro g5 <;> (try simp at g5)
     ·exfalso; omega
     simp (maxSteps := 1000000) (disch := omega) [go_sem, h1, h8, h10, h11, h12, h13, h99, h100, h101]; refine D4 ?_ ?_ <;> intro g6 <;> (try simp at g6)
     ·rw [if_pos (by omega)] at hp; rw [← hp] at hK; simp (maxSteps := 1000000) (disch := omega) [go_sem, h1, h8, h10, h11, h12, h13, h99, h100, h101]; exact AP (.refl hw) (BL (.cons (.v _) (.cons (.v _) .nil))) hK
     ·rw [if_neg (by omega)] at hp; simp (maxSteps := 1000000) (disch := omega) [go_sem, h1, h8, h10, h11, h12, h13, h99, h100, h101]; refine .of hI hμ ⟨i + 1, 16 * n + (L - 87).toNat, by simp [go_sem, h1], by simp [go_sem, h8], by simp [go_sem, h10], by simp [go_sem, h11], by simp [go_sem, h12], ?_, by simp [go_sem, h99], by simp [go_sem, h100], by simp [go_sem, h101], by omega, by omega, hp, rfl⟩ (by simp [go_sem, h101]; omega); simp [go_sem]; omega
    ·have r2 : 48 ≤ (x.toNat : Int) := by omega
     have r4 : ¬ (x.toNat : Int) ≤ 57 := by omega
     simp (maxSteps := 1000000) (disch := omega) [go_sem, h1, h8, h10, h11, h12, h13, h99, h100, h101, h95, r, r2, r3, r4]; refine hL ?_; simp (maxSteps := 1000000) (disch := omega) [go_sem, h1, h8, h10, h11, h12, h13, h99, h100, h101, h95, r, r2, r3, r4, a2, l2]; refine hL ?_; simp (maxSteps := 1000000) (disch := omega) [go_sem, h1, h8, h10, h11, h12, h13, h99, h100, h101, h95, r, r2, r3, r4, a2, l2]; refine hL ?_; simp (maxSteps := 1000000) (disch := omega) [go_sem, h1, h8, h10, h11, h12, h13, h99, h100, h101, h95, r, r2, r3, r4, a2, l2]; refine D4 ?_ ?_ <;> intro g3 <;> (try simp at g3)
     ·exfalso; omega
     simp (maxSteps := 1000000) (disch := omega) [go_sem, h1, h8, h10, h11, h12, h13, h99, h100, h101]; refine D4 ?_ ?_ <;> intro g4 <;> (try simp at g4)
     ·exfalso; omega
     simp (maxSteps := 1000000) (disch := omega) [go_sem, h1, h8, h10, h11, h12, h13, h99, h100, h101]
     (first | refine G7 ?_ ?_ | refine HP ?_ ?_) <;> intro g5 <;> (try simp at g5)
     ·exfalso; omega
     simp (maxSteps := 1000000) (disch := omega) [go_sem, h1, h8, h10, h11, h12, h13, h99, h100, h101]; refine D4 ?_ ?_ <;> intro g6 <;> (try simp at g6)
     ·rw [if_pos (by omega)] at hp; rw [← hp] at hK; simp (maxSteps := 1000000) (disch := omega) [go_sem, h1, h8, h10, h11, h12, h13, h99, h100, h101]; exact AP (.refl hw) (BL (.cons (.v _) (.cons (.v _) .nil))) hK
     ·rw [if_neg (by omega)] at hp; simp (maxSteps := 1000000) (disch := omega) [go_sem, h1, h8, h10, h11, h12, h13, h99, h100, h101]; refine .of hI hμ ⟨i + 1, 16 * n + (L - 87).toNat, by simp [go_sem, h1], by simp [go_sem, h8], by simp [go_sem, h10], by simp [go_sem, h11], by simp [go_sem, h12], ?_, by simp [go_sem, h99], by simp [go_sem, h100], by simp [go_sem, h101], by omega, by omega, hp, rfl⟩ (by simp [go_sem, h101]; omega); simp [go_sem]; omega
   ·simp only [puG, a3] at hp; have l1 : 97 ≤ D1 x := by omega
    have l2 : D1 x ≤ 122 := a4; have h95 : ¬ (x.toNat : Int) = 95 := fun q => by
     have : x = 95 := UInt8.toNat_inj.1 (by show x.toNat = 95; omega); subst this; revert a2 a4; decide
    have hL : ∀ {K : An → A0 → Prop} {H : A0}, K (.ret (.v (.int .u8 (D1 x)))) H → A2 prog 139 [.v (.int .u8 (x.toNat : Int))] H K := fun h => Gj x h; generalize D1 x = L at *; rcases (show (¬ 48 ≤ x.toNat) ∨ (48 ≤ x.toNat ∧ ¬ x.toNat ≤ 57) by omega) with r | ⟨r, r3⟩
    ·have r2 : ¬ 48 ≤ (x.toNat : Int) := by omega
     simp (maxSteps := 1000000) (disch := omega) [go_sem, h1, h8, h10, h11, h12, h13, h99, h100, h101, h95, r, r2]; refine hL ?_; simp (maxSteps := 1000000) (disch := omega) [go_sem, h1, h8, h10, h11, h12, h13, h99, h100, h101, h95, r, r2, l1, l2]; refine hL ?_; simp (maxSteps := 1000000) (disch := omega) [go_sem, h1, h8, h10, h11, h12, h13, h99, h100, h101, h95, r, r2, l1, l2]; refine hL ?_; simp (maxSteps := 1000000) (disch := omega) [go_sem, h1, h8, h10, h11, h12, h13, h99, h100, h101, h95, r, r2, l1, l2]; refine D4 ?_ ?_ <;> intro g3 <;> (try simp at g3)
     ·rw [← hp] at hK; simp (maxSteps := 1000000) (disch := omega) [go_sem, h1, h8, h10, h11, h12, h13, h99, h100, h101]; exact AP (.refl hw) (BL (.cons (.v _) (.cons (.v _) .nil))) hK
     ·exfalso; omega
    ·have r2 : 48 ≤ (x.toNat : Int) := by omega
     have r4 : ¬ (x.toNat : Int) ≤ 57 := by omega
     simp (maxSteps := 1000000) (disch := omega) [go_sem, h1, h8, h10, h11, h12, h13, h99, h100, h101, h95, r, r2, r3, r4]; refine hL ?_; simp (maxSteps := 1000000) (disch := omega) [go_sem, h1, h8, h10, h11, h12, h13, h99, h100, h101, h95, r, r2, r3, r4, l1, l2]; refine hL ?_; simp (maxSteps := 1000000) (disch := omega) [go_sem, h1, h8, h10, h11, h12, h13, h99, h100, h101, h95, r, r2, r3, r4, l1, l2]; refine hL ?_; simp (maxSteps := 1000000) (disch := omega) [go_sem, h1, h8, h10, h11, h12, h13, h99, h100, h101, h95, r, r2, r3, r4, l1, l2]; refine D4 ?_ ?_ <;> intro g3 <;> (try simp at g3)
     ·rw [← hp] at hK; simp (maxSteps := 1000000) (disch := omega) [go_sem, h1, h8, h10, h11, h12, h13, h99, h100, h101]; exact AP (.refl hw) (BL (.cons (.v _) (.cons (.v _) .nil))) hK
     ·exfalso; omega
   ·simp only [puG, a3] at hp; by_cases h95x : x = 95
    ·subst h95x; rw [← hp] at hK; simp (maxSteps := 1000000) (disch := omega) [go_sem, h1, h8, h10, h11, h12, h13, h99, h100, h101]; refine Nk ?_; simp (maxSteps := 1000000) (disch := omega) [go_sem, h1, h8, h10, h11, h12, h13, h99, h100, h101]; refine Nk ?_; simp (maxSteps := 1000000) (disch := omega) [go_sem, h1, h8, h10, h11, h12, h13, h99, h100, h101]; exact AP (.refl hw) (BL (.cons (.v _) (.cons (.v _) .nil))) hK
    have h95n : ¬ x.toNat = 95 := fun q => h95x (UInt8.toNat_inj.1 q); have h95 : ¬ (x.toNat : Int) = 95 := by omega
    have hL : ∀ {K : An → A0 → Prop} {H : A0}, K (.ret (.v (.int .u8 (D1 x)))) H → A2 prog 139 [.v (.int .u8 (x.toNat : Int))] H K := fun h => Gj x h; generalize D1 x = L at *; rcases (show (¬ 48 ≤ x.toNat) ∨ (48 ≤ x.toNat ∧ ¬ x.toNat ≤ 57) by omega) with r | ⟨r, r3⟩
    ·have r2 : ¬ 48 ≤ (x.toNat : Int) := by omega
     simp (maxSteps := 1000000) (disch := omega) [go_sem, h1, h8, h10, h11, h12, h13, h99, h100, h101, h95, h95n, r, r2]; refine hL ?_; rcases (show (¬ 97 ≤ L) ∨ (97 ≤ L ∧ ¬ L ≤ 122) by omega) with l1 | ⟨l1, l2⟩
     ·rw [← hp] at hK; simp (maxSteps := 1000000) (disch := omega) [go_sem, h1, h8, h10, h11, h12, h13, h99, h100, h101, h95, r, r2, l1]; exact AP (.refl hw) (BL (.cons (.v _) (.cons (.v _) .nil))) hK
     ·rw [← hp] at hK; simp (maxSteps := 1000000) (disch := omega) [go_sem, h1, h8, h10, h11, h12, h13, h99, h100, h101, h95, r, r2, l1, l2]; refine hL ?_; simp (maxSteps := 1000000) (disch := omega) [go_sem, h1, h8, h10, h11, h12, h13, h99, h100, h101, h95, r, r2, l1, l2]; exact AP (.refl hw) (BL (.cons (.v _) (.cons (.v _) .nil))) hK
    ·have r2 : 48 ≤ (x.toNat : Int) := by omega
     have r4 : ¬ (x.toNat : Int) ≤ 57 := by omega
     simp (maxSteps := 1000000) (disch := omega) [go_sem, h1, h8, h10, h11, h12, h13, h99, h100, h101, h95, h95n, r, r2, r3, r4]; refine hL ?_; rcases (show (¬ 97 ≤ L) ∨ (97 ≤ L ∧ ¬ L ≤ 122) by omega) with l1 | ⟨l1, l2⟩
     ·rw [← hp] at hK; simp (maxSteps := 1000000) (disch := omega) [go_sem, h1, h8, h10, h11, h12, h13, h99, h100, h101, h95, r, r2, r3, r4, l1]; exact AP (.refl hw) (BL (.cons (.v _) (.cons (.v _) .nil))) hK
     ·rw [← hp] at hK; simp (maxSteps := 1000000) (disch := omega) [go_sem, h1, h8, h10, h11, h12, h13, h99, h100, h101, h95, r, r2, r3, r4, l1, l2]; refine hL ?_; simp (maxSteps := 1000000) (disch := omega) [go_sem, h1, h8, h10, h11, h12, h13, h99, h100, h101, h95, r, r2, r3, r4, l1, l2]; exact AP (.refl hw) (BL (.cons (.v _) (.cons (.v _) .nil))) hK
  ·have e : i = s.length := by omega
   subst e; rw [List.drop_length] at hp; have hpS : puS s = (n, 0) := hp.symm; rw [hpS] at hK; simp (maxSteps := 1000000) (disch := omega) [go_sem, h1, h8, h10, h11, h12, h13, h99, h100, h101]; exact AP (.refl hw) (BL (.cons (.v _) (.cons (.v _) .nil))) hK
theorem LC : ∀ (s : Str) (n : Nat), (puG n s).2 = 0 ∨ (puG n s).2 = 1 ∨ (puG n s).2 = 2
  | [], n => .inl rfl
  | x :: s, n => by
    unfold puG
    split
    · exact .inr (.inr rfl)
    · split
      · exact .inr (.inl rfl)
      · exact LC s _
theorem Ph (s : Str) : (puS s).2 = 0 ∨ (puS s).2 = 1 ∨ (puS s).2 = 2 := by
 unfold puS; split
 ·exact .inr (.inr rfl)
 ·exact LC s 0
theorem WD {w : World} {g : Gs} {vs : Array Value} {a b c d e : Value} (rl : RL w g vs [.v a, .v b, .v c, .v d, .v e]) : vs = #[a, b, c, d, e] := by
 obtain ⟨h1, h2⟩ := rl; have hs : vs.size = 5 := h1; apply Array.ext
 ·simpa using hs
 ·intro q hq hq'; have : q = 0 ∨ q = 1 ∨ q = 2 ∨ q = 3 ∨ q = 4 := by omega
  rcases this with rfl | rfl | rfl | rfl | rfl
  ·exact (h2 0 _ _ (Array.getElem?_eq_getElem (by omega)) rfl).v_eq
  ·exact (h2 1 _ _ (Array.getElem?_eq_getElem (by omega)) rfl).v_eq
  ·exact (h2 2 _ _ (Array.getElem?_eq_getElem (by omega)) rfl).v_eq
  ·exact (h2 3 _ _ (Array.getElem?_eq_getElem (by omega)) rfl).v_eq
  ·exact (h2 4 _ _ (Array.getElem?_eq_getElem (by omega)) rfl).v_eq
theorem Nl (hV : VOK prog H) (fn : ByteArray) (s : Str) (a b : Int) (k : Int) (hk : k = 1 ∨ k = 2) (hs : s.length ≤ 1000000000) (hK : K (.ret (.ifc 122 .any)) H) :
    A2 prog 62 [.v (.string fn), .v (str s), .v (.int .i64 a), .v (.int .i64 b), .v (.iface 119 (.int .i64 k))] H K := by
 refine ⟨by kernel_rfl, fun w g vs sm rl => ?_⟩; rw [WD rl]; obtain ⟨b1, b2, b3, b4, t2, t3, p2, p3, x4, m4, q1, q2, q3, q5, q6, q4⟩ := hV; obtain ⟨el2, fz2, hc2⟩ := CX sm q4 (i := 1) rfl; obtain ⟨el3, fz3, hc3⟩ := CX sm q4 (i := 2) rfl; have e2 : b2 = 0 := by
  have : prog.globalNamed "strconv.ErrSyntax" = some 0 := by kernel_rfl
  rw [this] at q2; exact (Option.some.inj q2).symm
 have e3 : b3 = 1 := by
  have : prog.globalNamed "strconv.ErrRange" = some 1 := by kernel_rfl
  rw [this] at q3; exact (Option.some.inj q3).symm
 subst e2; subst e3; have c2 : w.cell? ⟨0, 0, none⟩ = some (.iface t2 p2) := by simp only [World.cell?, hc2]; rfl
 have c3 : w.cell? ⟨1, 0, none⟩ = some (.iface t3 p3) := by simp only [World.cell?, hc3]; rfl
 have hl : (⟨s.toArray⟩ : ByteArray).size ≤ 281474976710656 := by show s.toArray.size ≤ _; simp; omega
 rcases hk with rfl | rfl
 ·refine (Any.strconv_toError_range Go.Proofs.Tryz.LB fn ⟨s.toArray⟩ a b _ w hl c3 (.inr ⟨_, _, rfl⟩)).mono ?_
  rintro e w' ⟨N, rfl, _, _, hB⟩
  exact ⟨_, g, H, .AR hB, sm.AR hB, .ret _ _ (.ifc _ _ _ (.any _)), hK⟩
 ·refine (Any.strconv_toError_syntax Go.Proofs.Tryz.LB fn ⟨s.toArray⟩ a b _ w hl c2 (.inr ⟨_, _, rfl⟩)).mono ?_
  rintro e w' ⟨N, rfl, _, _, hB⟩
  exact ⟨_, g, H, .AR hB, sm.AR hB, .ret _ _ (.ifc _ _ _ (.any _)), hK⟩
theorem HD {N : Nat} {tm : Tm} {o : Oper} {Kv : IV → A0 → Prop} {Qp : List PanicEntry → A0 → Prop} {t t' T : TypeId} {x : Operand} {v : Value} {ms : Array (String × TypeId)} (ho : o.op = .binOp .neq t x (.const .nilIface) t') (hok : okO N o = true) (hu : prog.underlying t = some (.interface ms))
    (hx : ev tm x = .v (.iface T v)) (hK : Kv (.v (.bool true)) H) : Aj prog N o tm H Kv Qp := by
 refine Fv (i := .v (.bool true)) (fun c e => by rw [ho] at e; cases e) (fun w g a r hN => ?_) hK; subst hN; simp only [okO, ho, Bool.and_eq_true, List.all_eq_true] at hok; have rx := r.ev (x := x) (hok.1 x (by simp [Op.operands])); rw [hx] at rx; have e := rx.v_eq; obtain ⟨v', h1, h2⟩ := HY (P := prog) (op := .neq) (t := t) (x := .iface T v) (i := .ifc T (.v v)) (r := .v (.bool true)) (s := True) (w := w) (g := g) (.ifc _ _ _ (.v _)) (by unfold FZ; rw [hu]) x; refine ⟨v', ?_, h2⟩; rw [Sem.run_bind] at h1; simp only [execOp, ho, e]; rw [Sem.run_bind]; simp only [Act.eval] at *; rw [Sem.run_bind]; rw [h1]; rfl
def TH (s : Str) (b c : Int) : Option (Int × Bool) := gd (b = 16 ∧ c = 32) (gd ((s.length : Int) ≤ 1000000000) (some (((puS s).1 : Int), decide (¬ (puS s).2 = 0))))
theorem Re (s : Str) (b c : Int) (hV : VOK prog H) {r : Int × Bool} (h : TH s b c = some r) (hK : K (.ret (.tu [.v (.int .u64 r.1), FH 122 r.2])) H) : A2 prog 119 [.v (str s), .v (.int .i64 b), .v (.int .i64 c)] H K := by
 obtain ⟨⟨hb, hc⟩, h1⟩ := A8.1 h; obtain ⟨hs, h2⟩ := A8.1 h1; clear h h1; subst hb; subst hc; cases h2; refine DZ (N := 26) func119 (by kernel_rfl) rfl (by kernel_rfl) (by kernel_rfl) fun hw hbd hnb => ?_; clear hbd hnb; simp (maxSteps := 1000000) (disch := omega) [go_sem]; refine Rc s (by omega) ?_; rcases Ph s with e | e | e
 ·rw [e] at hK ⊢; simp only [Rb, FH] at hK ⊢; simp at hK; simp (maxSteps := 1000000) (disch := omega) [go_sem, FZ, underlying65]; exact AP (.refl hw) (BL (.cons (.v _) (.cons (.v _) .nil))) hK
 ·rw [e] at hK ⊢; simp only [Rb, FH] at hK ⊢; simp at hK; simp (maxSteps := 1000000) (disch := omega) [go_sem]; refine HD rfl (by kernel_rfl) underlying65 (T := 119) (by simp [go_sem]; rfl) ?_; simp (maxSteps := 1000000) (disch := omega) [go_sem]; refine Nl (hV.of rfl) _ s _ _ 1 (.inl rfl) (by omega) ?_; simp (maxSteps := 1000000) (disch := omega) [go_sem]; exact AP (.refl hw) (BL (.cons (.v _) (.cons (.ifc _ _ .any) .nil))) hK
 ·rw [e] at hK ⊢; simp only [Rb, FH] at hK ⊢; simp at hK; simp (maxSteps := 1000000) (disch := omega) [go_sem]; refine HD rfl (by kernel_rfl) underlying65 (T := 119) (by simp [go_sem]; rfl) ?_; simp (maxSteps := 1000000) (disch := omega) [go_sem]; refine Nl (hV.of rfl) _ s _ _ 2 (.inr rfl) (by omega) ?_; simp (maxSteps := 1000000) (disch := omega) [go_sem]; exact AP (.refl hw) (BL (.cons (.v _) (.cons (.ifc _ _ .any) .nil))) hK
end Go.Idl
