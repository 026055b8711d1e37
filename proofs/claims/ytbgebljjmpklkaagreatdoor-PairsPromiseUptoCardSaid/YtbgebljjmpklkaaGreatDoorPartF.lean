/- A promise stays, whatever is paired: the saying of the case law 20 Part 6. Conditions: none. -/
import Derived.Test.YtbgebljjmpklkaaGreatDoorPartE
import Derived.Shelf.Strings.Split
import Derived.Lib.AtoiTie
import Derived.Sort.Walk0
import Derived.Lib.MinMax
set_option linter.unusedSimpArgs false
set_option linter.unusedVariables false
namespace Go.Idl
set_option maxHeartbeats 8000000
set_option maxRecDepth 60000
set_option pp.deepTerms false
open Go Go.Proofs.Tryz
theorem Rn.tuL {H J : A2} {ρ : Nat → Nat} {m : Nat} {l k : List IV} (h : RnL H J ρ m l k) : Rn H J ρ m (.tu l) (.tu k) := .tu _ _ h.len h.get
def opP {α β : Type} (x : Option α) (n : β) (s : α → β) : β :=
  match x with
  | none => n
  | some a => s a
theorem TF {α β : Type} {n : Option β} {s : α → Option β} {r : β} (h : opP none n s = some r) : n = some r := h
theorem TG {α β : Type} {a : α} {n : Option β} {s : α → Option β} {r : β} (h : opP (some a) n s = some r) : s a = some r := h
def G1 (_ : Unit) : List PanicEntry := [{ v := .iface 187 (.agg #[]), recovered := false }]
theorem G2 {H : A2} {K : Aw → A2 → Prop} {c : Bool} (hc : c = true) (hK : K (.ret (.tu [])) H) : Ae prog 136 [.v (.bool c)] H K := by
 subst hc; refine Ah (N := 6) func136 (by kernel_rfl) rfl (by kernel_rfl) (by kernel_rfl) fun cb hcb hw hbd hnb => ?_; subst hcb; refine AA _ (by kernel_rfl) _ _ _ ?_; simp -implicitDefEqProofs [go_sem]; exact AJ (.refl hw) (EA .nil) hK
theorem C8 {H : A2} {K : Aw → A2 → Prop} {c : Bool} (hc : c = false) (hP : K (.pan (G1 ())) H) : Ae prog 136 [.v (.bool c)] H K := by
 subst hc; refine Ah (N := 6) func136 (by kernel_rfl) rfl (by kernel_rfl) (by kernel_rfl) fun cb hcb hw hbd hnb => ?_; subst hcb; refine AA _ (by kernel_rfl) _ _ _ ?_; simp -implicitDefEqProofs [go_sem, bdP]; refine (show Az prog 6 _ _ _ _ _ from ?_); refine NL rfl (by kernel_rfl) (t := 187) (y := .agg #[]) (by simp [go_sem, vOf]) ?_; simp -implicitDefEqProofs [go_sem]; exact .inr hP
theorem TH {H : A2} {Q : Aw → FrameMode → A2 → Prop} {kd ke : Nat} (hQ : Q (.ret (.tu [])) .returning H) : BF prog 132 [.p kd 0, .p ke 0] .returning H Q := by
 refine K2 (N := 11) func132 (by kernel_rfl) rfl (by kernel_rfl) (by kernel_rfl) fun cb hcb hw => ?_; subst hcb; refine KZ fun cb hc => ?_; refine Ih (by kernel_rfl) ?_; simp [FU, go_sem, SA]; subst hc; refine Hx.of ?_; refine AA _ (by kernel_rfl) _ _ _ ?_; simp -implicitDefEqProofs [go_sem, MT]; exact AJ (.refl hw) (EA .nil) hQ
theorem NM {H : A2} {Q : Aw → FrameMode → A2 → Prop} (kd ke : Nat) (cd ce : IV) (okd : H.obj kd = some (.cells [cd])) (oke : H.obj ke = some (.cells [ce])) (hd : ¬ ke = kd)
    (hQ : Q (.ret (.tu [])) (.panicking [{ v := .iface 187 (.agg #[]), recovered := true }]) ((H.set kd (.cells [.v (.slice none 0 0)])).set ke (.cells [.v (.int .i64 160)]))) :
    BF prog 132 [.p kd 0, .p ke 0] (.panicking (G1 ())) H Q := by
 refine K2 (N := 11) func132 (by kernel_rfl) rfl (by kernel_rfl) (by kernel_rfl) fun cb hcb hw => ?_; subst hcb; refine KZ fun cb hc => ?_; refine Ih (by kernel_rfl) ?_; simp [FU, go_sem, SA, G1]; subst hc; refine Hx.of ?_; refine Am ?_; refine A4 fun cb hc => ?_; refine AA _ (by kernel_rfl) _ _ _ ?_; simp -implicitDefEqProofs [go_sem, MT]; subst hc; refine Ap (by simp [go_sem]) rfl ?_; refine A4 fun cb hc => ?_; refine AA _ (by kernel_rfl) _ _ _ ?_; simp -implicitDefEqProofs [go_sem]; refine (show Az prog 11 _ _ _ _ _ from ?_); refine Mr (T := 187) (c := .ag []) rfl (by kernel_rfl) (by simp [go_sem]) underlying187 (by simp) ?_; simp -implicitDefEqProofs [go_sem]; subst hc; refine An (by simp [go_sem]) rfl ?_; refine A4 fun cb hc => ?_; refine J0 ?_; refine (show IZ prog 11 _ [0, 1] _ _ _ from ?_); refine I_ rfl (fun _ _ _ _ _ => rfl) (E1 (by kernel_rfl) ?_); simp -implicitDefEqProofs [go_sem]; refine I_ rfl (fun _ _ _ _ _ => rfl) ?_; refine Ms rfl (by kernel_rfl) (k := H.next) (off := 0) (by simp [go_sem]) (by simp [go_sem]) (fun w => by kernel_rfl) ?_; refine MO ?_; have hkd : ¬ kd = H.next := fun q => by rw [q, hw _ (Nat.le_refl _)] at okd; cases okd
 have hke : ¬ ke = H.next := fun q => by rw [q, hw _ (Nat.le_refl _)] at oke; cases oke
 simp -implicitDefEqProofs [go_sem]; subst hc; refine AA _ (by kernel_rfl) _ _ _ ?_; simp -implicitDefEqProofs [go_sem, okd, oke, hd, hkd, hke]; have lkd : kd < H.next := Nat.lt_of_not_le fun q => by rw [hw _ q] at okd; cases okd
 have lke : ke < H.next := Nat.lt_of_not_le fun q => by rw [hw _ q] at oke; cases oke
 have hd' : ¬ kd = ke := fun q => hd q.symm; refine Bw (J := BE H [(kd, .cells [.v (.slice none 0 0)]), (ke, .cells [.v (.int .i64 160)])]) (BA.ioL _ ?_ ?_) (.same (EA .nil)) hQ
 ·simp only [AV, B5]; exact Ei (Ext.AG (Ext.AG (Ext.refl hw) kd) ke)
 ·intro p hp; simp only [List.mem_cons, List.not_mem_nil, or_false] at hp; rcases hp with hp | hp <;> subst hp
  ·exact ⟨lkd, by simp [go_sem, hd', hkd], BX⟩
  ·exact ⟨lke, by simp [go_sem], BX⟩
end Go.Idl
namespace Go.Idl
open Go Go.RowKit Go.Proofs Go.Shelf
variable {P : Program} {H : A2} {K : Aw → A2 → Prop}
theorem NN (w : World) (o : Obj) : Below w.heap.size w (w.alloc o) := by
 refine ⟨rfl, rfl, rfl, ?_, fun i hi => ?_⟩
 ·show w.heap.size ≤ (w.heap.push o).size; simp
 ·show (w.heap.push o)[i]? = w.heap[i]?; rw [Array.getElem?_push]; split
  ·omega
  ·rfl
theorem P4 (w : World) (xs : Array Value) (t : TypeId) (i : Nat) : World.cell? (w.alloc (.cells xs t)) ⟨w.heap.size, i, none⟩ = xs[i]? := by
 have h : (w.alloc (.cells xs t)).heap[w.heap.size]? = some (.cells xs t) := by
  show (w.heap.push (.cells xs t))[w.heap.size]? = _; simp
 unfold World.cell?; rw [h]; simp [Addr.spot]
theorem KF {ρ : Go.Shelf.Ren} {f : FuncId} (Ly : Lays.n147 P ρ) (hf : ρ.f 147 = f) (hi9 : (P.info? (ρ.t 9)).map (fun i => (i.zero, i.size, i.bytes)) = some (some (.string ByteArray.empty), 1, 16))
    (hg : P.globalNamed "internal/bytealg.MaxLen" = some (ρ.g 1)) (hb : Bi P f = true) (hV : VOK P H) (s t : List UInt8) (n : Nat) (hs : s.length < 4294967281) (ht : 1 ≤ t.length) (hn : 1 ≤ n) (hn63 : n ≤ 1000000)
    (hK : K (.ret (.sl 1 ((Lib.splitN s t n).map fun x => [.v (str x)]))) H) : Ae P f [.v (str s), .v (str t), .v (.int .i64 n)] H K := by
 refine ⟨hb, fun w g vs sm rl => ?_⟩; obtain ⟨x, y, z, rfl, hx, hy, hz⟩ : ∃ x y z, vs = #[x, y, z] ∧ R w g x (.v (str s)) ∧ R w g y (.v (str t)) ∧ R w g z (.v (.int .i64 n)) := by
  obtain ⟨l1, l2⟩ := rl; obtain ⟨vs⟩ := vs
  match vs, l1 with
  | [x, y, z], _ => exact ⟨x, y, z, rfl, l2 0 _ _ rfl rfl, l2 1 _ _ rfl rfl, l2 2 _ _ rfl rfl⟩
 rw [hx.v_eq, hy.v_eq, hz.v_eq, ← hf]; obtain ⟨b1, b2, b3, b4, t2, t3, p2, p3, x4, m4, q1, q2, q3, q5, q6, q4⟩ := hV; obtain ⟨el4, fz4, hc4⟩ := EC sm q4 (i := 3) rfl; have e4 : b4 = ρ.g 1 := by rw [hg] at q5; exact (Option.some.inj q5).symm
 subst e4; have hm : w.cell? ⟨ρ.g 1, 0, none⟩ = some (.int .i64 m4) := by simp only [World.cell?, hc4]; exact q6
 refine (Any.strings_SplitN Ly hi9 ⟨s.toArray⟩ ⟨t.toArray⟩ n m4 w (by show s.toArray.size < _; simpa using hs) hm (by show 1 ≤ t.toArray.size; simpa using ht) hn (by omega)).mono ?_
 rintro e w' ⟨rfl, rfl⟩
 generalize hM : min n ((ByteArray.mk s.toArray).size + 1) = M; have hM' : min n (s.length + 1) = M := by rw [← hM]; rfl
 have hMn : M ≤ n := by omega
 have hM1 : 1 ≤ M := by omega
 generalize hL : Lib.splitB (ByteArray.mk t.toArray) 0 (M - 1) (ByteArray.mk s.toArray) = L; have hlen : L.length ≤ M := by
  have := Lib.splitB_length_le (ByteArray.mk t.toArray) 0 (M - 1) (ByteArray.mk s.toArray); rw [hL] at this; omega
 have hdata : Lib.splitN s t n = L.map (·.data.toList) := by
  have := Lib.splitB_data (ByteArray.mk t.toArray) 0 (M - 1) (ByteArray.mk s.toArray); rw [hL] at this; rw [this, Lib.splitN, hM']
 rw [hdata] at hK; have hB := NN w (.cells (Lib.cellsOf L M) (ρ.t 9)); refine ⟨_, g, H, .B9 hB, sm.B9 hB, .ret _ _ ?_, hK⟩; have hll : (List.map (fun x => [IV.v (str x)]) (L.map (·.data.toList))).length = L.length := by simp
 rw [← hll]; refine .sl w.heap.size 0 M 1 _ (fun i j => (Lib.cellsOf L M)[i]?.getD undef) (fun ho => ?_) ?_ ?_ ?_ ?_ ?_ ?_ ?_
 ·exact sm.fresh (Nat.le_refl _) ho
 ·show w.heap.size < (w.heap.push _).size; simp
 ·have : L.length ≤ 1000000 := by omega
  have h2 : 1000000 ≤ Ch := by decide
  simp only [List.length_map]; omega
 ·simpa using hlen
 ·intro e he; simp only [List.map_map, List.mem_map] at he; obtain ⟨_, _, rfl⟩ := he; rfl
 all_goals
  intro i e j c h1 h2; rw [List.getElem?_map, List.getElem?_map] at h1; cases hi : L[i]? with
  | none => rw [hi] at h1; cases h1
  | some b =>
   rw [hi] at h1; simp only [Option.map_some, Option.some.injEq] at h1; subst h1; have hil := (List.getElem?_eq_some_iff.1 hi).1; have hcell : (Lib.cellsOf L M)[i]? = some (.string b) := by
    simp only [Lib.cellsOf, List.getElem?_toArray]; rw [List.getElem?_append_left (by simpa using hil), List.getElem?_map, hi]; rfl
   cases j with
   | succ j => simp at h2
   | zero =>
    simp only [List.getElem?_cons_zero, Option.some.injEq] at h2; subst h2
    first
     | (show World.cell? (w.alloc _) ⟨w.heap.size, 0 + i * 1 + 0, none⟩ = _
        have e1 : 0 + i * 1 + 0 = i := by omega
        rw [e1]
        rw [hcell]
        exact (P4 w _ _ i).trans hcell)
     | (rw [hcell]; rfl)
     | (rw [hcell]
        exact .v _)
end Go.Idl
namespace Go.Idl
open Go Go.Proofs.Tryz Go.RowKit Go.Proofs Go.Shelf
variable {H : A2} {K : Aw → A2 → Prop}
@[go_sem] theorem iM {b : Bool} {t : TypeId} : MT prog .neq 146 (LU t b) = some (True, .v (.bool b)) := QY underlying146 rfl
noncomputable def F65 (s t : List UInt8) : Option (List UInt8 × List UInt8 × Bool) := gd ((s.length : Int) < 4294967281) (some (Lib.cut s t))
theorem TI (s t : List UInt8) (hV : VOK prog H) {r : List UInt8 × List UInt8 × Bool} (h : F65 s t = some r) (hK : K (.ret (.tu [.v (str r.1), .v (str r.2.1), .v (.bool r.2.2)])) H) : Ae prog 65 [.v (str s), .v (str t)] H K := by
 obtain ⟨h0, h⟩ := Aj.1 h; cases h; exact OM Go.Proofs.Tryz.Vl rfl (by kernel_rfl) (by kernel_rfl) hV s t (by omega) hK
noncomputable def Z1 (s : List UInt8) : Option (Int × Bool) := gd ((s.length : Int) ≤ 281474976710656) (some (CR s))
theorem VO (s : List UInt8) (hV : VOK prog H) {r : Int × Bool} (h : Z1 s = some r) (hK : K (.ret (.tu [.v (.int .i64 r.1), LU 238 r.2])) H) : Ae prog 141 [.v (str s)] H K := by
 obtain ⟨h0, h⟩ := Aj.1 h; cases h; exact Nr Go.Proofs.Tryz.SS rfl rfl (by kernel_rfl) hV s (by omega) hK
noncomputable def F98 (s t : List UInt8) (n : Int) : Option (List (List UInt8)) := gd ((s.length : Int) < 4294967281) (gd (1 ≤ (t.length : Int)) (gd (1 ≤ n ∧ n ≤ 1000000) (some (Lib.splitN s t n.toNat))))
theorem Z2 (s t : List UInt8) (n : Int) (hV : VOK prog H) {r : List (List UInt8)} (h : F98 s t n = some r) (hK : K (.ret (.sl 1 (r.map fun x => [.v (str x)]))) H) : Ae prog 98 [.v (str s), .v (str t), .v (.int .i64 n)] H K := by
 obtain ⟨h0, h⟩ := Aj.1 h; obtain ⟨h1, h⟩ := Aj.1 h; obtain ⟨h2, h⟩ := Aj.1 h; cases h; obtain ⟨m, rfl⟩ : ∃ m : Nat, n = (m : Int) := ⟨n.toNat, by omega⟩; exact KF Go.Proofs.Tryz.Vk rfl (by kernel_rfl) (by kernel_rfl) (by kernel_rfl) hV s t m (by omega) (by omega) (by omega) (by omega) hK
end Go.Idl
namespace Go.Idl
set_option maxHeartbeats 8000000
set_option pp.deepTerms false
set_option maxRecDepth 60000
open Go Go.Proofs.Tryz
structure P5 where
 fs : List UInt8
deriving DecidableEq
def P5.zero : P5 := ⟨[]⟩
structure By where
 Ay : P5
 Bf : Bool
deriving DecidableEq
def By.zero : By := ⟨P5.zero, false⟩
noncomputable def R7 (a0 : By) (a1 : Int) : Option ((List UInt8) × By) :=
 gd (0 ≤ a1 ∧ a1 ≤ 255) ((F65 a0.Ay.fs ([UInt8.ofNat a1.toNat])).bind fun (x4 : (List UInt8) × (List UInt8) × Bool) => if a0.Bf = true then (some ((x4.1, (⟨(⟨x4.2.1⟩ : P5), true⟩ : By)))) else (some ((x4.1, (⟨(⟨x4.2.1⟩ : P5), !x4.2.2⟩ : By)))))
theorem Mt {H : A2} {K : Aw → A2 → Prop} (a0 : By) (a1 : Int) (ka0 : Nat) (Aq : H.obj ka0 = some (.cells ([.v (str a0.Ay.fs), .v (.bool a0.Bf)]))) (hV : VOK prog H) {r : (List UInt8) × By} (h : R7 a0 a1 = some r) (hK : K (.ret (.v (str r.1))) (BE H [(ka0, .cells ([.v (str r.2.Ay.fs), .v (.bool r.2.Bf)]))])) : Ae prog 103 [.p ka0 0, .v (.int .u8 a1)] H K := by
 refine Ah (N := 38) func103 (by kernel_rfl) rfl (by kernel_rfl) (by kernel_rfl) fun cb hcb hw hbd hnb => ?_; clear hbd hnb; subst hcb; unfold R7 at h; have Df : ka0 < H.next := Nat.lt_of_not_le fun q => by rw [hw _ q] at Aq; cases Aq
 refine wG ?_; refine A4 fun cb hc2 => ?_; refine AQ [8] [0, 1, 2, 3, 4, 5, 6, 7, 8, 9, 10, 11, 12, 13, 14, 15] (by kernel_rfl) (by kernel_rfl) (fun _ _ _ _ h => h) ?_; obtain ⟨g3, h⟩ := Aj.1 h; refine sF Aq ?_; obtain ⟨x4, hx4, h⟩ := A6 h; refine CQ.mkT (fun H0 => VOK prog H0) _ (by exact hV.of rfl) (fun H0 K0 hT hK => TI a0.Ay.fs ([UInt8.ofNat a1.toNat]) hT hx4 hK) ?_; refine sG ?_; subst hc2; refine A4 fun cb hc5 => ?_; refine vF Aq ?_; refine A9 h eA ?_ ?_
 ·intro c8 h; refine sF Aq ?_; subst hc5; refine wG ?_; refine vO ?_; obtain rfl := sI h; refine sG ?_; refine Ar (r' := .v (str x4.1)) (io1 ka0 (.cells ([.v (str x4.2.1), .v (.bool true)])) (by exact As (Ext.AG (Ext.refl hw) ka0)) (by omega) (by simp -implicitDefEqProofs (disch := omega) [go_sem]) (by exact Bo)) rfl (.same (by exact nbA)) hK
 intro c8 h; simp (disch := omega) at c8; refine sF Aq ?_; subst hc5; refine wG ?_; refine vO ?_; obtain rfl := sI h; refine sG ?_; refine Ar (r' := .v (str x4.1)) (io1 ka0 (.cells ([.v (str x4.2.1), .v (.bool (!x4.2.2))])) (by exact As (Ext.AG (Ext.refl hw) ka0)) (by omega) (by simp -implicitDefEqProofs (disch := omega) [go_sem]) (by exact Bo)) rfl (.same (by exact nbA)) hK
noncomputable def R8 (a0 : By) (a1 : List UInt8) (a2 : Int) : Option (Int × By) :=
 (Z1 a1).bind fun (x3 : Int × Bool) => if x3.2 = true then (some ((0, (⟨a0.Ay, true⟩ : By)))) else (if x3.1 < 1 then (some ((0, (⟨a0.Ay, true⟩ : By)))) else (if a2 < x3.1 then (some ((0, (⟨a0.Ay, true⟩ : By)))) else ((F95 x3.1).bind fun (x12 : (List UInt8)) => if ¬ x12 = a1 then (some ((0, (⟨a0.Ay, true⟩ : By)))) else (some (x3.1, a0)))))
theorem Q3 {H : A2} {K : Aw → A2 → Prop} (a0 : By) (a1 : List UInt8) (a2 : Int) (ka0 : Nat) (Aq : H.obj ka0 = some (.cells ([.v (str a0.Ay.fs), .v (.bool a0.Bf)]))) (hV : VOK prog H) {r : Int × By} (h : R8 a0 a1 a2 = some r) (hK : K (.ret (.v (.int .i64 r.1))) (BE H [(ka0, .cells ([.v (str r.2.Ay.fs), .v (.bool r.2.Bf)]))])) : Ae prog 104 [.p ka0 0, .v (str a1), .v (.int .i64 a2)] H K := by
 refine Ah (N := 35) func104 (by kernel_rfl) rfl (by kernel_rfl) (by kernel_rfl) fun cb hcb hw hbd hnb => ?_; clear hbd hnb; subst hcb; unfold R8 at h; have Df : ka0 < H.next := Nat.lt_of_not_le fun q => by rw [hw _ q] at Aq; cases Aq
 refine wG ?_; refine A4 fun cb hc2 => ?_; refine vG ?_; obtain ⟨x3, hx3, h⟩ := A6 h; refine VO a1 (by exact hV.of rfl) hx3 ?_; refine sG ?_; subst hc2; refine A4 fun cb hc4 => ?_; refine A4 fun cb hc5 => ?_; refine vG ?_; refine A9 h eA ?_ ?_
 ·intro c19 h; refine sG ?_; subst hc5; refine An eA rfl ?_; refine wF Aq ?_; refine wG ?_; refine vO ?_; obtain rfl := sI h; refine sG ?_; refine Ar (r' := .v (.int .i64 0)) (io1 ka0 (.cells ([.v (str a0.Ay.fs), .v (.bool true)])) (by exact As (Ext.AG (Ext.refl hw) ka0)) (by omega) (by simp -implicitDefEqProofs (disch := omega) [go_sem]) (by exact Bo)) rfl (.same (by exact nbA)) hK
 intro c19 h; simp (disch := omega) at c19; refine sG ?_; refine A9 h rfl ?_ ?_
 ·intro c18 h; refine sG ?_; subst hc5; refine An eA rfl ?_; refine wF Aq ?_; refine wG ?_; refine vO ?_; obtain rfl := sI h; refine sG ?_; refine Ar (r' := .v (.int .i64 0)) (io1 ka0 (.cells ([.v (str a0.Ay.fs), .v (.bool true)])) (by exact As (Ext.AG (Ext.refl hw) ka0)) (by omega) (by simp -implicitDefEqProofs (disch := omega) [go_sem]) (by exact Bo)) rfl (.same (by exact nbA)) hK
 intro c18 h; simp (disch := omega) at c18; refine sG ?_; refine A9 h rfl ?_ ?_
 ·intro c17 h; refine sG ?_; subst hc5; refine An eA rfl ?_; refine wF Aq ?_; refine wG ?_; refine vO ?_; obtain rfl := sI h; refine sG ?_; refine Ar (r' := .v (.int .i64 0)) (io1 ka0 (.cells ([.v (str a0.Ay.fs), .v (.bool true)])) (by exact As (Ext.AG (Ext.refl hw) ka0)) (by omega) (by simp -implicitDefEqProofs (disch := omega) [go_sem]) (by exact Bo)) rfl (.same (by exact nbA)) hK
 intro c17 h; simp (disch := omega) at c17; refine sG ?_; obtain ⟨x12, hx12, h⟩ := A6 h; refine T0 x3.1 (by exact (VOK.of hV rfl).tok) hx12 ?_; refine sG ?_; subst hc5; refine Ad h eA rfl ?_ ?_
 ·intro c13 h; refine wF Aq ?_; refine wG ?_; refine vO ?_; obtain rfl := sI h; refine sG ?_; refine Ar (r' := .v (.int .i64 0)) (io1 ka0 (.cells ([.v (str a0.Ay.fs), .v (.bool true)])) (by exact As (Ext.AG (Ext.refl hw) ka0)) (by omega) (by simp -implicitDefEqProofs (disch := omega) [go_sem]) (by exact Bo)) rfl (.same (by exact nbA)) hK
 intro c13 h; simp (disch := omega) at c13; refine vO ?_; subst hc4; refine wG ?_; refine vO ?_; obtain rfl := sI h; refine sG ?_; refine Ar (r' := .v (.int .i64 x3.1)) (io1 ka0 (.cells ([.v (str a0.Ay.fs), .v (.bool a0.Bf)])) (by exact As (Ext.AG (Ext.refl hw) ka0)) (by omega) (by with_reducible assumption) (by exact Bo)) rfl (.same (by exact nbA)) hK
noncomputable def VP (a0 : By) : Option ((List UInt8) × By) :=
 (R7 a0 32).bind fun (x3 : (List UInt8) × By) => (R8 x3.2 x3.1 200).bind fun (x4 : Int × By) => if x4.2.Bf = true then (some (([], (⟨x4.2.Ay, true⟩ : By)))) else (if (x4.2.Ay.fs.length : Int) ≤ x4.1 then (some (([], (⟨x4.2.Ay, true⟩ : By)))) else (gd (0 ≤ x4.1 ∧ x4.1 < x4.2.Ay.fs.length) (if ¬ (((x4.2.Ay.fs.getD x4.1.toNat 0).toNat : Int)) = 10 then (some (([], (⟨x4.2.Ay, true⟩ : By)))) else (gd (0 ≤ x4.1) (gd (x4.1 ≤ x4.2.Ay.fs.length) (gd (0 ≤ (IntKind.i64.wrap (x4.1 + 1))) (gd (IntKind.i64.wrap (x4.1 + 1) ≤ x4.2.Ay.fs.length) (some (((x4.2.Ay.fs.take x4.1.toNat), (⟨(⟨x4.2.Ay.fs.drop (IntKind.i64.wrap (x4.1 + 1)).toNat⟩ : P5), x4.2.Bf⟩ : By)))))))))))
theorem CI {H : A2} {K : Aw → A2 → Prop} (a0 : By) (ka0 : Nat) (Aq : H.obj ka0 = some (.cells ([.v (str a0.Ay.fs), .v (.bool a0.Bf)]))) (hV : VOK prog H) {r : (List UInt8) × By} (h : VP a0 = some r) (hK : K (.ret (.v (str r.1))) (BE H [(ka0, .cells ([.v (str r.2.Ay.fs), .v (.bool r.2.Bf)]))])) : Ae prog 105 [.p ka0 0] H K := by
 refine Ah (N := 56) func105 (by kernel_rfl) rfl (by kernel_rfl) (by kernel_rfl) fun cb hcb hw hbd hnb => ?_; clear hbd hnb; subst hcb; unfold VP at h; have Df : ka0 < H.next := Nat.lt_of_not_le fun q => by rw [hw _ q] at Aq; cases Aq
 refine A4 fun cb hc1 => ?_; refine vcK ?_
 try simp -implicitDefEqProofs (disch := omega) [go_sem, Aq]
 subst hc1; refine A4 fun cb hc2 => ?_; refine vcK ?_
 try simp -implicitDefEqProofs (disch := omega) [go_sem, Aq]
 obtain ⟨x3, hx3, h⟩ := A6 h; refine Ae.eqA (args' := [.p ka0 0, .v (.int .u8 32)]) (by first | with_reducible rfl | (simp -implicitDefEqProofs (disch := omega) [go_sem, Aq] <;> omega)) (Mt a0 32 ka0 (by first | with_reducible assumption | simp -implicitDefEqProofs (disch := omega) [go_sem, Aq]) (by first | exact hV.of rfl | exact hV.of ((Ext.AG (Ext.refl hw) ka0)).sn | exact hV.of (Ext.sn (H := H) (by exact As (Ext.AG (Ext.refl hw) ka0))) | exact (VOK.of hV rfl).tok | exact (VOK.of hV ((Ext.AG (Ext.refl hw) ka0)).sn).tok | exact (VOK.of hV (Ext.sn (H := H) (by exact As (Ext.AG (Ext.refl hw) ka0)))).tok) hx3 ?_)
 try simp -implicitDefEqProofs (disch := omega) [go_sem, Aq]
 obtain ⟨x4, hx4, h⟩ := A6 h; refine Ae.eqA (args' := [.p ka0 0, .v (str x3.1), .v (.int .i64 200)]) (by first | with_reducible rfl | (simp -implicitDefEqProofs (disch := omega) [go_sem, Aq] <;> omega)) (Q3 x3.2 x3.1 200 ka0 (by first | with_reducible assumption | simp -implicitDefEqProofs (disch := omega) [go_sem, Aq]) (by first | exact hV.of rfl | exact hV.of ((Ext.AG (Ext.refl hw) ka0)).sn | exact hV.of (Ext.sn (H := H) (by exact As (Ext.AG (Ext.refl hw) ka0))) | exact (VOK.of hV rfl).tok | exact (VOK.of hV ((Ext.AG (Ext.refl hw) ka0)).sn).tok | exact (VOK.of hV (Ext.sn (H := H) (by exact As (Ext.AG (Ext.refl hw) ka0)))).tok) hx4 ?_)
 try simp -implicitDefEqProofs (disch := omega) [go_sem, Aq]
 subst hc2; refine A4 fun cb hc5 => ?_; refine A4 fun cb hc6 => ?_; refine vcK ?_
 try simp -implicitDefEqProofs (disch := omega) [go_sem, Aq]
 refine A9 h (by first | with_reducible rfl | (simp -implicitDefEqProofs (disch := omega) [go_sem, Aq] <;> omega)) ?_ ?_
 ·intro c23 h
  try simp (disch := omega) at c23
  try simp -implicitDefEqProofs (disch := omega) [go_sem, Aq]
  subst hc6; refine An (by first | with_reducible rfl | (simp -implicitDefEqProofs (disch := omega) [go_sem, Aq] <;> omega)) rfl ?_; refine A4 fun cb hc7 => ?_; refine vcK ?_
  try simp -implicitDefEqProofs (disch := omega) [go_sem, Aq]
  subst hc7; refine A4 fun cb hc8 => ?_; refine vcK ?_
  try simp -implicitDefEqProofs (disch := omega) [go_sem, Aq]
  subst hc8; refine vcK ?_; simp -implicitDefEqProofs only [go_sem]; have er := Option.some.inj h; subst er
  try simp -implicitDefEqProofs (disch := omega) [go_sem, Aq]
  refine Ar (r' := .v (str [])) (io1 ka0 (.cells ([.v (str x4.2.Ay.fs), .v (.bool true)])) (by exact As (Ext.AG (Ext.refl hw) ka0)) (by omega) (by first | with_reducible assumption | rfl | simp -implicitDefEqProofs (disch := omega) [go_sem, Aq]) (by first | exact nbA | exact Bo | exact BX)) (by first | with_reducible rfl | (simp -implicitDefEqProofs (disch := omega) [go_sem, Aq] <;> omega)) (.same (by first | exact nbA | exact Bo | exact BX)) hK
 ·intro c23 h
  try simp (disch := omega) at c23
  try simp -implicitDefEqProofs (disch := omega) [go_sem, Aq]
  refine A9 h (by first | with_reducible rfl | (simp -implicitDefEqProofs (disch := omega) [go_sem, Aq] <;> omega)) ?_ ?_
  ·intro c22 h
   try simp (disch := omega) at c22
   try simp -implicitDefEqProofs (disch := omega) [go_sem, Aq]
   subst hc6; refine An (by first | with_reducible rfl | (simp -implicitDefEqProofs (disch := omega) [go_sem, Aq] <;> omega)) rfl ?_; refine A4 fun cb hc9 => ?_; refine vcK ?_
   try simp -implicitDefEqProofs (disch := omega) [go_sem, Aq]
   subst hc9; refine A4 fun cb hc10 => ?_; refine vcK ?_
   try simp -implicitDefEqProofs (disch := omega) [go_sem, Aq]
   subst hc10; refine vcK ?_; simp -implicitDefEqProofs only [go_sem]; have er := Option.some.inj h; subst er
   try simp -implicitDefEqProofs (disch := omega) [go_sem, Aq]
   refine Ar (r' := .v (str [])) (io1 ka0 (.cells ([.v (str x4.2.Ay.fs), .v (.bool true)])) (by exact As (Ext.AG (Ext.refl hw) ka0)) (by omega) (by first | with_reducible assumption | rfl | simp -implicitDefEqProofs (disch := omega) [go_sem, Aq]) (by first | exact nbA | exact Bo | exact BX)) (by first | with_reducible rfl | (simp -implicitDefEqProofs (disch := omega) [go_sem, Aq] <;> omega)) (.same (by first | exact nbA | exact Bo | exact BX)) hK
  ·intro c22 h
   try simp (disch := omega) at c22
   obtain ⟨g11, h⟩ := Aj.1 h
   try simp (disch := omega) at g11
   try simp -implicitDefEqProofs (disch := omega) [go_sem, Aq]
   subst hc6; refine Ad h (by first | with_reducible rfl | (simp -implicitDefEqProofs (disch := omega) [go_sem, Aq] <;> omega)) rfl ?_ ?_
   ·intro c12 h
    try simp (disch := omega) at c12
    refine A4 fun cb hc13 => ?_; refine vcK ?_
    try simp -implicitDefEqProofs (disch := omega) [go_sem, Aq]
    subst hc13; refine A4 fun cb hc14 => ?_; refine vcK ?_
    try simp -implicitDefEqProofs (disch := omega) [go_sem, Aq]
    subst hc14; refine vcK ?_; simp -implicitDefEqProofs only [go_sem]; have er := Option.some.inj h; subst er
    try simp -implicitDefEqProofs (disch := omega) [go_sem, Aq]
    refine Ar (r' := .v (str [])) (io1 ka0 (.cells ([.v (str x4.2.Ay.fs), .v (.bool true)])) (by exact As (Ext.AG (Ext.refl hw) ka0)) (by omega) (by first | with_reducible assumption | rfl | simp -implicitDefEqProofs (disch := omega) [go_sem, Aq]) (by first | exact nbA | exact Bo | exact BX)) (by first | with_reducible rfl | (simp -implicitDefEqProofs (disch := omega) [go_sem, Aq] <;> omega)) (.same (by first | exact nbA | exact Bo | exact BX)) hK
   ·intro c12 h
    try simp (disch := omega) at c12
    refine vcK ?_; simp -implicitDefEqProofs only [go_sem]; subst hc5; refine A4 fun cb hc15 => ?_; refine vcK ?_; obtain ⟨g16, h⟩ := Aj.1 h
    try simp (disch := omega) at g16
    obtain ⟨g17, h⟩ := Aj.1 h
    try simp (disch := omega) at g17
    try simp -implicitDefEqProofs (disch := omega) [go_sem, Aq]
    subst hc15; refine A4 fun cb hc18 => ?_; refine vcK ?_; obtain ⟨g19, h⟩ := Aj.1 h
    try simp (disch := omega) at g19
    obtain ⟨g20, h⟩ := Aj.1 h
    try simp (disch := omega) at g20
    try simp -implicitDefEqProofs (disch := omega) [go_sem] at g19
    try simp -implicitDefEqProofs (disch := omega) [go_sem] at g20
    try simp -implicitDefEqProofs (disch := omega) [go_sem, Aq]
    subst hc18; refine A4 fun cb hc21 => ?_; refine vcK ?_
    try simp -implicitDefEqProofs (disch := omega) [go_sem, Aq]
    subst hc21; refine vcK ?_; simp -implicitDefEqProofs only [go_sem]; have er := Option.some.inj h; subst er
    try simp -implicitDefEqProofs (disch := omega) [go_sem, Aq]
    refine Ar (r' := .v (str (x4.2.Ay.fs.take x4.1.toNat))) (io1 ka0 (.cells ([.v (str (x4.2.Ay.fs.drop (IntKind.i64.wrap (x4.1 + 1)).toNat)), .v (.bool x4.2.Bf)])) (by exact As (Ext.AG (Ext.refl hw) ka0)) (by omega) (by first | with_reducible assumption | rfl | simp -implicitDefEqProofs (disch := omega) [go_sem, Aq]) (by first | exact nbA | exact Bo | exact BX)) (by first | with_reducible rfl | (simp -implicitDefEqProofs (disch := omega) [go_sem, Aq] <;> omega)) (.same (by first | exact nbA | exact Bo | exact BX)) hK
noncomputable def IT (a0 : List UInt8) (a1 : Int) (v5 : Int) : Option (Int ⊕ (Unit ⊕ ((List UInt8) × (List UInt8) × Bool))) :=
 if v5 < (a0.length : Int) then (gd (0 ≤ v5 ∧ v5 < a0.length) (if (((a0.getD v5.toNat 0).toNat : Int)) = a1 then (gd (0 ≤ v5) (gd (v5 ≤ a0.length) (gd (0 ≤ (IntKind.i64.wrap (v5 + 1))) (gd (IntKind.i64.wrap (v5 + 1) ≤ a0.length) (some (.inr (.inr (((a0.take v5.toNat), a0.drop (IntKind.i64.wrap (v5 + 1)).toNat, true))))))))) else (some (.inl (IntKind.i64.wrap (v5 + 1)))))) else (some (.inr (.inl ())))
noncomputable def Mu  : Option Int :=
 some (-1)
noncomputable def F9 (a0 : List (List UInt8)) (a1 : List UInt8) (v5 : Int) : Option (Int ⊕ (Unit ⊕ Int)) :=
 if v5 < (a0.length : Int) then (gd (0 ≤ v5 ∧ v5 < a0.length) (if a1 = (a0.getD v5.toNat []) then (some (.inr (.inr v5))) else (some (.inl (IntKind.i64.wrap (v5 + 1)))))) else (some (.inr (.inl ())))
noncomputable def VQ (a0 : List (List UInt8)) (a1 : List UInt8) : Option Int :=
 (AN (fun (s : Int) => F9 a0 a1 s) 0).bind fun y => Sum.elim (fun (e : Unit) => Mu) (fun (q : Int) => some q) y
theorem VR {H : A2} {K : Aw → A2 → Prop} (a0 : List (List UInt8)) (a1 : List UInt8) {r : Int} (h : VQ a0 a1 = some r) (hK : K (.ret (.v (.int .i64 r))) H) : Ae prog 140 [.sl 1 (a0.map fun x => [.v (str x)]), .v (str a1)] H K := by
 refine Ah (N := 19) func140 (by kernel_rfl) rfl (by kernel_rfl) (by kernel_rfl) fun cb hcb hw hbd hnb => ?_; clear hbd hnb; subst hcb; unfold VQ at h; refine wG ?_; refine A4 fun cb hc2 => ?_; refine wG ?_; obtain ⟨y4, hl4q, hk4⟩ := A6 h; refine AE (fun tm' H' => .inl () = y4 ∧ H = H') ?_ fun cb hc4 => ?_
 ·rintro tm4e H4e ⟨rfl, rfl⟩
  have h : Mu = some r := hk4; unfold Mu at h; simp -implicitDefEqProofs only [go_sem]; subst hc2; refine wG ?_; refine vO ?_; obtain rfl := sI h; refine sG ?_; exact Av (.refl hw) hK
 refine Am ?_; refine AD (fun (s : Int) tm' H' => H = H' ∧ tm' 0 = .sl 1 (a0.map fun x => [.v (str x)]) ∧ tm' 1 = .v (str a1) ∧ tm' 7 = .v (.int .i64 (a0.length : Int)) ∧ tm' 8 = .v (.int .i64 s)) hl4q ?_ ?_
 ·exact sm
 rintro I4 hI4 v5 x4 tm4 H4 ⟨rfl, Bk, JR, Tf, OQ⟩ h hret4
 replace h : F9 a0 a1 v5 = some x4 := h; unfold F9 at h; refine wF (nd Tf OQ) ?_; refine A4 fun cb hc8 => ?_; refine Ad h eA rfl ?_ ?_
 ·intro c9 h; refine vO ?_; subst hc8; refine A4 fun cb hc10 => ?_; refine Am ?_; refine wF OQ ?_; obtain ⟨g13, h⟩ := Aj.1 h; refine wF (nd Bk JR) ?_; refine Ad h eA rfl ?_ ?_
  ·intro c14 h; simp (disch := omega) at c14; refine wG ?_; refine vO ?_; obtain rfl := sI h; obtain rfl := hret4 _ rfl; replace h : some v5 = some r := hk4; obtain rfl := sI h; refine sG ?_; exact Av (.refl hw) hK
  intro c14 h; simp (disch := omega) at c14; refine vO ?_; subst hc10; refine vF OQ ?_; obtain rfl := sI h; refine Ao hI4 (IntKind.i64.wrap (v5 + 1)) ?_; exact smF (nd Bk (nd JR Tf))
 intro c9 h; simp (disch := omega) at c9; refine vO ?_; obtain rfl := sI h; have hy4 := hret4 _ rfl; refine hc4 _ _ ?_; refine .same ⟨hy4, rfl⟩
end Go.Idl
namespace Go.Idl
open Go
theorem B6 {i : Nat} (h : i < 9223372036854775807) : IntKind.i64.wrap ((i : Int) + 1) = ((i + 1 : Nat) : Int) := by
 rw [wrap_i64 (by omega) (by omega)]; rfl
theorem D5 {ρ : Type} {step : Int → Option (Int ⊕ ρ)} {Post : ρ → Prop} (n : Nat) (Inv : Nat → Prop) (h0 : Inv 0)
    (hs : ∀ i : Nat, i < n → Inv i → (step i = some (.inl ((i + 1 : Nat) : Int)) ∧ Inv (i + 1)) ∨ ∃ r, step i = some (.inr r) ∧ Post r)
    (hf : Inv n → ∃ r, step n = some (.inr r) ∧ Post r) : ∃ r, AN step 0 = some r ∧ Post r := by
 refine DN (fun s : Int => ∃ i : Nat, i ≤ n ∧ s = (i : Int) ∧ Inv i) (fun s : Int => n - s.toNat) ?_ ⟨0, Nat.zero_le _, rfl, h0⟩
 rintro s ⟨i, hi, rfl, hI⟩
 by_cases h : i < n
 ·rcases hs i h hI with ⟨h1, h2⟩ | h1
  ·exact .inl ⟨_, h1, ⟨i + 1, h, rfl, h2⟩, by simp; omega⟩
  ·exact .inr h1
 ·have e : i = n := by omega
  subst e; exact .inr (hf hI)
theorem P6 {σ ρ : Type} {step : σ × Int → Option ((σ × Int) ⊕ ρ)} {Post : ρ → Prop} (n : Nat) (Inv : Nat → σ → Prop) {a : σ} (h0 : Inv 0 a)
    (hs : ∀ (i : Nat) (a : σ), i < n → Inv i a → (∃ a', step (a, (i : Int)) = some (.inl (a', ((i + 1 : Nat) : Int))) ∧ Inv (i + 1) a') ∨ ∃ r, step (a, (i : Int)) = some (.inr r) ∧ Post r)
    (hf : ∀ a, Inv n a → ∃ r, step (a, (n : Int)) = some (.inr r) ∧ Post r) : ∃ r, AN step (a, 0) = some r ∧ Post r := by
 refine DN (fun s : σ × Int => ∃ i : Nat, i ≤ n ∧ s.2 = (i : Int) ∧ Inv i s.1) (fun s : σ × Int => n - s.2.toNat) ?_ ⟨0, Nat.zero_le _, rfl, h0⟩
 rintro ⟨a, s⟩ ⟨i, hi, hs2, hI⟩
 simp only at hs2 hI; subst hs2; by_cases h : i < n
 ·rcases hs i a h hI with ⟨a', h1, h2⟩ | h1
  ·exact .inl ⟨_, h1, ⟨i + 1, h, rfl, h2⟩, by simp; omega⟩
  ·exact .inr h1
 ·have e : i = n := by omega
  subst e; exact .inr (hf a hI)
theorem P7 {σ ρ : Type} {step : Int × σ → Option ((Int × σ) ⊕ ρ)} {Post : ρ → Prop} (n : Nat) (Inv : Nat → σ → Prop) {a : σ} (h0 : Inv 0 a)
    (hs : ∀ (i : Nat) (a : σ), i < n → Inv i a → (∃ a', step ((i : Int), a) = some (.inl (((i + 1 : Nat) : Int), a')) ∧ Inv (i + 1) a') ∨ ∃ r, step ((i : Int), a) = some (.inr r) ∧ Post r)
    (hf : ∀ a, Inv n a → ∃ r, step ((n : Int), a) = some (.inr r) ∧ Post r) : ∃ r, AN step (0, a) = some r ∧ Post r := by
 refine DN (fun s : Int × σ => ∃ i : Nat, i ≤ n ∧ s.1 = (i : Int) ∧ Inv i s.2) (fun s : Int × σ => n - s.1.toNat) ?_ ⟨0, Nat.zero_le _, rfl, h0⟩
 rintro ⟨s, a⟩ ⟨i, hi, hs2, hI⟩
 simp only at hs2 hI; subst hs2; by_cases h : i < n
 ·rcases hs i a h hI with ⟨a', h1, h2⟩ | h1
  ·exact .inl ⟨_, h1, ⟨i + 1, h, rfl, h2⟩, by simp; omega⟩
  ·exact .inr h1
 ·have e : i = n := by omega
  subst e; exact .inr (hf a hI)
theorem getD_some {α : Type} {l : List α} {i : Nat} (h : i < l.length) (d : α) : l.getD i d = l[i] := by simp [h]
end Go.Idl
namespace Go.Idl
open Go
def Cs {α ρ : Type} (f : Nat → α → Option ρ) (d : ρ) : Nat → List α → ρ
  | _, [] => d
  | i, x :: l => match f i x with
    | none => Cs f d (i + 1) l
    | some r => r
def Mv {α σ ρ : Type} (f : Nat → σ → α → σ ⊕ ρ) (fin : σ → ρ) : Nat → σ → List α → ρ
  | _, a, [] => fin a
  | i, a, x :: l => match f i a x with
    | .inl a' => Mv f fin (i + 1) a' l
    | .inr r => r
theorem C9 {α ρ : Type} {f : Nat → α → Option ρ} {d : ρ} {i : Nat} {x : α} {l : List α} : Cs f d i (x :: l) = match f i x with
    | none => Cs f d (i + 1) l
    | some r => r := rfl
theorem Ld {α σ ρ : Type} {f : Nat → σ → α → σ ⊕ ρ} {fin : σ → ρ} {i : Nat} {a : σ} {x : α} {l : List α} : Mv f fin i a (x :: l) = match f i a x with
    | .inl a' => Mv f fin (i + 1) a' l
    | .inr r => r := rfl
theorem CC {α ρ : Type} (l : List α) {step : Int → Option (Int ⊕ ρ)} (f : Nat → α → Option ρ) (d : ρ) (hl : l.length ≤ 1000000000)
    (hs : ∀ (i : Nat) (h : i < l.length), step (i : Int) = some (match f i l[i] with | none => .inl (IntKind.i64.wrap ((i : Int) + 1)) | some r => .inr r))
    (hf : step (l.length : Int) = some (.inr d)) : AN step 0 = some (Cs f d 0 l) := by
 obtain ⟨r, h1, h2⟩ := D5 (step := step) (Post := fun r => r = Cs f d 0 l) l.length (fun i => Cs f d i (l.drop i) = Cs f d 0 l) (by simp)
  (fun i hi hI => by
    rw [hs i hi]
    rw [List.drop_eq_getElem_cons hi] at hI
    rw [C9] at hI
    cases hfi : f i l[i] with
    | none =>
      rw [hfi] at hI
      rw [B6 (by omega)]
      exact .inl ⟨rfl, hI⟩
    | some r =>
      rw [hfi] at hI
      exact .inr ⟨r, rfl, hI⟩)
  (fun hI => ⟨d, hf, by rw [List.drop_length] at hI; exact hI⟩)
 rw [h1, h2]
theorem R9 {α σ ρ : Type} (l : List α) {step : σ × Int → Option ((σ × Int) ⊕ ρ)} (f : Nat → σ → α → σ ⊕ ρ) (fin : σ → ρ) (Inv : Nat → σ → Prop) {a : σ} (hl : l.length ≤ 1000000000) (h0 : Inv 0 a)
    (hs : ∀ (i : Nat) (h : i < l.length) (a : σ), Inv i a → step (a, (i : Int)) = some (match f i a l[i] with | .inl a' => .inl (a', IntKind.i64.wrap ((i : Int) + 1)) | .inr r => .inr r))
    (hn : ∀ (i : Nat) (h : i < l.length) (a a' : σ), Inv i a → f i a l[i] = .inl a' → Inv (i + 1) a')
    (hf : ∀ a, Inv l.length a → step (a, (l.length : Int)) = some (.inr (fin a))) : AN step (a, 0) = some (Mv f fin 0 a l) := by
 obtain ⟨r, h1, h2⟩ := P6 (step := step) (Post := fun r => r = Mv f fin 0 a l) l.length (fun i a' => Inv i a' ∧ Mv f fin i a' (l.drop i) = Mv f fin 0 a l) (a := a) ⟨h0, by simp⟩
  (fun i a' hi hI => by
    obtain ⟨hI, hR⟩ := hI
    rw [hs i hi a' hI]
    rw [List.drop_eq_getElem_cons hi] at hR
    rw [Ld] at hR
    cases hfi : f i a' l[i] with
    | inl a2 =>
      rw [hfi] at hR
      rw [B6 (by omega)]
      exact .inl ⟨a2, rfl, hn i hi a' a2 hI hfi, hR⟩
    | inr r =>
      rw [hfi] at hR
      exact .inr ⟨r, rfl, hR⟩)
  (fun a' hI => ⟨_, hf a' hI.1, by have := hI.2; rw [List.drop_length] at this; exact this⟩)
 rw [h1, h2]
theorem HK {α ρ : Type} (p : α → Bool) (bad good : ρ) : ∀ (l : List α) (i : Nat), Cs (fun _ x => if p x = true then none else some bad) good i l = if l.all p = true then good else bad
  | [], _ => by simp [Cs]
  | x :: l, i => by
    unfold Cs
    by_cases h : p x = true
    · rw [if_pos h]
      simp only [HK p bad good l (i + 1), List.all_cons, h, Bool.true_and]
    · rw [if_neg h]
      have : (List.all (x :: l) p) = false := by simp [List.all_cons, Bool.eq_false_iff.2 h]
      simp [this]
end Go.Idl
namespace Go.Idl
open Go Go.Lib
def B7 : List UInt8 → UInt8 → Option (List UInt8 × List UInt8)
  | [], _ => none
  | b :: s, x => if b = x then some ([], s) else (B7 s x).map fun p => (b :: p.1, p.2)
theorem Bc {x : UInt8} : ∀ {s a b : List UInt8}, B7 s x = some (a, b) ↔ s = a ++ x :: b ∧ x ∉ a
  | [], a, b => by simp [B7]
  | c :: s, a, b => by
    unfold B7
    by_cases h : c = x
    · subst h
      rw [if_pos rfl]
      constructor
      · rintro h; cases h; simp
      · rintro ⟨h1, h2⟩
        cases a with
        | nil => simp at h1; simp [h1]
        | cons d a => simp at h1; exact absurd (by simp [h1.1]) h2
    · rw [if_neg h]
      constructor
      · intro h'
        obtain ⟨⟨a', b'⟩, h1, h2⟩ := Option.map_eq_some_iff.1 h'
        cases h2
        obtain ⟨h3, h4⟩ := Bc.1 h1
        exact ⟨by simp [h3], by simp [h4, Ne.symm h]⟩
      · rintro ⟨h1, h2⟩
        cases a with
        | nil => simp at h1; exact absurd h1.1 h
        | cons d a =>
          simp at h1 h2
          rw [Bc.2 ⟨h1.2, h2.2⟩, h1.1]
          rfl
theorem Ra {x : UInt8} : ∀ {s : List UInt8}, B7 s x = none ↔ x ∉ s
  | [] => by simp [B7]
  | c :: s => by
    unfold B7
    by_cases h : c = x
    · subst h; simp
    · rw [if_neg h]
      simp [Ra (s := s), Ne.symm h]
theorem EI {x : UInt8} {s a b : List UInt8} (h : B7 s x = some (a, b)) : a.length + b.length + 1 = s.length := by
 rw [(Bc.1 h).1]; simp; omega
theorem index_one (x : UInt8) : ∀ s : List UInt8, index s [x] = match B7 s x with | some p => (p.1.length : Int) | none => -1
  | [] => by simp [index, B7]
  | b :: s => by
    have ih := index_one x s
    unfold index B7
    by_cases h : b = x
    · subst h
      simp [List.isPrefixOf]
    · rw [if_neg h]
      have : ¬ x = b := fun e => h e.symm
      simp only [List.isPrefixOf, Bool.and_true, beq_iff_eq, if_neg this, ih]
      cases hc : B7 s x with
      | none => simp
      | some p =>
        have : ¬ ((p.1.length : Int) == -1) = true := by simp
        simp [this]
theorem Q4 (s : List UInt8) (x : UInt8) : Lib.cut s [x] = match B7 s x with | some p => (p.1, p.2, true) | none => (s, [], false) := by
 unfold Lib.cut; rw [index_one]; cases h : B7 s x with
 | none => simp
 | some p =>
  obtain ⟨a, b⟩ := p; obtain ⟨h1, _⟩ := Bc.1 h; simp only; rw [if_pos (by omega)]; subst h1; simp
theorem FE {c : UInt8} {d : Nat} : digitVal c = some d ↔ 48 ≤ c.toNat ∧ c.toNat ≤ 57 ∧ d = c.toNat - 48 := by
 unfold digitVal; split
 ·rename_i h; simp; constructor
  ·rintro rfl; exact ⟨h.1, h.2, rfl⟩
  ·rintro ⟨_, _, rfl⟩; rfl
 ·rename_i h; simp; omega
theorem EJ : ∀ (l : List UInt8) (acc : Nat) (c : UInt8), decFrom acc (l ++ [c]) = (decFrom acc l).bind fun n => (digitVal c).map fun d => n * 10 + d
  | [], acc, c => by
    simp only [List.nil_append, decFrom]
    cases digitVal c <;> simp
  | b :: l, acc, c => by
    simp only [List.cons_append, decFrom]
    cases digitVal b with
    | none => simp
    | some d => simp [EJ l]
theorem P8 {d : Nat} (h : d < 10) : digitVal (UInt8.ofNat (48 + d)) = some d := by
 have e : (UInt8.ofNat (48 + d)).toNat = 48 + d := by simp [UInt8.toNat_ofNat']; omega
 exact FE.2 ⟨by omega, by omega, by omega⟩
theorem EK (n : Nat) : decFrom 0 (decDigits n) = some n := by
 induction n using Nat.strongRecOn with
 | _ n ih =>
  unfold decDigits; split
  ·rename_i h; have := EJ [] 0 (UInt8.ofNat (48 + n)); simp only [List.nil_append] at this; rw [this, P8 h]; simp [decFrom]
  ·rename_i h; rw [EJ, ih (n / 10) (by omega), P8 (Nat.mod_lt _ (by omega))]; simp; omega
theorem Mw (n : Nat) : decDigits n ≠ [] := by
 unfold decDigits; split <;> simp
theorem P9 (n : Nat) : decNat (decDigits n) = some n := by
 unfold decNat; rw [if_neg (by simp [Mw]), EK]
theorem VS {n m : Nat} (h : decDigits n = decDigits m) : n = m := by
 have h1 := EK n; rw [h, EK] at h1; exact (Option.some.inj h1).symm
theorem HL (n : Nat) : ∀ c, c ∈ decDigits n → 48 ≤ c.toNat ∧ c.toNat ≤ 57 := by
 induction n using Nat.strongRecOn with
 | _ n ih =>
  have one : ∀ d, d < 10 → 48 ≤ (UInt8.ofNat (48 + d)).toNat ∧ (UInt8.ofNat (48 + d)).toNat ≤ 57 := fun d hd => by
   obtain ⟨h1, h2, _⟩ := FE.1 (P8 hd); exact ⟨h1, h2⟩
  intro c hc; unfold decDigits at hc; split at hc
  ·rename_i h; rw [List.mem_singleton.1 hc]; exact one n h
  ·rename_i h; rcases List.mem_append.1 hc with hc | hc
   ·exact ih (n / 10) (by omega) c hc
   ·rw [List.mem_singleton.1 hc]; exact one _ (Nat.mod_lt _ (by omega))
theorem G3 (n k : Nat) (h : n < 10 ^ (k + 1)) : (decDigits n).length ≤ k + 1 := by
 induction k generalizing n with
 | zero => rw [decDigits, dif_pos (by simpa using h)]; simp
 | succ k ih =>
  rw [decDigits]; split
  ·simp
  ·have := ih (n / 10) (by rw [Nat.pow_succ] at h; omega); simp; omega
theorem TJ (n : Nat) (h : n < 1000000000000000000) : CR (decDigits n) = ((n : Int), false) := by
 have hl : (decDigits n).length ≤ 18 := G3 n 17 (by simpa using h); have ha : atoi (decDigits n) = some (n : Int) := by
  have h1 := P9 n; have h2 := HL n; cases hd : decDigits n with
  | nil => exact absurd hd (Mw n)
  | cons b r =>
   rw [hd] at h1 h2; have hb := h2 b (by simp); have q1 : (b == 45) = false := by simp; rintro rfl; simp at hb
   have q2 : (b == 43) = false := by simp; rintro rfl; simp at hb
   unfold atoi; simp only [q1, q2, Bool.false_eq_true, if_false, h1]; rfl
 unfold CR; rw [atoiAll_short _ hl, ha]; rfl
noncomputable def GN (s : List UInt8) (m : Nat) : Option Nat := by
  classical exact if h : ∃ n, 1 ≤ n ∧ n ≤ m ∧ decDigits n = s then some h.choose else none
theorem Cf {s : List UInt8} {m n : Nat} : GN s m = some n ↔ 1 ≤ n ∧ n ≤ m ∧ decDigits n = s := by
 unfold GN; split
 ·rename_i h; have hc := h.choose_spec; constructor
  ·intro e; rw [← Option.some.inj e]; exact hc
  ·rintro ⟨_, _, h3⟩
   rw [VS (hc.2.2.trans h3.symm)]
 ·rename_i h; constructor
  ·intro e; cases e
  ·intro e; exact absurd ⟨n, e⟩ h
theorem Rb {s : List UInt8} {m : Nat} (h : ∀ n, 1 ≤ n → n ≤ m → decDigits n ≠ s) : GN s m = none := by
 cases e : GN s m with
 | none => rfl
 | some n =>
  obtain ⟨h1, h2, h3⟩ := Cf.1 e; exact absurd h3 (h n h1 h2)
end Go.Idl
namespace Go.Idl
open Go Go.Lib
abbrev BR := List UInt8
noncomputable def Mx (m : Nat) (s : BR) : Option (BR × BR) := (B7 s 32).bind fun p => (GN p.1 m).bind fun n => if n < p.2.length ∧ p.2.getD n 0 = 10 then some (p.2.take n, p.2.drop (n + 1)) else none
noncomputable def Eg (m : Nat) : Nat → BR → Option (List BR × BR)
  | 0, s => some ([], s)
  | n + 1, s => (Mx m s).bind fun p => (Eg m n p.2).map fun q => (p.1 :: q.1, q.2)
theorem TK {m : Nat} {s : BR} {p : BR × BR} (h : Mx m s = some p) : p.2.length < s.length := by
 obtain ⟨⟨a, b⟩, h1, h⟩ := Option.bind_eq_some_iff.1 h; obtain ⟨n, h2, h⟩ := Option.bind_eq_some_iff.1 h; have := EI h1; split at h
 ·cases h; simp; omega
 ·cases h
theorem Rc {m n : Nat} {s : BR} {p : List BR × BR} (h : Eg m n s = some p) : p.2.length ≤ s.length ∧ p.1.length = n := by
 induction n generalizing s p with
 | zero => cases h; simp
 | succ n ih =>
  obtain ⟨q, h1, h⟩ := Option.bind_eq_some_iff.1 h; obtain ⟨r, h2, rfl⟩ := Option.map_eq_some_iff.1 h; have := TK h1; have := ih h2; simp; omega
def My (v : BR) : BR := decDigits v.length ++ 32 :: v ++ [10]
theorem Re (m : Nat) (v rest : BR) (h1 : 1 ≤ v.length) (h2 : v.length ≤ m) : Mx m (My v ++ rest) = some (v, rest) := by
 have e : My v ++ rest = decDigits v.length ++ 32 :: (v ++ 10 :: rest) := by simp [My]
 have hn : (32 : UInt8) ∉ decDigits v.length := fun h => by have := HL _ _ h; simp at this
 unfold Mx; rw [e, Bc.2 ⟨rfl, hn⟩]; simp only [Option.bind_some]; rw [Cf.2 ⟨h1, h2, rfl⟩]; simp
theorem K4 (m : Nat) (rest : BR) : ∀ (l : List BR), (∀ v, v ∈ l → 1 ≤ v.length ∧ v.length ≤ m) → Eg m l.length (l.flatMap My ++ rest) = some (l, rest)
  | [], _ => rfl
  | v :: l, h => by
    have hv := h v (by simp)
    simp only [List.length_cons, Eg, List.flatMap_cons, List.append_assoc]
    rw [Re m v _ hv.1 hv.2]
    simp only [Option.bind_some]
    rw [K4 m rest l fun w hw => h w (by simp [hw])]
    rfl
def Bq : List BR := [[102, 117, 108, 108], [103, 105, 118, 101, 110], [102, 97, 109, 105, 108, 121], [111, 114, 103], [116, 105, 116, 108, 101], [110, 111, 116, 101], [109, 97, 105, 108], [112, 104, 111, 110, 101]]
def HM (nm : BR) : Option Nat := Bq.findIdx? fun x => decide (x = nm)
theorem Mz {nm : BR} {i : Nat} (h : HM nm = some i) : i < 8 := by
 have := List.findIdx?_eq_some_iff_getElem.1 h; obtain ⟨h1, _⟩ := this; simpa [Bq] using h1
theorem Rf (i : Nat) (h : i < 8) : HM (Bq.getD i []) = some i := by
 match i, h with
 | 0, _ | 1, _ | 2, _ | 3, _ | 4, _ | 5, _ | 6, _ | 7, _ => decide
theorem VT (i : Nat) (h : i < 8) : (32 : UInt8) ∉ Bq.getD i [] := by
 match i, h with
 | 0, _ | 1, _ | 2, _ | 3, _ | 4, _ | 5, _ | 6, _ | 7, _ => decide
noncomputable def KG (s : BR) : Option (Nat × List BR × BR) := (B7 s 32).bind fun p => (B7 p.2 10).bind fun q => (HM p.1).bind fun i => (GN q.1 8).bind fun n => (Eg 200 n q.2).map fun r => (i, r.1, r.2)
noncomputable def DQ : Nat → Nat → BR → List (List BR) → Option (List (List BR))
  | 0, _, s, c => if s = [] then some c else none
  | f + 1, k, s, c => if s = [] then some c else (KG s).bind fun p => if p.1 < k then none else DQ f (p.1 + 1) p.2.2 (c.set p.1 p.2.1)
def CD (i : Nat) (l : List BR) : BR := (if l = [] then [] else Bq.getD i [] ++ 32 :: decDigits l.length ++ [10]) ++ l.flatMap My
def FF (c : List (List BR)) : Nat → Nat → BR
  | 0, _ => []
  | n + 1, i => CD i (c.getD i []) ++ FF c n (i + 1)
theorem NO (i : Nat) (l : List BR) (rest : BR) (hi : i < 8) (h1 : l ≠ []) (h2 : l.length ≤ 8) (hv : ∀ v, v ∈ l → 1 ≤ v.length ∧ v.length ≤ 200) : KG (CD i l ++ rest) = some (i, l, rest) := by
 have e : CD i l ++ rest = Bq.getD i [] ++ 32 :: (decDigits l.length ++ 10 :: (l.flatMap My ++ rest)) := by simp [CD, h1]
 have hd : (10 : UInt8) ∉ decDigits l.length := fun h => by have := HL _ _ h; simp at this
 have hp : 0 < l.length := List.length_pos_iff.2 h1; unfold KG; rw [e, Bc.2 ⟨rfl, VT i hi⟩]; simp only [Option.bind_some]; rw [Bc.2 ⟨rfl, hd⟩]; simp only [Option.bind_some]; rw [Rf i hi]; simp only [Option.bind_some]; rw [Cf.2 ⟨hp, h2, rfl⟩]; simp only [Option.bind_some]; rw [K4 200 rest l hv]; rfl
theorem Rg (i : Nat) (l : List BR) (rest : BR) (h : l ≠ []) : CD i l ++ rest ≠ [] := by simp [CD, h]
theorem G4 (c : List (List BR)) (hc : c.length = 8) (h2 : ∀ l, l ∈ c → l.length ≤ 8) (hv : ∀ l, l ∈ c → ∀ v, v ∈ l → 1 ≤ v.length ∧ v.length ≤ 200) : ∀ (n i f k : Nat) (d : List (List BR)), i + n = 8 → n ≤ f → k ≤ i → d.length = 8 → (∀ j, j < i → d.getD j [] = c.getD j []) → (∀ j, i ≤ j → d.getD j [] = []) → DQ f k (FF c n i) d = some c
  | 0, i, f, k, d, hi, hf, hk, hd, h3, h4 => by
    have e : d = c := List.ext_getElem (by omega) fun j q1 q2 => by
      have := h3 j (by omega)
      rw [List.getD_eq_getElem?_getD, List.getD_eq_getElem?_getD, List.getElem?_eq_getElem q1, List.getElem?_eq_getElem q2] at this
      simpa using this
    cases f <;> simp [DQ, FF, e]
  | n + 1, i, f, k, d, hi, hf, hk, hd, h3, h4 => by
    have hic : i < c.length := by omega
    have hg : c.getD i [] = c[i] := by rw [List.getD_eq_getElem?_getD, List.getElem?_eq_getElem hic]; rfl
    unfold FF
    by_cases hl : c.getD i [] = []
    · have e : CD i (c.getD i []) = [] := by rw [hl]; simp [CD]
      rw [e, List.nil_append]
      refine G4 c hc h2 hv n (i + 1) f k d (by omega) (by omega) (by omega) hd (fun j hj => ?_) (fun j hj => h4 j (by omega))
      rcases Nat.lt_or_ge j i with q | q
      · exact h3 j q
      · rw [show j = i by omega, hl, h4 i (Nat.le_refl _)]
    · cases f with
      | zero => omega
      | succ f =>
        have hm : c.getD i [] ∈ c := by rw [hg]; exact List.getElem_mem _
        unfold DQ
        rw [if_neg (Rg i _ _ hl), NO i _ _ (by omega) hl (h2 _ hm) (hv _ hm)]
        simp only [Option.bind_some]
        rw [if_neg (by omega)]
        refine G4 c hc h2 hv n (i + 1) f (i + 1) _ (by omega) (by omega) (Nat.le_refl _) (by simpa using hd) (fun j hj => ?_) (fun j hj => ?_)
        · rcases Nat.lt_or_ge j i with q | q
          · have := h3 j q
            rw [List.getD_eq_getElem?_getD] at this ⊢
            rw [List.getElem?_set_ne (by omega)]
            exact this
          · rw [show j = i by omega, List.getD_eq_getElem?_getD, List.getElem?_set_self (by omega)]
            rfl
        · have := h4 j (by omega)
          rw [List.getD_eq_getElem?_getD] at this ⊢
          rw [List.getElem?_set_ne (by omega)]
          exact this
end Go.Idl
namespace Go.Idl
open Go Go.RowKit
abbrev rwS (l : List (List UInt8)) : HO := .row 1 (l.map fun s => [.v (str s)])
structure Ct (J : A2) (n0 : Nat) (C : List IV) (c : List (List (List UInt8))) : Prop where
  len : C.length = c.length
  row : ∀ (j : Nat) (x : IV) (l : List (List UInt8)), C[j]? = some x → c[j]? = some l → (x = .v (.slice none 0 0) ∧ l = []) ∨ ∃ n, n0 ≤ n ∧ n < J.next ∧ x = .os n l.length ∧ J.obj n = some (rwS l)
  inj : ∀ (j j' n m m' : Nat), C[j]? = some (.os n m) → C[j']? = some (.os n m') → j = j'
theorem Ct.SG {J : A2} {n0 : Nat} (n : Nat) : Ct J n0 (List.replicate n (.v (.slice none 0 0))) (List.replicate n []) where
  len := by simp
  row := fun j x l h1 h2 => by
    rw [List.getElem?_replicate] at h1 h2
    split at h1
    · rename_i h; rw [if_pos h] at h2; cases h1; cases h2; exact .inl ⟨rfl, rfl⟩
    · cases h1
  inj := fun j j' n m m' h1 _ => by
    rw [List.getElem?_replicate] at h1
    split at h1 <;> cases h1
theorem Ct.mono {J J' : A2} {n0 : Nat} {C : List IV} {c : List (List (List UInt8))} (h : Ct J n0 C c) (hx : J.next ≤ J'.next) (ho : ∀ k o, n0 ≤ k → k < J.next → J.obj k = some o → J'.obj k = some o) : Ct J' n0 C c :=
  ⟨h.len, fun j x l h1 h2 => by
    rcases h.row j x l h1 h2 with h | ⟨n, h3, h4, h5, h6⟩
    · exact .inl h
    · exact .inr ⟨n, h3, by omega, h5, ho n _ h3 h4 h6⟩, h.inj⟩
theorem Ct.at {J : A2} {n0 : Nat} {C : List IV} {c : List (List (List UInt8))} (h : Ct J n0 C c) {f : Nat} (hf : f < c.length) : (C[f]? = some (.v (.slice none 0 0)) ∧ c[f] = []) ∨ ∃ n, n0 ≤ n ∧ n < J.next ∧ C[f]? = some (.os n c[f].length) ∧ J.obj n = some (rwS c[f]) := by
 have hf' : f < C.length := by rw [h.len]; exact hf
 rcases h.row f _ _ (List.getElem?_eq_getElem hf') (List.getElem?_eq_getElem hf) with ⟨h1, h2⟩ | ⟨n, h1, h2, h3, h4⟩
 ·exact .inl ⟨by rw [List.getElem?_eq_getElem hf', h1], h2⟩
 ·exact .inr ⟨n, h1, h2, by rw [List.getElem?_eq_getElem hf', h3], h4⟩
theorem Ct.K5 {J J' : A2} {n0 : Nat} {C : List IV} {c : List (List (List UInt8))} (h : Ct J n0 C c) {f k : Nat} {x : List UInt8} (hf : f < c.length) (hc : c[f] = []) (hk : n0 ≤ k) (hkJ : J.next ≤ k) (hk' : k < J'.next) (hx : J.next ≤ J'.next)
    (ho : ∀ i o, n0 ≤ i → i < J.next → J.obj i = some o → J'.obj i = some o) (hn : J'.obj k = some (rwS [x])) : Ct J' n0 (C.set f (.os k 1)) (c.set f [x]) where
  len := by simp [h.len]
  row := fun j y l h1 h2 => by
    have hf' : f < C.length := by rw [h.len]; exact hf
    rw [List.getElem?_set] at h1 h2
    by_cases e : f = j
    · rw [if_pos e] at h1 h2
      subst e
      rw [if_pos hf'] at h1
      rw [if_pos hf] at h2
      cases h1
      cases h2
      exact .inr ⟨k, hk, hk', rfl, hn⟩
    · rw [if_neg e] at h1 h2
      exact (h.mono hx ho).row j y l h1 h2
  inj := fun j j' n m m' h1 h2 => by
    have old : ∀ (i m : Nat), C[i]? = some (.os k m) → False := fun i m e => by
      have hi : i < c.length := by rw [← h.len]; exact (List.getElem?_eq_some_iff.1 e).1
      rcases h.row i _ _ e (List.getElem?_eq_getElem hi) with ⟨q, _⟩ | ⟨n, _, q2, q3, _⟩
      · cases q
      · cases q3; omega
    rw [List.getElem?_set] at h1 h2
    by_cases e : f = j <;> by_cases e' : f = j'
    · omega
    · rw [if_pos e] at h1
      rw [if_neg e'] at h2
      split at h1
      · cases h1; exact (old _ _ h2).elim
      · cases h1
    · rw [if_neg e] at h1
      rw [if_pos e'] at h2
      split at h2
      · cases h2; exact (old _ _ h1).elim
      · cases h2
    · rw [if_neg e] at h1
      rw [if_neg e'] at h2
      exact h.inj j j' n m m' h1 h2
theorem Ct.K6 {J J' : A2} {n0 : Nat} {C : List IV} {c : List (List (List UInt8))} (h : Ct J n0 C c) {f k m : Nat} {l : List (List UInt8)} (hf : f < c.length) (hC : C[f]? = some (.os k m)) (hx : J.next ≤ J'.next)
    (ho : ∀ i o, n0 ≤ i → i < J.next → i ≠ k → J.obj i = some o → J'.obj i = some o) (hn : J'.obj k = some (rwS l)) : Ct J' n0 (C.set f (.os k l.length)) (c.set f l) where
  len := by simp [h.len]
  row := fun j y l' h1 h2 => by
    have hf' : f < C.length := by rw [h.len]; exact hf
    rw [List.getElem?_set] at h1 h2
    by_cases e : f = j
    · rw [if_pos e] at h1 h2
      subst e
      rw [if_pos hf'] at h1
      rw [if_pos hf] at h2
      cases h1
      cases h2
      rcases h.row f _ _ hC (List.getElem?_eq_getElem hf) with ⟨q, _⟩ | ⟨n, q1, q2, q3, _⟩
      · cases q
      · cases q3; exact .inr ⟨k, q1, by omega, rfl, hn⟩
    · rw [if_neg e] at h1 h2
      rcases h.row j y l' h1 h2 with q | ⟨n, q1, q2, q3, q4⟩
      · exact .inl q
      · refine .inr ⟨n, q1, by omega, q3, ho n _ q1 q2 ?_ q4⟩
        rintro rfl
        rw [q3] at h1
        exact e (h.inj f j n m _ hC h1)
  inj := fun j j' n m1 m2 h1 h2 => by
    have back : ∀ (i m : Nat), (C.set f (.os k l.length))[i]? = some (.os n m) → ∃ m', C[i]? = some (.os n m') := fun i m e => by
      rw [List.getElem?_set] at e
      split at e
      · rename_i q
        split at e
        · cases e; exact ⟨_, by rw [← q]; exact hC⟩
        · cases e
      · exact ⟨_, e⟩
    obtain ⟨a, ha⟩ := back j m1 h1
    obtain ⟨b, hb⟩ := back j' m2 h2
    exact h.inj j j' n a b ha hb
theorem Ct.fz {J H : A2} {n0 : Nat} {C : List IV} {c : List (List (List UInt8))} (h : Ct J n0 C c) (hk : ∀ n, n0 ≤ n → H.obj n = none) : Fz J H (.ag C) (.ag (c.map fun l => .sl 1 (l.map fun s => [.v (str s)]))) := by
 refine .ag _ _ (by simp [h.len]) fun j x y h1 h2 => ?_; rw [List.getElem?_map] at h2; cases hc : c[j]? with
 | none => rw [hc] at h2; cases h2
 | some l =>
  rw [hc] at h2; cases h2; have hnb : NB H.next (.sl 1 (l.map fun s => [IV.v (str s)])) := KU.2 fun e he z hz => by
   obtain ⟨s, _, rfl⟩ := List.mem_map.1 he; simp at hz; subst hz; exact .v _
  rcases h.row j x l h1 hc with ⟨rfl, rfl⟩ | ⟨n, q1, q2, rfl, q4⟩
  ·exact .wk _ _ (.nil 1) (by simpa using hnb)
  ·exact .row (hk n q1) q4 (by simp) hnb
end Go.Idl
namespace Go.Idl
open Go
theorem Z3 (f : Int) : F76 f = some (Fy f) := by
 unfold F76 Fy; split <;> rfl
def BZ (f : Int) (l : List Str) : Bool := BB f l && (!decide (f = 0) || decide (l.length = 1))
theorem Z4 (f : Int) (l : List Str) (hl : l.length ≤ 1000000 ∧ ∀ s, s ∈ l → s.length ≤ 1000000) : F47 f l = some (BZ f l) := by
 unfold F47; rw [Z3]; simp only [Option.bind_some]; by_cases h1 : Fy f < (l.length : Int)
 ·rw [if_pos h1]; have : ¬ ((l.length : Int) ≤ Fy f) := by omega
  simp [BZ, BB, this]
 ·rw [if_neg h1]; have main : ((!decide (f = 0) || decide (l.length = 1)) = true) → HG f l = some (BZ f l) := by
   intro hz; unfold HG; obtain ⟨r, q1, q2⟩ := D5 (step := fun (s : Int) => HF f l s) (Post := fun y => (y = .inl () ∧ l.all (Bb f) = true ∧ B4 l = true) ∨ (y = .inr false ∧ (l.all (Bb f) && B4 l) = false)) l.length (fun i => (l.take i).all (Bb f) = true ∧ B4 (l.take i) = true) (by simp [B4])
    (fun i hi hI => by
      have hw := B6 (i := i) (by omega)
      have hli := hl.2 l[i] (List.getElem_mem _)
      -- the bytes of a value
      have inner : 1 ≤ l[i].length → l[i].length ≤ 200 → Ds f l i = if Bb f l[i] = true then some (.inl ((i + 1 : Nat) : Int)) else some (.inr (.inr false)) := by
        intro hlo hhi
        unfold Ds
        obtain ⟨r, p1, p2⟩ := D5 (step := fun (s : Int) => F1 f l i s) (Post := fun y => (y = .inl () ∧ l[i].all (Bx f) = true) ∨ (y = .inr false ∧ l[i].all (Bx f) = false)) l[i].length (fun j => (l[i].take j).all (Bx f) = true) (by simp)
          (fun j hj hJ => by
            have hwj := B6 (i := j) (by omega)
            simp only [F1]
            rw [Af (by omega), Int.toNat_natCast, getD_some hi, if_pos (by omega), Af (by omega), Int.toNat_natCast, getD_some hj, hwj]
            have bad : Bx f l[i][j] = false → l[i].all (Bx f) = false := fun h => by
              rw [List.all_eq_false]
              exact ⟨l[i][j], List.getElem_mem _, by simp [h]⟩
            have good : Bx f l[i][j] = true → (l[i].take (j + 1)).all (Bx f) = true := fun h => by
              rw [List.take_succ_eq_append_getElem hj, List.all_append, hJ]
              simp [h]
            by_cases b1 : ((l[i][j].toNat : Int)) < 32
            · rw [if_pos b1]
              by_cases b2 : ((l[i][j].toNat : Int)) = 10
              · rw [if_neg (by simpa using b2)]
                by_cases b3 : f = 5
                · rw [if_neg (by simpa using b3)]
                  exact .inl ⟨rfl, good (by simp [Bx, b3]; omega)⟩
                · rw [if_pos b3]
                  exact .inr ⟨_, rfl, .inr ⟨rfl, bad (by simp [Bx, b3]; omega)⟩⟩
              · rw [if_pos b2]
                exact .inr ⟨_, rfl, .inr ⟨rfl, bad (by simp [Bx]; omega)⟩⟩
            · rw [if_neg b1]
              exact .inl ⟨rfl, good (by simp [Bx]; omega)⟩)
          (fun hJ => by
            simp only [F1]
            rw [Af (by omega), Int.toNat_natCast, getD_some hi, if_neg (by omega)]
            rw [List.take_length] at hJ
            exact ⟨_, rfl, .inl ⟨rfl, hJ⟩⟩)
        rw [p1]
        rcases p2 with ⟨rfl, h⟩ | ⟨rfl, h⟩
        · simp [IN, Bb, h, hlo, hhi, hw]
        · simp [Bb, h]
      have badv : Bb f l[i] = false → (l.all (Bb f) && B4 l) = false := fun h => by
        have : l.all (Bb f) = false := by
          rw [List.all_eq_false]
          exact ⟨l[i], List.getElem_mem _, by simp [h]⟩
        rw [this, Bool.false_and]
      have step2 : (i = 0 ∨ B4 (l.take (i + 1)) = true) → 1 ≤ l[i].length → l[i].length ≤ 200 → (Ds f l i = some (.inl ((i + 1 : Nat) : Int)) ∧ ((l.take (i + 1)).all (Bb f) = true ∧ B4 (l.take (i + 1)) = true)) ∨ ∃ r, Ds f l i = some (.inr r) ∧ ((r = .inl () ∧ l.all (Bb f) = true ∧ B4 l = true) ∨ (r = .inr false ∧ (l.all (Bb f) && B4 l) = false)) := by
        intro hr hlo hhi
        rw [inner hlo hhi]
        cases hv : Bb f l[i] with
        | true =>
          refine .inl ⟨rfl, ?_, ?_⟩
          · rw [List.take_succ_eq_append_getElem hi, List.all_append, hI.1]
            simp [hv]
          · rcases hr with rfl | hr
            · cases l with
              | nil => simp at hi
              | cons x t => simp [B4]
            · exact hr
        | false => exact .inr ⟨_, rfl, .inr ⟨rfl, badv hv⟩⟩
      simp only [HF]
      rw [if_pos (by omega), Af (by omega), Int.toNat_natCast, getD_some hi]
      by_cases c1 : (l[i].length : Int) < 1
      · rw [if_pos c1]
        exact .inr ⟨_, rfl, .inr ⟨rfl, badv (by simp [Bb]; omega)⟩⟩
      · rw [if_neg c1]
        by_cases c2 : 200 < (l[i].length : Int)
        · rw [if_pos c2]
          exact .inr ⟨_, rfl, .inr ⟨rfl, badv (by simp [Bb]; omega)⟩⟩
        · rw [if_neg c2]
          by_cases c3 : 0 < (i : Int)
          · have e1 : IntKind.i64.wrap ((i : Int) - 1) = ((i - 1 : Nat) : Int) := by rw [wrap_i64 (by omega) (by omega)]; omega
            have hi1 : i - 1 < l.length := by omega
            have hrt := Jx l i (by omega) hi
            rw [if_pos c3, e1, Af (by omega), Int.toNat_natCast, getD_some hi1]
            by_cases c4 : Op.bytesLess l[i - 1] l[i] = true
            · rw [if_neg (by simpa using c4)]
              exact step2 (.inr (by rw [hrt, hI.2, c4]; rfl)) (by omega) (by omega)
            · rw [if_pos c4]
              refine .inr ⟨_, rfl, .inr ⟨rfl, ?_⟩⟩
              have : B4 l = false := by
                cases hh : B4 l with
                | false => rfl
                | true =>
                  have := FV l (i + 1) hh
                  rw [hrt] at this
                  simp [c4] at this
              rw [this, Bool.and_false]
          · rw [if_neg c3]
            exact step2 (.inl (by omega)) (by omega) (by omega))
    (fun hI => by
      simp only [HF]
      rw [if_neg (by omega)]
      rw [List.take_length] at hI
      exact ⟨_, rfl, .inl ⟨rfl, hI⟩⟩)
   rw [q1]; have hm : (l.length : Int) ≤ Fy f := by omega
   rcases q2 with ⟨rfl, h2, h3⟩ | ⟨rfl, h2⟩
   ·have e : (l.any fun s => !Bb f s) = false := by
     rw [List.any_eq_false]; intro s hs'; simp [List.all_eq_true.1 h2 s hs']
    simp [Mg, BZ, BB, e, h3, hm, hz]
   ·have e : (!(l.any fun s => !Bb f s) && B4 l) = false := by
     rw [← h2]; congr 1; rw [Bool.eq_iff_iff]; simp
    simp only [Option.bind_some, Sum.elim_inr, BZ, BB, Bool.and_assoc] at e ⊢; rw [← Bool.and_assoc (!_), e]; simp
  by_cases h2 : f = 0
  ·rw [if_pos h2]; by_cases h3 : (l.length : Int) = 1
   ·rw [if_neg (by simpa using h3)]; exact main (by simp; omega)
   ·rw [if_pos h3]; have : ¬ l.length = 1 := by omega
    simp [BZ, h2, this]
  ·rw [if_neg h2]; exact main (by simp [h2])
theorem HN (c : List (List Str)) (hc : c.length = 8) : AM c = true ↔ ∀ (i : Nat) (h : i < c.length), BZ i c[i] = true := by
 unfold AM; simp only [Bool.and_eq_true, List.all_eq_true, decide_eq_true_eq]; constructor
 ·rintro ⟨h1, h2⟩ i hi
  have := h1 (c[i], i) (by rw [List.mem_zipIdx_iff_getElem?]; simp [hi]); simp only [BZ, this, Bool.true_and, Bool.or_eq_true, Bool.not_eq_true', decide_eq_false_iff_not, decide_eq_true_eq]; by_cases e : i = 0
  ·subst e; rw [getD_some hi] at h2; exact .inr h2
  ·exact .inl (by omega)
 ·intro h; refine ⟨fun p hp => ?_, ?_⟩
  ·obtain ⟨l, i⟩ := p; rw [List.mem_zipIdx_iff_getElem?] at hp; obtain ⟨hi, he⟩ := List.getElem?_eq_some_iff.1 hp; have := h i hi; simp only [BZ, Bool.and_eq_true] at this; simp only at he; rw [← he]; exact this.1
  ·have h0 : 0 < c.length := by omega
   have := h 0 h0; simp only [BZ, Bool.and_eq_true] at this; rw [getD_some h0]; simpa using this.2
theorem Pa (c : List (List Str)) (hs : E7 c) : F17 c = some (AM c) := by
 obtain ⟨hc, hs⟩ := hs; unfold F17; rw [Af hc]; obtain ⟨r, h1, h2⟩ := D5 (step := fun (s : Int) => HH c s) (Post := fun y => (y = .inl () ∧ AM c = true) ∨ (y = .inr false ∧ AM c = false)) 8 (fun i => ∀ (j : Nat) (h : j < c.length), j < i → BZ j c[j] = true) (by intro j _ h; omega)
  (fun i hi hI => by
    have hw := B6 (i := i) (by omega)
    have hi' : i < c.length := by omega
    simp only [HH]
    rw [if_pos (by omega), Af (by omega), Int.toNat_natCast, getD_some hi', Z4 _ _ (hs _ (List.getElem_mem _))]
    simp only [Option.bind_some]
    by_cases h : BZ i c[i] = true
    · rw [if_neg (by simpa using h), hw]
      refine .inl ⟨rfl, fun j hj hji => ?_⟩
      by_cases e : j = i
      · subst e; exact h
      · exact hI j hj (by omega)
    · rw [if_pos h]
      refine .inr ⟨_, rfl, .inr ⟨rfl, ?_⟩⟩
      rw [Bool.eq_false_iff]
      intro h'
      exact h ((HN c hc).1 h' i hi'))
  (fun hI => by
    simp only [HH]
    rw [if_neg (by omega)]
    exact ⟨_, rfl, .inl ⟨rfl, (HN c hc).2 fun i hi => hI i hi (by omega)⟩⟩)
 rw [h1]; rcases h2 with ⟨rfl, h⟩ | ⟨rfl, h⟩
 ·simp [Mh, h]
 ·simp [h]
end Go.Idl
namespace Go.Idl
open Go
theorem BQ {α : Type} (l : List α) (p : α → Bool) {step : Int → Option (Int ⊕ (Unit ⊕ Bool))} (hl : l.length ≤ 1000000000)
    (hs : ∀ (i : Nat) (h : i < l.length), step (i : Int) = some (if p l[i] = true then .inl (IntKind.i64.wrap ((i : Int) + 1)) else .inr (.inr false)))
    (hf : step (l.length : Int) = some (.inr (.inl ()))) : AN step 0 = some (if l.all p = true then .inl () else .inr false) := by
 rw [CC l (fun _ x => if p x = true then none else some (.inr false)) (.inl ()) hl (fun i h => by
   rw [hs i h]
   by_cases hp : p l[i] = true
   · simp [hp]
   · simp [hp]) hf, HK]
theorem Im {α ρ : Type} {f g : Nat → α → Option ρ} {d : ρ} : ∀ {l : List α} {k : Nat}, (∀ i x, k ≤ i → f i x = g i x) → Cs f d k l = Cs g d k l
  | [], _, _ => rfl
  | x :: l, k, h => by
    rw [C9, C9, h k x (Nat.le_refl _)]
    cases g k x with
    | none => exact Im fun i x hi => h i x (by omega)
    | some r => rfl
theorem Le {α : Type} (p : α → Bool) : ∀ (l : List α) (k : Nat), ∃ j : Int, 0 ≤ j ∧ Cs (fun i x => if p x = true then none else some (.inr (i : Int))) (.inl ()) k l = (if l.all p = true then (.inl () : Unit ⊕ Int) else .inr j)
  | [], k => ⟨0, by omega, by simp [Cs]⟩
  | x :: l, k => by
    rw [C9]
    by_cases h : p x = true
    · obtain ⟨j, h1, h2⟩ := Le p l (k + 1)
      exact ⟨j, h1, by simp only [h, if_true]; rw [h2]; simp [h]⟩
    · exact ⟨k, by omega, by simp [h]⟩
def Io (x : UInt8) : Bool := decide (33 ≤ x.toNat ∧ x.toNat ≤ 126)
def BK (u : Str) : Bool := u.all Io && decide (1 ≤ u.length ∧ u.length ≤ 64)
theorem TL (u : Str) (h : u.length ≤ 1000000) : F53 u = some (BK u) := by
 unfold F53
 rw [Af (by omega), BQ u Io (by omega)
   (fun i hi => by
     simp only [JM]
     rw [if_pos (by omega), Af (by omega), Int.toNat_natCast, getD_some hi]
     simp only [Io, decide_eq_true_eq]
     by_cases a : u[i].toNat < 33
     · rw [if_pos (by omega), if_neg (by omega)]
     · rw [if_neg (by omega)]
       by_cases b : 126 < u[i].toNat
       · rw [if_pos (by omega), if_neg (by omega)]
       · rw [if_neg (by omega), if_pos (by omega)])
   (by simp only [JM]; rw [if_neg (by omega)])]
 unfold BK; by_cases h1 : u.all Io = true
 ·simp only [h1, if_true, Option.bind_some, Sum.elim_inl, M5, Bool.true_and]; by_cases h2 : (1 : Int) ≤ u.length
  ·rw [if_pos h2]; congr 1; rw [decide_eq_decide]; omega
  ·rw [if_neg h2, decide_eq_false (by omega)]
 ·rw [if_neg h1, Bool.eq_false_iff.2 h1]; simp
theorem TM (u : Str) (h : u.length ≤ 1000000) : F72 u = some (BK u) := by
 unfold F72
 rw [BQ u Io (by omega)
   (fun i hi => by
     simp only [JW]
     rw [if_pos (by omega), Af (by omega), Int.toNat_natCast, getD_some hi]
     simp only [Io, decide_eq_true_eq]
     by_cases a : u[i].toNat < 33
     · rw [if_pos (by omega), if_neg (by omega)]
     · rw [if_neg (by omega)]
       by_cases b : 126 < u[i].toNat
       · rw [if_pos (by omega), if_neg (by omega)]
       · rw [if_neg (by omega), if_pos (by omega)])
   (by simp only [JW]; rw [if_neg (by omega)])]
 unfold BK; by_cases h1 : u.all Io = true
 ·simp only [h1, if_true, Option.bind_some, Sum.elim_inl, Mf, Bool.true_and]; by_cases h2 : (1 : Int) ≤ u.length
  ·rw [if_pos h2]; congr 1; rw [decide_eq_decide]; omega
  ·rw [if_neg h2, decide_eq_false (by omega)]
 ·rw [if_neg h1, Bool.eq_false_iff.2 h1]; simp
def Dc (x : UInt8) : Bool := decide ((97 ≤ x.toNat ∧ x.toNat ≤ 122) ∨ (65 ≤ x.toNat ∧ x.toNat ≤ 90) ∨ (48 ≤ x.toNat ∧ x.toNat ≤ 57) ∨ x.toNat = 45 ∨ x.toNat = 46 ∨ x.toNat = 95)
set_option maxHeartbeats 4000000 in
theorem VU (x : UInt8) : T8 (x.toNat : Int) = some (Dc x) := by
 unfold T8 Dc; by_cases h : (97 ≤ x.toNat ∧ x.toNat ≤ 122) ∨ (65 ≤ x.toNat ∧ x.toNat ≤ 90) ∨ (48 ≤ x.toNat ∧ x.toNat ≤ 57) ∨ x.toNat = 45 ∨ x.toNat = 46 ∨ x.toNat = 95
 ·rw [decide_eq_true h]
  repeat' split
  all_goals first | rfl | (exfalso; omega) | (congr 1; rw [decide_eq_true_eq]; omega)
 ·rw [decide_eq_false h]
  repeat' split
  all_goals first | rfl | (exfalso; omega) | (congr 1; rw [decide_eq_false_iff_not]; omega)
def Ip (s : Str) : Bool := s.all Dc && decide (1 ≤ s.length ∧ s.length ≤ 64)
theorem Z5 (s : Str) (h : s.length ≤ 1000000) : F83 s = some (Ip s) := by
 have e : T9 s = some (s.all Dc) := by
  unfold T9
  rw [Af (by omega), BQ s Dc (by omega)
    (fun i hi => by
      simp only [Gz]
      rw [if_pos (by omega), Af (by omega), Int.toNat_natCast, getD_some hi, VU]
      simp only [Option.bind_some]
      cases Dc s[i] <;> simp)
    (by simp only [Gz]; rw [if_neg (by omega)])]
  by_cases h1 : s.all Dc = true
  ·simp [h1, IE]
  ·rw [if_neg h1, Bool.eq_false_iff.2 h1]; simp
 unfold F83 Ip; rw [e]; by_cases h2 : (1 : Int) ≤ s.length
 ·rw [if_pos h2]; by_cases h3 : (s.length : Int) ≤ 64
  ·rw [if_pos h3, decide_eq_true (by omega)]; simp
  ·rw [if_neg h3, decide_eq_false (by omega)]; simp
 ·rw [if_neg h2, decide_eq_false (by omega)]; simp
def GO : Str := [47, 98, 111, 111, 107, 47]
def BC (s : Str) : Bool := decide (s.take 6 = GO) && Ip (s.drop 6)
theorem TN (s : Str) (h : s.length ≤ 1000000) : F55 s = some (BC s) := by
 have e : F64 s [47, 98, 111, 111, 107, 47] = some (if s.take 6 = GO then (s.drop 6, true) else (s, false)) := by
  unfold F64 T6 T5; by_cases h1 : ((([47, 98, 111, 111, 107, 47] : Str).length : Int)) ≤ s.length
  ·have h6 : (6 : Int) ≤ s.length := by simpa using h1
   rw [if_pos h1, Af (by simp), Af h1]; simp only [Option.bind_some, List.length_cons, List.length_nil]; by_cases h2 : s.take 6 = GO
   ·have h3 : List.take (((0 + 1 + 1 + 1 + 1 + 1 + 1 : Nat) : Int)).toNat s = [47, 98, 111, 111, 107, 47] := h2; rw [decide_eq_true h3, if_neg (by simp), Af (by omega), Af (by simpa using h6), if_pos h2]; rfl
   ·have h3 : ¬ List.take (((0 + 1 + 1 + 1 + 1 + 1 + 1 : Nat) : Int)).toNat s = [47, 98, 111, 111, 107, 47] := h2; rw [decide_eq_false h3, if_pos (by simp), if_neg h2]; rfl
  ·rw [if_neg h1]; have h2 : ¬ s.take 6 = GO := by
    intro e; have := congrArg List.length e; simp [GO] at this; simp at h1; omega
   rw [if_neg h2]; simp
 unfold F55; rw [e]; unfold BC; by_cases h2 : s.take 6 = GO
 ·rw [if_pos h2, decide_eq_true h2]; simp only [Option.bind_some, if_true]; rw [Z5 _ (by rw [List.length_drop]; omega)]; simp
 ·rw [if_neg h2, decide_eq_false h2]; simp
set_option maxHeartbeats 4000000 in
theorem TO (s : Str) (h : s.length ≤ 1000000) : F71 s = some (BC s) := by
 have e : ∀ s : Str, s.length ≤ 1000000 → Tv s = some (Ip s) := fun s h => by
  unfold Tv
  rw [BQ s Dc (by omega)
    (fun i hi => by
      simp only [GI]
      rw [if_pos (by omega), Af (by omega), Int.toNat_natCast, getD_some hi]
      generalize hx : s[i] = x
      unfold Dc
      by_cases h : (97 ≤ x.toNat ∧ x.toNat ≤ 122) ∨ (65 ≤ x.toNat ∧ x.toNat ≤ 90) ∨ (48 ≤ x.toNat ∧ x.toNat ≤ 57) ∨ x.toNat = 45 ∨ x.toNat = 46 ∨ x.toNat = 95
      · rw [decide_eq_true h, if_pos rfl]
        repeat' split
        all_goals first | rfl | (exfalso; omega)
      · rw [decide_eq_false h]
        simp only [Bool.false_eq_true, if_false]
        repeat' split
        all_goals first | rfl | (exfalso; omega))
    (by simp only [GI]; rw [if_neg (by omega)])]
  unfold Ip; by_cases h1 : s.all Dc = true
  ·simp only [h1, if_true, Option.bind_some, Sum.elim_inl, IM, Bool.true_and]; by_cases h2 : (1 : Int) ≤ s.length
   ·rw [if_pos h2]; congr 1; rw [decide_eq_decide]; omega
   ·rw [if_neg h2, decide_eq_false (by omega)]
  ·rw [if_neg h1, Bool.eq_false_iff.2 h1]; simp
 unfold F71 BC; by_cases h1 : (6 : Int) < s.length
 ·rw [if_pos h1, Af (by omega), Af (by omega)]; by_cases h2 : s.take 6 = GO
  ·have h3 : s.take 6 = [47, 98, 111, 111, 107, 47] := h2; rw [if_pos h3, decide_eq_true h2, e _ (by rw [List.length_drop]; omega)]; simp
  ·have h3 : ¬ s.take 6 = [47, 98, 111, 111, 107, 47] := h2; rw [if_neg h3, decide_eq_false h2]; simp
 ·rw [if_neg h1]; have : Ip (s.drop 6) = false := by
   rw [List.drop_of_length_le (by omega)]; rfl
  rw [this]; simp
def D3 (x : UInt8) : Bool := decide ((97 ≤ x.toNat ∧ x.toNat ≤ 122) ∨ (65 ≤ x.toNat ∧ x.toNat ≤ 90))
def Co (x : UInt8) : Bool := D3 x || decide ((48 ≤ x.toNat ∧ x.toNat ≤ 57) ∨ x.toNat = 45)
def BY (s : Str) : Bool := decide (1 ≤ s.length ∧ s.length ≤ 64) && (match s with | [] => false | c :: _ => D3 c) && s.all Co
theorem Fa (x : UInt8) (a b : Nat) : Fk (x.toNat : Int) (a : Int) (b : Int) = some (decide (a ≤ x.toNat ∧ x.toNat ≤ b)) := by
 unfold Fk; by_cases h : (a : Int) ≤ x.toNat
 ·rw [if_pos h]; congr 1; rw [decide_eq_decide]; omega
 ·rw [if_neg h, decide_eq_false (by omega)]
theorem TP (s : Str) (h : s.length ≤ 1000000) : F80 s = some (BY s) := by
 unfold F80
 rw [Af (by omega), CC s (fun i x => if (D3 x || (decide (¬ i = 0) && Co x)) = true then none else some (.inr false)) (.inl ()) (by omega)
   (fun i hi => by
     simp only [JP]
     rw [if_pos (by omega), Af (by omega), Int.toNat_natCast, getD_some hi]
     generalize s[i] = x
     have e1 : Fk (x.toNat : Int) 97 122 = _ := Fa x 97 122
     have e2 : Fk (x.toNat : Int) 65 90 = _ := Fa x 65 90
     have e3 : Fk (x.toNat : Int) 48 57 = _ := Fa x 48 57
     rw [e1, e2, e3]
     simp only [Option.bind_some, decide_eq_true_eq]
     by_cases h1 : 97 ≤ x.toNat ∧ x.toNat ≤ 122
     · have : D3 x = true := by simp only [D3, decide_eq_true_eq]; exact .inl h1
       simp [h1, this]
     · by_cases h2 : 65 ≤ x.toNat ∧ x.toNat ≤ 90
       · have : D3 x = true := by simp only [D3, decide_eq_true_eq]; exact .inr h2
         simp [h1, h2, this]
       · have hl : D3 x = false := by simp only [D3, decide_eq_false_iff_not]; omega
         rw [if_pos h1, if_pos h2]
         by_cases h0 : i = 0
         · subst h0
           simp [hl]
         · have h0' : ¬ ((i : Int) = 0) := by omega
           rw [if_neg h0']
           by_cases h3 : 48 ≤ x.toNat ∧ x.toNat ≤ 57
           · have : Co x = true := by simp only [Co, Bool.or_eq_true, decide_eq_true_eq]; exact .inr (.inl h3)
             simp [h3, this, h0]
           · rw [if_pos h3]
             by_cases h4 : (x.toNat : Int) = 45
             · have : Co x = true := by simp only [Co, Bool.or_eq_true, decide_eq_true_eq]; exact .inr (.inr (by omega))
               simp [h4, this, h0]
             · have : Co x = false := by simp only [Co, Bool.or_eq_false_iff, hl, decide_eq_false_iff_not, true_and]; omega
               rw [if_pos h4]
               simp [this, hl])
   (by simp only [JP]; rw [if_neg (by omega)])]
 unfold BY; cases s with
 | nil => simp [Cs, JO]
 | cons c t =>
  rw [C9]; by_cases hc : D3 c = true
  ·have hw : Co c = true := by simp [Co, hc]
   simp only [hc, Bool.true_or, if_true]
   rw [Im (g := fun _ x => if Co x = true then none else some (.inr false)) (fun i x hi => by
     have : ¬ i = 0 := by omega
     by_cases hx : D3 x = true
     · have : Co x = true := by simp [Co, hx]
       simp [hx, this]
     · simp [this, hx]), HK]
   by_cases ha : t.all Co = true
   ·simp only [ha, if_true, Option.bind_some, Sum.elim_inl, JO, List.all_cons, hw, Bool.and_true]; by_cases h2 : (1 : Int) ≤ (c :: t).length
    ·rw [if_pos h2]; simp; omega
    ·simp at h2; omega
   ·rw [if_neg ha]; simp [List.all_cons, Bool.eq_false_iff.2 ha]
  ·have hc' : D3 c = false := Bool.eq_false_iff.2 hc; simp [hc']
set_option maxHeartbeats 4000000 in
theorem VV (s : Str) (h : s.length ≤ 1000000) : Tx s = some (BY s) := by
 have eL : ∀ x : UInt8, R5 (x.toNat : Int) = some (D3 x) := fun x => by
  unfold R5 D3; by_cases h : (97 ≤ x.toNat ∧ x.toNat ≤ 122) ∨ (65 ≤ x.toNat ∧ x.toNat ≤ 90)
  ·rw [decide_eq_true h]
   repeat' split
   all_goals first | rfl | (exfalso; omega) | (congr 1; rw [decide_eq_true_eq]; omega)
  ·rw [decide_eq_false h]
   repeat' split
   all_goals first | rfl | (exfalso; omega) | (congr 1; rw [decide_eq_false_iff_not]; omega)
 unfold Tx BY; by_cases h1 : (s.length : Int) < 1
 ·rw [if_pos h1, decide_eq_false (by omega)]; simp
 ·rw [if_neg h1]; by_cases h2 : (64 : Int) < s.length
  ·rw [if_pos h2, decide_eq_false (by omega)]; simp
  ·rw [if_neg h2, decide_eq_true (by omega), Af (by omega), eL]; cases s with
   | nil => simp at h1
   | cons c t =>
    simp only [Option.bind_some, List.getD_cons_zero, Bool.true_and]; by_cases hc : D3 c = true
    ·rw [hc, if_neg (by simp), BQ (c :: t) Co (by omega)
       (fun i hi => by
         simp only [EG]
         rw [if_pos (by omega), Af (by omega), Int.toNat_natCast, getD_some hi, eL]
         generalize (c :: t)[i] = x
         simp only [Option.bind_some]
         by_cases hx : D3 x = true
         · have : Co x = true := by simp [Co, hx]
           rw [if_neg (by simpa using hx), if_pos this]
         · have hx' : D3 x = false := Bool.eq_false_iff.2 hx
           rw [if_pos hx]
           by_cases hw : (48 ≤ x.toNat ∧ x.toNat ≤ 57) ∨ x.toNat = 45
           · have : Co x = true := by simp only [Co, Bool.or_eq_true, decide_eq_true_eq]; exact .inr hw
             rw [if_pos this]
             repeat' split
             all_goals first | rfl | (exfalso; omega)
           · have : Co x = false := by simp only [Co, Bool.or_eq_false_iff, hx', decide_eq_false_iff_not, true_and]; exact hw
             rw [this]
             simp only [Bool.false_eq_true, if_false]
             repeat' split
             all_goals first | rfl | (exfalso; omega))
       (by simp only [EG]; rw [if_neg (by omega)])]
     by_cases ha : (c :: t).all Co = true
     ·simp only [ha, if_true, Option.bind_some, Sum.elim_inl, GK, Bool.and_true]
     ·rw [if_neg ha, Bool.eq_false_iff.2 ha]; simp
    ·have hc' : D3 c = false := Bool.eq_false_iff.2 hc; simp [hc']
end Go.Idl
namespace Go.Idl
open Go
def lt8 (a b : Str) : Prop := Op.bytesLess a b = true
instance (a b : Str) : Decidable (lt8 a b) := inferInstanceAs (Decidable (_ = true))
theorem IU (a b : Str) : lt8 a b ↔ a < b := by rw [lt8, Go.Proofs.bytesLess_eq, decide_eq_true_eq]
theorem CE (a : Str) : ¬ lt8 a a := by rw [IU]; exact List.lt_irrefl a
theorem Lf {a b c : Str} (h : lt8 a b) (k : lt8 b c) : lt8 a c := by rw [IU] at *; exact List.lt_trans h k
theorem VW {a b : Str} (h : ¬ lt8 a b) (hne : ¬ a = b) : lt8 b a := by
 rw [IU] at *; have h1 : b ≤ a := List.not_lt.1 h; rcases List.le_iff_lt_or_eq.1 h1 with h2 | h2
 ·exact h2
 ·exact absurd h2.symm hne
abbrev Rh (l : List Str) : Prop := l.Pairwise lt8
theorem Lg : ∀ {l m : List Str}, Rh l → Rh m → (∀ x, x ∈ l ↔ x ∈ m) → l = m
  | [], [], _, _, _ => rfl
  | [], y :: m, _, _, h => by have := (h y).2 (by simp); simp at this
  | x :: l, [], _, _, h => by have := (h x).1 (by simp); simp at this
  | x :: l, y :: m, hl, hm, h => by
    rw [Rh, List.pairwise_cons] at hl hm
    have hxy : x = y := by
      have h1 := (h x).1 (by simp)
      have h2 := (h y).2 (by simp)
      rcases List.mem_cons.1 h1 with h1 | h1
      · exact h1
      · rcases List.mem_cons.1 h2 with h2 | h2
        · exact h2.symm
        · exact absurd (Lf (hm.1 x h1) (hl.1 y h2)) (CE y)
    subst hxy
    rw [Lg hl.2 hm.2 fun z => ?_]
    constructor
    · intro hz
      have := (h z).1 (by simp [hz])
      rcases List.mem_cons.1 this with e | e
      · exact absurd (e ▸ hl.1 z hz) (CE _)
      · exact e
    · intro hz
      have := (h z).2 (by simp [hz])
      rcases List.mem_cons.1 this with e | e
      · exact absurd (e ▸ hm.1 z hz) (CE _)
      · exact e
theorem K7 {l : List Str} (h : Rh l) : l.Nodup := by
 refine h.imp fun {a b} hab e => ?_; subst e; exact CE _ hab
theorem Ri (l : List Str) (x : Str) : x ∈ D1 l ↔ x ∈ l := by simp [D1]
theorem Pb {l : List Str} (h : l.Nodup) : Rh (D1 l) := by
 have hs : (D1 l).Pairwise (fun a b => a ≤ b) := by
  have := List.pairwise_mergeSort (le := fun (x y : Str) => decide (x ≤ y)) (fun a b c h1 h2 => by simp only [decide_eq_true_eq] at *; exact List.le_trans h1 h2) (fun a b => by simp only [Bool.or_eq_true, decide_eq_true_eq]; exact List.le_total a b) l; exact this.imp fun h => by simpa using h
 have hn : (D1 l).Nodup := (List.mergeSort_perm l _).nodup_iff.2 h; have hb := List.pairwise_and_iff.2 ⟨hs, hn⟩; refine hb.imp fun {a b} hab => ?_; rw [IU]; rcases List.le_iff_lt_or_eq.1 hab.1 with h2 | h2
 ·exact h2
 ·exact absurd h2 hab.2
section
variable {κ β : Type} [DecidableEq κ]
theorem EL (m : List (κ × β)) (k : κ) (v : β) (n : κ) : AW (AS m k v) n = if n = k then some v else AW m n := by
 induction m with
 | nil =>
  simp only [AS, AW]; by_cases h : k = n
  ·simp [h]
  ·rw [if_neg h, if_neg (fun e => h e.symm)]
 | cons p t ih =>
  simp only [AS]; by_cases h : p.1 = k
  ·rw [if_pos h]; simp only [AW]; by_cases hn : k = n
   ·simp [hn]
   ·rw [if_neg hn, if_neg (fun e => hn e.symm), h, if_neg hn]
  ·rw [if_neg h]; simp only [AW]; by_cases hn : p.1 = n
   ·rw [if_pos hn, if_pos hn, if_neg (fun e => h (hn.trans e))]
   ·rw [if_neg hn, if_neg hn]; exact ih
theorem Fb {m : List (κ × β)} {n : κ} : n ∈ m.map (·.1) ↔ (AW m n).isSome = true := by
 induction m with
 | nil => simp [AW]
 | cons p t ih =>
  simp only [List.map_cons, List.mem_cons, AW] at ih ⊢; by_cases h : p.1 = n
  ·simp [h]
  ·rw [if_neg h, ← ih]; constructor
   ·rintro (e | e)
    ·exact absurd e.symm h
    ·exact e
   ·exact .inr
theorem TQ {m : List (κ × β)} {k : κ} {v : β} {n : κ} : n ∈ (AS m k v).map (·.1) ↔ n = k ∨ n ∈ m.map (·.1) := by
 rw [Fb, EL, Fb]; by_cases h : n = k
 ·simp [h]
 ·simp [h]
theorem Fc {m : List (κ × β)} (h : (m.map (·.1)).Nodup) (k : κ) (v : β) : ((AS m k v).map (·.1)).Nodup := by
 induction m with
 | nil => simp [AS]
 | cons p t ih =>
  simp only [List.map_cons, List.nodup_cons] at h; simp only [AS]; by_cases hp : p.1 = k
  ·rw [if_pos hp]; simp only [List.map_cons, List.nodup_cons]; exact ⟨hp ▸ h.1, h.2⟩
  ·rw [if_neg hp]; simp only [List.map_cons, List.nodup_cons]; refine ⟨fun hm => ?_, ih h.2⟩; rcases TQ.1 hm with e | e
   ·exact hp e
   ·exact h.1 e
theorem TR {m : List (κ × β)} {k : κ} : (FO m k).Sublist m := by
 induction m with
 | nil => exact .slnil
 | cons p t ih =>
  simp only [FO]; split
  ·exact List.sublist_cons_self _ _
  ·exact ih.cons_cons _
theorem Lh {m : List (κ × β)} (h : (m.map (·.1)).Nodup) (k : κ) : ((FO m k).map (·.1)).Nodup := h.sublist (TR.map _)
theorem NP {m : List (κ × β)} (hd : (m.map (·.1)).Nodup) (k n : κ) : AW (FO m k) n = if n = k then none else AW m n := by
 induction m with
 | nil => simp [FO, AW]
 | cons p t ih =>
  simp only [List.map_cons, List.nodup_cons] at hd; simp only [FO]; by_cases h : p.1 = k
  ·rw [if_pos h]; by_cases hn : n = k
   ·subst hn; rw [if_pos rfl]; have := hd.1; rw [h, Fb] at this; simpa using this
   ·rw [if_neg hn]; simp only [AW]; rw [if_neg (fun e => hn (e.symm.trans h))]
  ·rw [if_neg h]; simp only [AW]; by_cases hn : p.1 = n
   ·rw [if_pos hn, if_pos hn, if_neg (fun e => h (hn.trans e))]
   ·rw [if_neg hn, if_neg hn]; exact ih hd.2
end
section
variable {α : Type} {hf uf : α → Str}
structure C2 (hf uf : α → Str) (m : List (Str × α)) (n : List (Str × Str)) (L : List α) : Prop where
  TS : L.Pairwise fun a b => lt8 (hf a) (hf b)
  mn : (m.map (·.1)).Nodup
  nn : (n.map (·.1)).Nodup
  mg : ∀ h x, AW m h = some x ↔ x ∈ L ∧ hf x = h
  ng : ∀ u h, AW n u = some h ↔ ∃ x, x ∈ L ∧ uf x = u ∧ hf x = h
  uu : L.Pairwise fun a b => ¬ uf a = uf b
variable {m : List (Str × α)} {n : List (Str × Str)} {L : List α}
theorem C2.nil : C2 hf uf [] [] [] := ⟨by simp, by simp, by simp, by simp [AW], by simp [AW], by simp⟩
theorem C2.Q5 (t : C2 hf uf m n L) : Rh (L.map hf) := List.pairwise_map.2 t.TS
theorem C2.keys (t : C2 hf uf m n L) (h : Str) : h ∈ m.map (·.1) ↔ h ∈ L.map hf := by
 rw [Fb, Option.isSome_iff_exists, List.mem_map]; exact ⟨fun ⟨x, hx⟩ => ⟨x, (t.mg h x).1 hx⟩, fun ⟨x, hx⟩ => ⟨x, (t.mg h x).2 hx⟩⟩
theorem C2.len (t : C2 hf uf m n L) : m.length = L.length := by
 have := ((List.perm_ext_iff_of_nodup t.mn (K7 t.Q5)).2 t.keys).length_eq; simpa using this
theorem C2.sort (t : C2 hf uf m n L) : D1 (m.map (·.1)) = L.map hf :=
  Lg (Pb t.mn) t.Q5 fun x => by rw [Ri]; exact t.keys x
theorem C2.inj (t : C2 hf uf m n L) {x y : α} (hx : x ∈ L) (hy : y ∈ L) (e : hf x = hf y) : x = y := by
 have h1 := (t.mg (hf x) x).2 ⟨hx, rfl⟩; have h2 := (t.mg (hf x) y).2 ⟨hy, e.symm⟩; rw [h1] at h2; exact Option.some.inj h2
theorem C2.eE (t : C2 hf uf m n L) {x y : α} (hx : x ∈ L) (hy : y ∈ L) (e : uf x = uf y) : x = y := by
 have h1 := (t.ng (uf x) (hf x)).2 ⟨x, hx, rfl, rfl⟩; have h2 := (t.ng (uf x) (hf y)).2 ⟨y, hy, e.symm, rfl⟩; rw [h1] at h2; exact t.inj hx hy (Option.some.inj h2)
theorem C2.get (t : C2 hf uf m n L) {x : α} (hx : x ∈ L) : AW m (hf x) = some x := (t.mg _ _).2 ⟨hx, rfl⟩
theorem C2.eG (t : C2 hf uf m n L) {x : α} (hx : x ∈ L) : AW n (uf x) = some (hf x) := (t.ng _ _).2 ⟨x, hx, rfl, rfl⟩
theorem C2.nothing (t : C2 hf uf m n L) {h : Str} : AW m h = none ↔ ∀ x ∈ L, ¬ hf x = h := by
 rw [Option.eq_none_iff_forall_ne_some]; exact ⟨fun q x hx e => q x ((t.mg h x).2 ⟨hx, e⟩), fun q x e => q x ((t.mg h x).1 e).1 ((t.mg h x).1 e).2⟩
theorem C2.TT (t : C2 hf uf m n L) {u : Str} : AW n u = none ↔ ∀ x ∈ L, ¬ uf x = u := by
 rw [Option.eq_none_iff_forall_ne_some]; exact ⟨fun q x hx e => q (hf x) ((t.ng u _).2 ⟨x, hx, e, rfl⟩), fun q h e => by obtain ⟨x, h1, h2, _⟩ := (t.ng u h).1 e; exact q x h1 h2⟩
def Fl (hf : α → Str) (h : Str) : List α → Nat
  | [] => 0
  | y :: l => if lt8 (hf y) h then Fl hf h l + 1 else 0
theorem MA (h : Str) : ∀ l : List α, Fl hf h l ≤ l.length
  | [] => Nat.le_refl _
  | y :: l => by
    have := MA h l
    simp only [Fl, List.length_cons]
    split <;> omega
def G5 (hf : α → Str) (x : α) (l : List α) : List α := l.take (Fl hf (hf x) l) ++ x :: l.drop (Fl hf (hf x) l)
theorem Dd {x y : α} {l : List α} : y ∈ G5 hf x l ↔ y = x ∨ y ∈ l := by
 conv => rhs; rw [← List.take_append_drop (Fl hf (hf x) l) l]
 simp only [G5, List.mem_append, List.mem_cons]; constructor
 ·rintro (h | h | h)
  ·exact .inr (.inl h)
  ·exact .inl h
  ·exact .inr (.inr h)
 ·rintro (h | h | h)
  ·exact .inr (.inl h)
  ·exact .inl h
  ·exact .inr (.inr h)
theorem TU (x : α) (l : List α) : (G5 hf x l).length = l.length + 1 := by
 have := MA (hf := hf) (hf x) l; simp only [G5, List.length_append, List.length_cons, List.length_take, List.length_drop]; omega
theorem Li (x y : α) (l : List α) : G5 hf x (y :: l) = if lt8 (hf y) (hf x) then y :: G5 hf x l else x :: y :: l := by
 unfold G5; simp only [Fl]; split
 ·simp
 ·simp
theorem Lj {x : α} : ∀ {l : List α}, (l.Pairwise fun a b => lt8 (hf a) (hf b)) → (∀ y ∈ l, ¬ hf y = hf x) → (G5 hf x l).Pairwise fun a b => lt8 (hf a) (hf b)
  | [], _, _ => by simp [G5, Fl]
  | y :: l, h, hn => by
    rw [List.pairwise_cons] at h
    rw [Li]
    split
    · rename_i hy
      rw [List.pairwise_cons]
      refine ⟨fun z hz => ?_, Lj h.2 fun z hz => hn z (by simp [hz])⟩
      rcases Dd.1 hz with e | e
      · exact e ▸ hy
      · exact h.1 z e
    · rename_i hy
      have hxy := VW hy (hn y (by simp))
      rw [List.pairwise_cons, List.pairwise_cons]
      refine ⟨fun z hz => ?_, h⟩
      rcases List.mem_cons.1 hz with e | e
      · exact e ▸ hxy
      · exact Lf hxy (h.1 z e)
theorem Rj (x : α) (l : List α) : (G5 hf x l).Perm (x :: l) := by
 conv => rhs; rw [← List.take_append_drop (Fl hf (hf x) l) l]
 exact List.perm_middle
theorem C2.add (t : C2 hf uf m n L) {x : α} (h1 : ∀ y ∈ L, ¬ hf y = hf x) (h2 : ∀ y ∈ L, ¬ uf y = uf x) : C2 hf uf (AS m (hf x) x) (AS n (uf x) (hf x)) (G5 hf x L) := by
 refine ⟨Lj t.TS h1, Fc t.mn _ _, Fc t.nn _ _, fun h y => ?_, fun u h => ?_, ?_⟩
 ·rw [EL, Dd]; by_cases e : h = hf x
  ·rw [if_pos e]; constructor
   ·rintro q; cases q; exact ⟨.inl rfl, e.symm⟩
   ·rintro ⟨q | q, q2⟩
    ·rw [q]
    ·exact absurd (q2.trans e) (h1 y q)
  ·rw [if_neg e, t.mg]; constructor
   ·rintro ⟨q, q2⟩; exact ⟨.inr q, q2⟩
   ·rintro ⟨q | q, q2⟩
    ·subst q; exact absurd q2.symm e
    ·exact ⟨q, q2⟩
 ·rw [EL]; by_cases e : u = uf x
  ·rw [if_pos e]; constructor
   ·rintro q; cases q; exact ⟨x, Dd.2 (.inl rfl), e.symm, rfl⟩
   ·rintro ⟨y, q, q2, q3⟩
    rcases Dd.1 q with q | q
    ·subst q; rw [q3]
    ·exact absurd (q2.trans e) (h2 y q)
  ·rw [if_neg e, t.ng]; constructor
   ·rintro ⟨y, q, q2⟩; exact ⟨y, Dd.2 (.inr q), q2⟩
   ·rintro ⟨y, q, q2, q3⟩
    rcases Dd.1 q with q | q
    ·subst q; exact absurd q2.symm e
    ·exact ⟨y, q, q2, q3⟩
 ·refine (Rj x L).pairwise_iff (fun {a b} h e => h e.symm) |>.2 ?_
  rw [List.pairwise_cons]; exact ⟨fun y hy e => h2 y hy e.symm, t.uu⟩
theorem C2.set (t : C2 hf uf m n L) {k : Nat} (hk : k < L.length) {x : α} (h1 : hf x = hf L[k]) (h2 : uf x = uf L[k]) : C2 hf uf (AS m (hf x) x) (AS n (uf x) (hf x)) (L.set k x) := by
 have hm : L.map hf = (L.set k x).map hf := by
  rw [List.map_set, h1]; apply List.ext_getElem
  ·simp
  ·intro i q q2; simp only [List.getElem_map, List.getElem_set]; split
   ·rename_i e; subst e; rfl
   ·rfl
 have hu : L.map uf = (L.set k x).map uf := by
  rw [List.map_set, h2]; apply List.ext_getElem
  ·simp
  ·intro i q q2; simp only [List.getElem_map, List.getElem_set]; split
   ·rename_i e; subst e; rfl
   ·rfl
 have hmem : ∀ y, y ∈ L.set k x ↔ y = x ∨ (y ∈ L ∧ ¬ hf y = hf x) := by
  intro y; constructor
  ·intro hy; obtain ⟨i, hi, e⟩ := List.getElem_of_mem hy; simp only [List.length_set] at hi; rw [List.getElem_set] at e; split at e
   ·exact .inl e.symm
   ·rename_i ne; subst e; refine .inr ⟨List.getElem_mem _, fun e => ne ?_⟩; rw [h1] at e; have := List.getElem_inj (K7 t.Q5) (i := i) (j := k) (h₀ := by simpa using hi) (h₁ := by simpa using hk); simp only [List.getElem_map] at this; exact (this.1 e).symm
  ·rintro (e | ⟨q, q2⟩)
   ·subst e; exact List.mem_set hk y
   ·obtain ⟨i, hi, e⟩ := List.getElem_of_mem q; have hne : ¬ k = i := by
     intro e2; subst e2; subst e; exact q2 h1.symm
    have : (L.set k x)[i]'(by simpa using hi) = y := by rw [List.getElem_set, if_neg hne, e]
    rw [← this]; exact List.getElem_mem _
 have hLk : L[k] ∈ L := List.getElem_mem _; refine ⟨?_, Fc t.mn _ _, Fc t.nn _ _, fun h y => ?_, fun u h => ?_, ?_⟩
 ·have := t.Q5; rw [hm] at this; exact List.pairwise_map.1 this
 ·rw [EL, hmem]; by_cases e : h = hf x
  ·rw [if_pos e]; constructor
   ·rintro q; cases q; exact ⟨.inl rfl, e.symm⟩
   ·rintro ⟨q | q, q2⟩
    ·rw [q]
    ·exact absurd (q2.trans e) q.2
  ·rw [if_neg e, t.mg]; constructor
   ·rintro ⟨q, q2⟩; exact ⟨.inr ⟨q, fun q3 => e (q2.symm.trans q3)⟩, q2⟩
   ·rintro ⟨q | q, q2⟩
    ·subst q; exact absurd q2.symm e
    ·exact ⟨q.1, q2⟩
 ·rw [EL]; by_cases e : u = uf x
  ·rw [if_pos e]; constructor
   ·rintro q; cases q; exact ⟨x, (hmem _).2 (.inl rfl), e.symm, rfl⟩
   ·rintro ⟨y, q, q2, q3⟩
    rcases (hmem _).1 q with q | q
    ·subst q; rw [q3]
    ·have := t.eE q.1 hLk (q2.trans (e.trans h2)); exact absurd (this ▸ h1.symm) q.2
  ·rw [if_neg e, t.ng]; constructor
   ·rintro ⟨y, q, q2, q3⟩
    refine ⟨y, (hmem _).2 (.inr ⟨q, fun q4 => e ?_⟩), q2, q3⟩; have := t.inj q hLk (q4.trans h1); subst this; exact q2.symm.trans h2.symm
   ·rintro ⟨y, q, q2, q3⟩
    rcases (hmem _).1 q with q | q
    ·subst q; exact absurd q2.symm e
    ·exact ⟨y, q.1, q2, q3⟩
 ·have h3 : (L.map uf).Pairwise fun a b => ¬ a = b := List.pairwise_map.2 t.uu; rw [hu] at h3; exact List.pairwise_map.1 h3
theorem C2.drop (t : C2 hf uf m n L) {k : Nat} (hk : k < L.length) : C2 hf uf (FO m (hf L[k])) (FO n (uf L[k])) (L.take k ++ L.drop (k + 1)) := by
 have hLk : L[k] ∈ L := List.getElem_mem _; have hs : (L.take k ++ L.drop (k + 1)).Sublist L := by
  conv => rhs; rw [← List.take_append_drop k L, List.drop_eq_getElem_cons hk]
  exact List.Sublist.append_left (List.sublist_cons_self _ _) _
 have hmem : ∀ y, y ∈ L.take k ++ L.drop (k + 1) ↔ (y ∈ L ∧ ¬ hf y = hf L[k]) := by
  intro y; have hp : L.Perm (L[k] :: (L.take k ++ L.drop (k + 1))) := by
   conv => lhs; rw [← List.take_append_drop k L, List.drop_eq_getElem_cons hk]
   exact List.perm_middle
  have hr : (L[k] :: (L.take k ++ L.drop (k + 1))).Pairwise fun a b => ¬ hf a = hf b := by
   refine (hp.pairwise_iff (fun {a b} h e => h e.symm)).1 ?_; refine t.TS.imp fun {a b} h e => ?_; rw [e] at h; exact CE _ h
  rw [List.pairwise_cons] at hr; constructor
  ·intro hy; exact ⟨hs.subset hy, fun e => hr.1 y hy e.symm⟩
  ·rintro ⟨q, q2⟩
   rcases List.mem_cons.1 (hp.mem_iff.1 q) with e | e
   ·exact absurd (by rw [e]) q2
   ·exact e
 refine ⟨t.TS.sublist hs, Lh t.mn _, Lh t.nn _, fun h y => ?_, fun u h => ?_, t.uu.sublist hs⟩
 ·rw [NP t.mn, hmem]; by_cases e : h = hf L[k]
  ·rw [if_pos e]; constructor
   ·intro q; cases q
   ·rintro ⟨q, q2⟩; exact absurd (q2.trans e) q.2
  ·rw [if_neg e, t.mg]; constructor
   ·rintro ⟨q, q2⟩; exact ⟨⟨q, fun q3 => e (q2.symm.trans q3)⟩, q2⟩
   ·rintro ⟨q, q2⟩; exact ⟨q.1, q2⟩
 ·rw [NP t.nn]; by_cases e : u = uf L[k]
  ·rw [if_pos e]; constructor
   ·intro q; cases q
   ·rintro ⟨y, q, q2, q3⟩
    have := t.eE ((hmem y).1 q).1 hLk (q2.trans e); exact absurd (by rw [this]) ((hmem y).1 q).2
  ·rw [if_neg e, t.ng]; constructor
   ·rintro ⟨y, q, q2, q3⟩
    refine ⟨y, (hmem _).2 ⟨q, fun q4 => e ?_⟩, q2, q3⟩; have := t.inj q hLk q4; subst this; exact q2.symm
   ·rintro ⟨y, q, q2, q3⟩; exact ⟨y, ((hmem y).1 q).1, q2, q3⟩
end
section
variable {α : Type}
def K8 (p : α → Bool) (l : List α) : Int := match l.findIdx? p with | some i => (i : Int) | none => -1
theorem Ll {p : α → Bool} {l : List α} (h : ∀ x ∈ l, p x = false) : K8 p l = -1 := by
 unfold K8; rw [List.findIdx?_eq_none_iff.2 h]
theorem K9 (p : α → Bool) (l : List α) : (K8 p l = -1 ∧ ∀ x ∈ l, p x = false) ∨ ∃ k : Nat, ∃ h : k < l.length, K8 p l = (k : Int) ∧ p l[k] = true := by
 unfold K8; cases hf : l.findIdx? p with
 | none => exact .inl ⟨rfl, List.findIdx?_eq_none_iff.1 hf⟩
 | some k =>
  obtain ⟨h1, h2, _⟩ := List.findIdx?_eq_some_iff_getElem.1 hf; exact .inr ⟨k, h1, rfl, h2⟩
end
end Go.Idl
namespace Go.Idl
open Go
def Ci (x : S89) : Bool := BY x.fType && decide (x.fType.map C0 = x.fType) && decide (1 ≤ x.Ac.length ∧ x.Ac.length ≤ 200)
def Bz (d : List S89) : Bool := decide (d.length ≤ 16) && d.all Ci
def Pc (d : List S89) : Prop := d.length ≤ 1000000 ∧ ∀ x, x ∈ d → x.fType.length ≤ 1000000 ∧ x.Ac.length ≤ 1000000
theorem TV (s : Str) (h : s.length ≤ 1000000) : F81 s = some (s.map C0) := Af (by omega)
theorem Z6 (x : S89) (h : x.fType.length ≤ 1000000 ∧ x.Ac.length ≤ 1000000) : F79 x = some (Ci x) := by
 unfold F79 Ci; rw [TP _ h.1, TV _ h.1]; simp only [Option.bind_some]; by_cases h1 : BY x.fType = true
 ·rw [if_pos h1, h1]; by_cases h2 : x.fType.map C0 = x.fType
  ·rw [if_pos h2, decide_eq_true h2]; by_cases h3 : (1 : Int) ≤ x.Ac.length
   ·rw [if_pos h3]; congr 1; simp only [Bool.true_and]; rw [decide_eq_decide]; omega
   ·rw [if_neg h3, decide_eq_false (p := 1 ≤ x.Ac.length ∧ _) (by omega)]; rfl
  ·rw [if_neg h2, decide_eq_false h2]; simp
 ·rw [if_neg h1, Bool.eq_false_iff.2 h1]; simp
theorem VX (d : List S89) (h : Pc d) : Tg d = some (!d.all Ci) := by
 unfold Tg VD; obtain ⟨j, hj, hf⟩ := Le Ci d 0
 rw [CC d (fun i x => if Ci x = true then none else some (.inr (i : Int))) (.inl ()) (by have := h.1; omega)
   (fun i hi => by
     simp only [GC, VB]
     rw [if_pos (by omega), Af (by omega), Int.toNat_natCast, getD_some hi, Z6 _ (h.2 _ (List.getElem_mem _))]
     simp only [Option.bind_some]
     cases Ci d[i] <;> simp)
   (by simp only [GC]; rw [if_neg (by omega)]), hf]
 by_cases h1 : d.all Ci = true
 ·rw [if_pos h1, h1]; simp [IF]
 ·rw [if_neg h1, Bool.eq_false_iff.2 h1]; simp [hj]
theorem TW (d : List S89) (h : Pc d) : F54 d = some (if Bz d = true then 0 else 2) := by
 unfold F54 Bz; by_cases h1 : (16 : Int) < d.length
 ·rw [if_pos h1, decide_eq_false (by omega)]; simp
 ·rw [if_neg h1, decide_eq_true (by omega)]; unfold F82; rw [VX d h]; simp only [Option.bind_some, Bool.not_not, Bool.true_and]; by_cases h2 : d.all Ci = true
  ·rw [if_neg (by simpa using h2), if_pos h2]
  ·rw [if_pos h2, if_neg h2]
theorem NQ {f : UInt8 → UInt8} : ∀ (l acc : Str) (k : Nat), Mv (fun _ (a : Str) x => (.inl (a ++ [f x]) : Str ⊕ Str)) id k acc l = acc ++ l.map f
  | [], acc, _ => by simp [Mv]
  | x :: l, acc, k => by
    rw [Ld]
    simp only
    rw [NQ l]
    simp
theorem VY (s : Str) (h : s.length ≤ 1000000) : Ty s = some (s.map C0) := by
 unfold Ty; have key := R9 (l := s) (step := fun (s_1 : Str × Int) => F2 s s_1.1 s_1.2) (fun _ (a : Str) x => (.inl (a ++ [C0 x]) : Str ⊕ Str)) id (fun i a => a.length = i) (a := []) (by omega) rfl
  (fun i hi a hI => by
    simp only [F2]
    rw [if_pos (by omega), Af (by omega), Int.toNat_natCast, getD_some hi]
    generalize s[i] = x
    obtain ⟨e1, e2⟩ := Gy x
    have hx := x.toNat_lt
    by_cases h1 : (65 : Int) ≤ x.toNat
    · rw [if_pos h1]
      by_cases h2 : (x.toNat : Int) ≤ 90
      · have hw : IntKind.u8.wrap ((x.toNat : Int) + 32) = (x.toNat : Int) + 32 := wrap_u8 (by omega) (by omega)
        have e3 := e1 ⟨h1, h2⟩
        rw [if_pos h2, hw, Af (by omega), Af (by simp; omega)]
        have e4 : ((x.toNat : Int) + 32).toNat = (C0 x).toNat := by omega
        rw [e4, UInt8.ofNat_toNat]
      · rw [if_neg h2, Af (by omega), Af (by simp; omega), Int.toNat_natCast, UInt8.ofNat_toNat, e2 (by omega)]
    · rw [if_neg h1, Af (by omega), Af (by simp; omega), Int.toNat_natCast, UInt8.ofNat_toNat, e2 (by omega)])
  (fun i hi a a' hI e => by cases e; simp [hI])
  (fun a hI => by simp only [F2]; rw [if_neg (by omega)]; rfl)
 rw [key, NQ]; simp [IQ]
theorem Z7 (d : List S89) (h : Pc d) : F73 d = some (Bz d) := by
 unfold F73 Bz; by_cases h1 : (16 : Int) < d.length
 ·rw [if_pos h1, decide_eq_false (by omega)]; simp
 ·rw [if_neg h1, decide_eq_true (by omega), BQ d Ci (by omega)
    (fun i hi => by
      have hb := h.2 _ (List.getElem_mem hi)
      simp only [J_]
      rw [if_pos (by omega), Af (by omega), Int.toNat_natCast, getD_some hi, VV _ hb.1, VY _ hb.1]
      simp only [Option.bind_some]
      unfold Ci
      by_cases a1 : BY d[i].fType = true
      · rw [if_neg (by simpa using a1), a1]
        by_cases a2 : (d[i].Ac.length : Int) < 1
        · rw [if_pos a2, decide_eq_false (p := 1 ≤ d[i].Ac.length ∧ _) (by omega)]; simp
        · rw [if_neg a2]
          by_cases a3 : (200 : Int) < d[i].Ac.length
          · rw [if_pos a3, decide_eq_false (p := 1 ≤ d[i].Ac.length ∧ _) (by omega)]; simp
          · rw [if_neg a3, decide_eq_true (p := 1 ≤ d[i].Ac.length ∧ _) (by omega)]
            by_cases a4 : d[i].fType.map C0 = d[i].fType
            · rw [if_neg (by simpa using a4), decide_eq_true a4]; simp
            · rw [if_pos a4, decide_eq_false a4]; simp
      · rw [if_pos a1, Bool.eq_false_iff.2 a1]; simp)
    (by simp only [J_]; rw [if_neg (by omega)])]
  by_cases h2 : d.all Ci = true
  ·simp [h2, Mm]
  ·rw [if_neg h2, Bool.eq_false_iff.2 h2]; simp
theorem Z8 (a b : List S89) (ha : a.length ≤ 1000000) : F51 a b = some (decide (a = b)) := by
 unfold F51; by_cases hl : (a.length : Int) = b.length
 ·rw [if_neg (by simpa using hl)]; have hl' : a.length = b.length := by omega
  obtain ⟨r, h1, h2⟩ := D5 (step := fun (s : Int) => HI a b s) (Post := fun y => (y = .inl () ∧ a = b) ∨ (y = .inr false ∧ ¬ a = b)) a.length (fun i => a.take i = b.take i) (by simp)
   (fun i hi hI => by
     have hw := B6 (i := i) (by omega)
     have hib : i < b.length := by omega
     simp only [HI]
     rw [if_pos (by omega), Af (by omega), Af (by omega), Int.toNat_natCast, getD_some hi, getD_some hib, hw]
     by_cases e : a[i].fType = b[i].fType ∧ a[i].Ac = b[i].Ac
     · rw [if_neg (by simpa using e)]
       refine .inl ⟨rfl, ?_⟩
       have e' : a[i] = b[i] := by
         cases ha' : a[i] with | mk t v => cases hb' : b[i] with | mk t' v' => rw [ha', hb'] at e; simp at e; rw [e.1, e.2]
       rw [List.take_succ_eq_append_getElem hi, List.take_succ_eq_append_getElem hib, hI, e']
     · rw [if_pos e]
       refine .inr ⟨_, rfl, .inr ⟨rfl, fun q => e ?_⟩⟩
       subst q
       exact ⟨rfl, rfl⟩)
   (fun hI => by
     simp only [HI]
     rw [if_neg (by omega)]
     refine ⟨_, rfl, .inl ⟨rfl, ?_⟩⟩
     rwa [List.take_of_length_le (Nat.le_refl _), List.take_of_length_le (by omega)] at hI)
  rw [h1]; rcases h2 with ⟨rfl, h⟩ | ⟨rfl, h⟩
  ·simp [Mn, h]
  ·simp [h]
 ·rw [if_pos hl, decide_eq_false (fun e => hl (by rw [e]))]
theorem Z9 (a b : List (List Str)) (ha : a.length = 8) (hb : b.length = 8) : F48 a b = some (decide (a = b)) := Af ⟨ha, hb⟩
theorem Za (a b : S33) (ha : a.A3.length = 8) (hb : b.A3.length = 8) (hd : a.fDn.length ≤ 1000000) : F25 a b = some (decide (a = b)) := by
 unfold F25; rw [Af ha, Af hb, Z9 _ _ ha hb, Z8 _ _ hd]; obtain ⟨h, u, d, s⟩ := a; obtain ⟨h', u', d', s'⟩ := b; simp only [S33.mk.injEq, Option.bind_some]; by_cases e1 : h = h'
 ·by_cases e2 : u = u'
  ·by_cases e3 : d = d'
   ·simp [e1, e2, e3]
   ·simp [e1, e2, e3]
  ·simp [e1, e2]
 ·simp [e1]
theorem EM {α : Type} (p : α → Bool) : ∀ (l : List α) (k : Nat), Cs (fun i x => if p x = true then some (.inr (i : Int)) else none) (.inl ()) k l = (match l.findIdx? p with | some j => (.inr ((k + j : Nat) : Int) : Unit ⊕ Int) | none => .inl ())
  | [], k => by simp [Cs]
  | x :: l, k => by
    rw [C9, List.findIdx?_cons]
    by_cases h : p x = true
    · simp [h]
    · simp only [h, if_false, Bool.false_eq_true]
      rw [EM p l (k + 1)]
      cases l.findIdx? p with
      | none => rfl
      | some j => simp; omega
def Bv (l : List S39) (h : Str) : Int := K8 (fun x : S39 => decide (x.A7 = h)) l
def GP (l : List S39) (u : Str) : Int := K8 (fun x : S39 => decide (x.A8 = u)) l
theorem Pd (l : List S39) (h : Str) (hl : l.length ≤ 1000000) : F15 l h = some (Bv l h) := by
 unfold F15
 rw [CC l (fun i x => if decide (x.A7 = h) = true then some (.inr (i : Int)) else none) (.inl ()) (by omega)
   (fun i hi => by
     simp only [JY]
     rw [if_pos (by omega), Af (by omega), Int.toNat_natCast, getD_some hi]
     by_cases e : l[i].A7 = h <;> simp [e])
   (by simp only [JY]; rw [if_neg (by omega)]), EM]
 unfold Bv K8; cases l.findIdx? (fun x : S39 => decide (x.A7 = h)) with
 | none => simp [Mi]
 | some j => simp
theorem Zb (l : List S39) (u : Str) (hl : l.length ≤ 1000000) : F16 l u = some (GP l u) := by
 unfold F16
 rw [CC l (fun i x => if decide (x.A8 = u) = true then some (.inr (i : Int)) else none) (.inl ()) (by omega)
   (fun i hi => by
     simp only [JZ]
     rw [if_pos (by omega), Af (by omega), Int.toNat_natCast, getD_some hi]
     by_cases e : l[i].A8 = u <;> simp [e])
   (by simp only [JZ]; rw [if_neg (by omega)]), EM]
 unfold GP K8; cases l.findIdx? (fun x : S39 => decide (x.A8 = u)) with
 | none => simp [Mk]
 | some j => simp
end Go.Idl
namespace Go.Idl
open Go
theorem Pe {α : Type} {l : List α} {i : Nat} {d : α} (h : i < l.length) : l.getD i d = l[i] := by rw [List.getD_eq_getElem?_getD, List.getElem?_eq_getElem h]; rfl
theorem byte_eq {a c : UInt8} : ((a.toNat : Int) = (c.toNat : Int)) ↔ a = c := by
 constructor
 ·intro h; exact UInt8.toNat_inj.1 (by omega)
 ·rintro rfl; rfl
theorem Ka {a : UInt8} {n : Nat} (c : UInt8) (hc : c.toNat = n) : ((a.toNat : Int) = (n : Int)) ↔ a = c := by
 rw [← hc]; exact byte_eq
theorem Pf {a : UInt8} : ((a.toNat : Int) = 10) ↔ a = 10 := Ka 10 rfl
theorem Rk (s : Str) (c : UInt8) (hs : s.length ≤ 4294967280) : ∀ (k i : Nat), i + k = s.length → AN (fun v => IT s (c.toNat : Int) v) (i : Int) = some (match B7 (s.drop i) c with | some p => .inr (s.take i ++ p.1, p.2, true) | none => .inl ())
  | 0, i, h => by
    rw [List.drop_of_length_le (by omega)]
    refine AR ?_
    simp only [IT]
    rw [if_neg (by omega)]
    rfl
  | k + 1, i, h => by
    have hi : i < s.length := by omega
    have hg : s.getD i 0 = s[i] := by rw [List.getD_eq_getElem?_getD, List.getElem?_eq_getElem hi]; rfl
    have hw : IntKind.i64.wrap ((i : Int) + 1) = ((i + 1 : Nat) : Int) := B6 (by omega)
    rw [List.drop_eq_getElem_cons hi]
    unfold B7
    by_cases hc : s[i] = c
    · rw [if_pos hc]
      refine AR ?_
      simp only [IT]
      rw [if_pos (by omega), Af (by omega), Int.toNat_natCast, hg, if_pos (byte_eq.2 hc), Af (by omega), Af (by omega), hw, Af (by omega), Af (by omega), Int.toNat_natCast]
      simp
    · rw [if_neg hc]
      rw [Bu (s' := ((i + 1 : Nat) : Int)), Rk s c hs k (i + 1) (by omega)]
      · cases B7 (s.drop (i + 1)) c with
        | none => rfl
        | some p =>
          simp only [Option.map_some]
          rw [List.take_succ_eq_append_getElem hi]
          simp only [List.append_assoc, List.singleton_append]
      · simp only [IT]
        rw [if_pos (by omega), Af (by omega), Int.toNat_natCast, hg, if_neg (fun e => hc (byte_eq.1 e)), hw]
theorem Q6 (st : By) (c : UInt8) (hs : st.Ay.fs.length < 4294967281) : R7 st (c.toNat : Int) = some (match B7 st.Ay.fs c with | some p => (p.1, ⟨⟨p.2⟩, st.Bf⟩) | none => (st.Ay.fs, ⟨⟨[]⟩, true⟩)) := by
 have hb := c.toNat_lt; unfold R7 F65; rw [Af (by omega), Af (by omega), Int.toNat_natCast, UInt8.ofNat_toNat, Q4]; simp only [Option.bind_some]; cases B7 st.Ay.fs c with
 | none => cases h : st.Bf <;> simp
 | some p => cases h : st.Bf <;> simp
theorem MB (st : By) (s : Str) (m : Nat) (hm : m ≤ 9999) (hs : s.length ≤ 281474976710656) : R8 st s (m : Int) = some (match GN s m with | some n => ((n : Int), st) | none => (0, ⟨st.Ay, true⟩)) := by
 have noN : (∀ n, 1 ≤ n → n ≤ m → Lib.decDigits n ≠ s) → (match GN s m with | some n => ((n : Int), st) | none => ((0 : Int), (⟨st.Ay, true⟩ : By))) = (0, ⟨st.Ay, true⟩) := fun h => by rw [Rb h]
 unfold R8 Z1; rw [Af (by omega)]; simp only [Option.bind_some]; have hat : ∀ n, n ≤ m → Lib.decDigits n = s → CR s = ((n : Int), false) := fun n hn e => by rw [← e]; exact TJ n (by omega)
 by_cases h1 : (CR s).2 = true
 ·rw [if_pos h1, noN]; intro n _ hn e; rw [hat n hn e] at h1; cases h1
 ·rw [if_neg h1]; by_cases h2 : (CR s).1 < 1
  ·rw [if_pos h2, noN]; intro n h0 hn e; rw [hat n hn e] at h2; simp only at h2; omega
  ·rw [if_neg h2]; by_cases h3 : (m : Int) < (CR s).1
   ·rw [if_pos h3, noN]; intro n h0 hn e; rw [hat n hn e] at h3; simp only at h3; omega
   ·rw [if_neg h3]; unfold F95; rw [Af (by omega)]; simp only [Option.bind_some]; obtain ⟨v, hv⟩ : ∃ v : Nat, (CR s).1 = v := ⟨(CR s).1.toNat, by omega⟩; rw [hv, L6]; by_cases h4 : Lib.decDigits v = s
    ·rw [if_neg (by simp [h4]), (Cf (s := s) (m := m) (n := v)).2 ⟨by omega, by omega, h4⟩]
    ·rw [if_pos h4, noN]; intro n h0 hn e; rw [hat n hn e] at hv; simp only at hv; exact h4 (by rw [show v = n by omega]; exact e)
theorem GQ (st : By) (hs : st.Ay.fs.length < 4294967281) : ∃ x st', VP st = some (x, st') ∧ st'.Ay.fs.length ≤ st.Ay.fs.length ∧ (st.Bf = true → st'.Bf = true) ∧
    (st.Bf = false → match Mx 200 st.Ay.fs with | some p => x = p.1 ∧ st' = ⟨⟨p.2⟩, false⟩ | none => st'.Bf = true) := by
 unfold VP Mx; have e := Q6 st 32 hs; rw [show (((32 : UInt8).toNat : Nat) : Int) = 32 from rfl] at e; rw [e]; simp only [Option.bind_some]; cases hc : B7 st.Ay.fs 32 with
 | none =>
  simp only [Option.bind_none]; rw [show (200 : Int) = ((200 : Nat) : Int) from rfl, MB _ _ 200 (by omega) (by omega)]; simp only [Option.bind_some]; cases GN st.Ay.fs 200 with
  | none =>
   simp only; rw [if_pos (by simp)]; exact ⟨_, _, rfl, by simp, fun _ => rfl, fun _ => rfl⟩
  | some n =>
   simp only; rw [if_pos (by simp)]; exact ⟨_, _, rfl, by simp, fun _ => rfl, fun _ => rfl⟩
 | some p =>
  obtain ⟨a, b⟩ := p; have hl := EI hc; simp only [Option.bind_some]; rw [show (200 : Int) = ((200 : Nat) : Int) from rfl, MB _ _ 200 (by omega) (by omega)]; simp only [Option.bind_some]; cases hn : GN a 200 with
  | none =>
   simp only [Option.bind_none]; exact ⟨[], ⟨⟨b⟩, true⟩, by simp, by simp only; omega, fun _ => rfl, fun _ => rfl⟩
  | some n =>
   have hn2 := (Cf.1 hn).2.1; simp only [Option.bind_some]; cases hbad : st.Bf with
   | true =>
    rw [if_pos (by rfl)]; exact ⟨_, _, rfl, by simp only; omega, fun _ => rfl, fun e => by cases e⟩
   | false =>
    rw [if_neg (by simp)]; by_cases hb : (b.length : Int) ≤ n
    ·rw [if_pos hb, if_neg (by omega)]; exact ⟨_, _, rfl, by simp only; omega, fun _ => rfl, fun _ => rfl⟩
    ·rw [if_neg hb, Af (by omega), Int.toNat_natCast]; by_cases h10 : b.getD n 0 = 10
     ·rw [if_neg (by rw [h10]; simp), Af (by omega), Af (by omega), B6 (by omega), Af (by omega), Af (by omega), Int.toNat_natCast, if_pos ⟨by omega, h10⟩]; exact ⟨_, _, rfl, by simp; omega, fun e => (by cases e), fun _ => ⟨rfl, rfl⟩⟩
     ·rw [if_pos (fun e => h10 (Pf.1 e)), if_neg (fun e => h10 e.2)]; exact ⟨_, _, rfl, by simp only; omega, fun _ => rfl, fun _ => rfl⟩
theorem Kb (nm : Str) : ∀ (l : List Str) (i : Nat), Cs (fun (k : Nat) (x : Str) => if nm = x then some (Sum.inr (k : Int) : Unit ⊕ Int) else none) (.inl ()) i l = match l.findIdx? (fun x => decide (x = nm)) with | some j => .inr ((i + j : Nat) : Int) | none => .inl ()
  | [], i => rfl
  | x :: l, i => by
    rw [C9, List.findIdx?_cons]
    by_cases e : nm = x
    · simp [e]
    · have e' : ¬ x = nm := fun h => e h.symm
      rw [if_neg e, Kb nm l (i + 1)]
      simp only [e', decide_false, Bool.false_eq_true, if_false]
      cases l.findIdx? (fun x => decide (x = nm)) with
      | none => rfl
      | some j => simp; omega
theorem VZ (nm : Str) : VQ Bq nm = some (match HM nm with | some i => (i : Int) | none => -1) := by
 unfold VQ
 have h := CC (step := fun v => F9 Bq nm v) Bq (fun i x => if nm = x then some (.inr (i : Int)) else none) (.inl ()) (by simp [Bq]) (fun i hi => by
   simp only [F9]
   rw [if_pos (by omega), Af (by omega), Int.toNat_natCast, Pe hi]
   by_cases e : nm = Bq[i]
   · rw [if_pos e, if_pos e]
   · rw [if_neg e, if_neg e]) (by simp only [F9]; rw [if_neg (by omega)])
 rw [h, Kb]; unfold HM; cases Bq.findIdx? (fun x => decide (x = nm)) with
 | none => rfl
 | some j => simp
end Go.Idl
namespace Go.Idl
open Go Go.RowKit Go.Lib
variable {P : Program} {N : Nat} {tm : Tm} {H : A2}
theorem Kc {o : Oper} {K : IV → A2 → Prop} {Qp : List PanicEntry → A2 → Prop} {ts : Array TypeId} {x y : Operand} {k : IntKind} {a b : Int} (ho : o.op = .call { callee := .builtin .max, args := #[x, y], argTypes := ts }) (hok : okO N o = true)
    (hx : ev tm x = .v (.int k a)) (hy : ev tm y = .v (.int k b)) (hK : K (.v (.int k (max a b))) H) : Az P N o tm H K Qp := by
 obtain ⟨dst, op, type, pos, after, guard⟩ := o; simp only at ho; subst ho; refine AZ (by simp) fun w g ac sm r hN => ?_; subst hN; have rx := r.ev (x := x) (by simp [okO, Op.operands] at hok; simpa [Call.operands] using hok.1 0 (by simp [Call.operands])); have ry := r.ev (x := y) (by simp [okO, Op.operands] at hok; simpa [Call.operands] using hok.1 1 (by simp [Call.operands])); rw [hx] at rx; rw [hy] at ry; have ex := rx.v_eq; have ey := ry.v_eq; refine ⟨.int k (max a b), w, g, H, _, .inl ?_, .refl _ _, sm, .v _, hK⟩; have em := run_max_ints (P := P) w ts type k k a b; rw [← ex, ← ey] at em; simp [execOp, resolve, invoke, BigFrame.builtin_max, em]
end Go.Idl
namespace Go.Idl
open Go Go.Proofs.Tryz Go.RowKit
variable {H : A2} {K : Aw → A2 → Prop}
set_option pp.deepTerms false in
set_option maxRecDepth 8000 in
theorem TX (nm : List UInt8) (hK : K (.ret (.tu [.v (.int .i64 (match HM nm with | some i => (i : Int) | none => 0)), .v (.bool (HM nm).isSome)])) H) : Ae prog 102 [.v (str nm)] H K := by
 refine AL (N := 14) func102 (by kernel_rfl) rfl (by kernel_rfl) (by kernel_rfl) fun hw hbd hnb => ?_; simp (maxSteps := 1000000) (disch := omega) [go_sem]; refine PR ?_; have hn8 : CW.length = 8 := rfl; have hdr : ∀ l : List IV, l.length = 8 → List.drop 8 l = [] := fun l h => List.drop_of_length_le (by omega); simp (maxSteps := 1000000) (disch := omega) [go_sem, hn8, hdr]; have e : (.sl 1 (Bq.map fun x => [.v (str x)]) : IV) = .sl 1 (chunks 1 8 ((Bq.map fun x => IV.v (str x)).drop 0)) := by
  rw [List.drop_zero, Dq (by simp [Bq])]; simp
 refine Gu (args' := [.sl 1 (Bq.map fun x => [.v (str x)]), .v (str nm)]) (.cons ?_ (.cons (.same (.v _)) .nil)) (fun H K hK => VR Bq nm (VZ nm) hK) ?_
 ·rw [e]; exact Fz.bs _ 0 8 1 (Bq.map fun x => IV.v (str x)) (Bq.map fun x => IV.v (str x)) rfl (by simp [go_sem]; rfl) rfl (by simp [Bq]) (by simp [Ch]) (fzs (by simp [QO]))
 have hj : ∀ i, HM nm = some i → i < 8 := fun i h => Mz h; cases hf : HM nm with
 | none =>
  rw [hf] at hK; simp (maxSteps := 1000000) (disch := omega) [go_sem]; refine Kc (k := .i64) (a := 0) (b := -1) rfl (by kernel_rfl) (by simp [go_sem]) (by simp [go_sem]) ?_; simp (maxSteps := 1000000) (disch := omega) [go_sem]; exact AJ (((Ext.refl hw).new _).set (Nat.le_refl _) _) (EA (NBL.cons (.v _) (NBL.cons (.v _) NBL.nil))) hK
 | some i =>
  rw [hf] at hK; have := hj i hf; simp (maxSteps := 1000000) (disch := omega) [go_sem]; refine Kc (k := .i64) (a := 0) (b := i) rfl (by kernel_rfl) (by simp [go_sem]) (by simp [go_sem]) ?_; rw [show max (0 : Int) (i : Int) = i by omega]; simp (maxSteps := 1000000) (disch := omega) [go_sem]; exact AJ (((Ext.refl hw).new _).set (Nat.le_refl _) _) (EA (NBL.cons (.v _) (NBL.cons (.v _) NBL.nil))) hK
end Go.Idl
namespace Go.Idl
open Go Go.Proofs.Tryz Go.RowKit
variable {H : A2} {K : Aw → A2 → Prop}
noncomputable def GR (s : Str) : Option (List (List Str)) := DQ s.length 0 s BL
noncomputable def G6 (s : Str) : List (List Str) × Int := match GR s with | some c => if AM c = true then (c, 0) else (BL, 260) | none => (BL, 260)
theorem TY (st : By) (c : UInt8) (hs : st.Ay.fs.length ≤ 4000000000) : ∃ x st', R7 st (c.toNat : Int) = some (x, st') ∧ st'.Ay.fs.length ≤ st.Ay.fs.length ∧ x.length ≤ st.Ay.fs.length ∧ (st.Bf = true → st'.Bf = true) ∧ (st.Bf = false → match B7 st.Ay.fs c with | some p => x = p.1 ∧ st' = ⟨⟨p.2⟩, false⟩ | none => st'.Bf = true) := by
 rw [Q6 st c (by omega)]; cases hc : B7 st.Ay.fs c with
 | none => exact ⟨_, _, rfl, by simp, by simp, fun _ => rfl, fun _ => rfl⟩
 | some p =>
  have := EI (a := p.1) (b := p.2) hc; exact ⟨_, _, rfl, by simp only; omega, by omega, fun h => h, fun h => ⟨rfl, by rw [h]⟩⟩
theorem V_ (st : By) (s : Str) (hs : s.length ≤ 4000000000) : ∃ (n : Nat) (st' : By), R8 st s 8 = some ((n : Int), st') ∧ n ≤ 8 ∧ st'.Ay.fs.length ≤ st.Ay.fs.length ∧ (st.Bf = true → st'.Bf = true) ∧ (st.Bf = false → match GN s 8 with | some m => n = m ∧ st' = st | none => st'.Bf = true) := by
 have e := MB st s 8 (by omega) (by omega); rw [show ((8 : Nat) : Int) = 8 from rfl] at e; rw [e]; cases hc : GN s 8 with
 | none => exact ⟨0, _, rfl, by omega, Nat.le_refl _, fun _ => rfl, fun _ => rfl⟩
 | some m => exact ⟨m, _, rfl, (Cf.1 hc).2.1, Nat.le_refl _, fun h => h, fun _ => ⟨rfl, rfl⟩⟩
def rdM : Option HO → Nat
  | some (.cells [.v (.string b), .v (.bool bad)]) => b.size + (if bad = true then 0 else 1)
  | _ => 0
theorem CY (s : Str) (b : Bool) : rdM (some (.cells [.v (str s), .v (.bool b)])) = s.length + (if b = true then 0 else 1) := by
 have : (⟨s.toArray⟩ : ByteArray).size = s.length := by show s.toArray.size = _; simp
 simp [rdM, str, this]
abbrev EN : List IV := List.replicate 8 (.v (.slice none 0 0))
structure eH (s : Str) (H H' : A2) (st : By) (C : List IV) (c : List (List Str)) (k f : Nat) : Prop where
  o0 : H'.obj H.next = some (.cells EN)
  o1 : H'.obj (H.next + 1) = some (.cells [.v (str st.Ay.fs), .v (.bool st.Bf)])
  o2 : H'.obj (H.next + 2) = some (.cells C)
  ext : Ext H H'
  nx : H.next + 3 ≤ H'.next
  rows : Ct H' (H.next + 3) C c
  c8 : c.length = 8
  len : st.Ay.fs.length ≤ s.length
  k8 : k ≤ 8
  good : st.Bf = false → st.Ay.fs.length ≤ f ∧ E7 c ∧ (∀ j, k ≤ j → c.getD j [] = []) ∧ DQ f k st.Ay.fs c = GR s
  bad : st.Bf = true → GR s = none
theorem TZ {m : Nat} {s : Str} {p : Str × Str} (h : Mx m s = some p) : p.1.length ≤ m := by
 obtain ⟨⟨a, b⟩, h1, h⟩ := Option.bind_eq_some_iff.1 h; obtain ⟨n, h2, h⟩ := Option.bind_eq_some_iff.1 h; have := (Cf.1 h2).2.1; split at h
 ·cases h; simp; omega
 ·cases h
structure Ea (H H2 : A2) (b : Bool) (st3 : By) (c : List (List Str)) (fi n i : Nat) (st' : By) (C' : List IV) (c' : List (List Str)) : Prop where
  o0 : H2.obj H.next = some (.cells EN)
  o1 : H2.obj (H.next + 1) = some (.cells [.v (str st'.Ay.fs), .v (.bool st'.Bf)])
  o2 : H2.obj (H.next + 2) = some (.cells C')
  ext : Ext H H2
  nx : H.next + 3 ≤ H2.next
  rows : Ct H2 (H.next + 3) C' c'
  c8 : c'.length = 8
  len : st'.Ay.fs.length ≤ st3.Ay.fs.length
  fl : ∀ l, c'[fi]? = some l → l.length ≤ 1000000 + i
  dead : b = true → st'.Bf = true
  good : b = false → (st'.Bf = true ∧ Eg 200 n st3.Ay.fs = none) ∨ (st'.Bf = false ∧ ∃ acc, c' = c.set fi acc ∧ acc.length = i ∧ (∀ v, v ∈ acc → v.length ≤ 200) ∧ Eg 200 n st3.Ay.fs = (Eg 200 (n - i) st'.Ay.fs).map fun q => (acc ++ q.1, q.2))
theorem Ea.next {H H2 J : A2} {b : Bool} {st3 : By} {c : List (List Str)} {fi n i : Nat} {st' st'' : By} {C' C'' : List IV} {c' : List (List Str)} (hJ : Ea H H2 b st3 c fi n i st' C' c') (hin : i < n) (hfi : fi < c'.length) {x : Str}
    (l4 : st''.Ay.fs.length ≤ st'.Ay.fs.length) (b4 : st'.Bf = true → st''.Bf = true) (c4 : st'.Bf = false → match Mx 200 st'.Ay.fs with | some p => x = p.1 ∧ st'' = ⟨⟨p.2⟩, false⟩ | none => st''.Bf = true)
    (o0 : J.obj H.next = some (.cells EN)) (o1 : J.obj (H.next + 1) = some (.cells [.v (str st''.Ay.fs), .v (.bool st''.Bf)])) (o2 : J.obj (H.next + 2) = some (.cells C'')) (ext : Ext H J) (nx : H.next + 3 ≤ J.next) (rows : Ct J (H.next + 3) C'' (c'.set fi (c'[fi] ++ [x]))) :
    Ea H J b st3 c fi n (i + 1) st'' C'' (c'.set fi (c'[fi] ++ [x])) := by
 refine ⟨o0, o1, o2, ext, nx, rows, by simp [hJ.c8], Nat.le_trans l4 hJ.len, fun l hl => ?_, fun h => b4 (hJ.dead h), fun h => ?_⟩
 ·rw [List.getElem?_set_self hfi] at hl; cases hl; have := hJ.fl _ (List.getElem?_eq_getElem hfi); simp; omega
 ·rcases hJ.good h with ⟨hd, hT⟩ | ⟨hd, acc, rfl, ha, hav, hT⟩
  ·exact .inl ⟨b4 hd, hT⟩
  ·have c4 := c4 hd; have e1 : n - i = (n - (i + 1)) + 1 := by omega
   rw [e1, Eg] at hT; cases hv : Mx 200 st'.Ay.fs with
   | none =>
    rw [hv] at c4 hT; exact .inl ⟨c4, by rw [hT]; rfl⟩
   | some p =>
    rw [hv] at c4 hT; obtain ⟨rfl, rfl⟩ := c4; refine .inr ⟨rfl, acc ++ [p.1], ?_, by simp [ha], fun v hv' => ?_, ?_⟩
    ·rw [List.set_set]; simp
    ·rcases List.mem_append.1 hv' with hv' | hv'
     ·exact hav v hv'
     ·rw [List.mem_singleton.1 hv']; exact TZ hv
    ·rw [hT]; simp only [Option.bind_some]; cases Eg 200 (n - (i + 1)) p.2 with
     | none => rfl
     | some q => simp
theorem Zc {st st1 st2 st3 : By} {nm mt : Str} {n : Nat} (hb : st.Bf = false) (b2 : st1.Bf = true → st2.Bf = true) (b3 : st2.Bf = true → st3.Bf = true)
    (c1 : st.Bf = false → match B7 st.Ay.fs 32 with | some p => nm = p.1 ∧ st1 = ⟨⟨p.2⟩, false⟩ | none => st1.Bf = true)
    (c2 : st1.Bf = false → match B7 st1.Ay.fs 10 with | some p => mt = p.1 ∧ st2 = ⟨⟨p.2⟩, false⟩ | none => st2.Bf = true)
    (c3 : st2.Bf = false → match GN mt 8 with | some m => n = m ∧ st3 = st2 | none => st3.Bf = true) :
    (st3.Bf = true ∧ KG st.Ay.fs = none) ∨ (st3.Bf = false ∧ st3.Ay.fs.length < st.Ay.fs.length ∧ KG st.Ay.fs = (HM nm).bind fun i => (Eg 200 n st3.Ay.fs).map fun r => (i, r.1, r.2)) := by
 have c1 := c1 hb; unfold KG; cases h1 : B7 st.Ay.fs 32 with
 | none => rw [h1] at c1; exact .inl ⟨b3 (b2 c1), rfl⟩
 | some p =>
  rw [h1] at c1; obtain ⟨rfl, rfl⟩ := c1; have hl := EI (a := p.1) (b := p.2) h1; have c2 := c2 rfl; simp only at c2; simp only [Option.bind_some]; cases h2 : B7 p.2 10 with
  | none => rw [h2] at c2; exact .inl ⟨b3 c2, rfl⟩
  | some q =>
   rw [h2] at c2; obtain ⟨rfl, rfl⟩ := c2; have hl2 := EI (a := q.1) (b := q.2) h2; have c3 := c3 rfl; simp only [Option.bind_some]; cases h3 : GN q.1 8 with
   | none =>
    rw [h3] at c3; refine .inl ⟨c3, ?_⟩; cases HM p.1 <;> rfl
   | some m =>
    rw [h3] at c3; obtain ⟨rfl, rfl⟩ := c3; exact .inr ⟨rfl, by simp only; omega, rfl⟩
theorem Fe (f k : Nat) (s : Str) (c : List (List Str)) (h : s ≠ []) (hf : KG s = none) : DQ f k s c = none := by
 cases f with
 | zero => unfold DQ; rw [if_neg h]
 | succ f => unfold DQ; rw [if_neg h, hf]; rfl
theorem T_ (f k : Nat) (s : Str) (c : List (List Str)) (h : s ≠ []) {i : Nat} {o : Option (List Str × Str)} (hf : KG s = o.map fun r => (i, r.1, r.2)) (hi : i < k) : DQ f k s c = none := by
 cases f with
 | zero => unfold DQ; rw [if_neg h]
 | succ f =>
  unfold DQ; rw [if_neg h, hf]; cases o with
  | none => rfl
  | some r => simp [hi]
theorem Rl (f k : Nat) (s : Str) (c : List (List Str)) (h : s ≠ []) {i : Nat} {l : List Str} {r : Str} (hf : KG s = some (i, l, r)) (hi : k ≤ i) : DQ (f + 1) k s c = DQ f (i + 1) r (c.set i l) := by
 rw [DQ, if_neg h, hf]; simp only [Option.bind_some]; rw [if_neg (by omega)]
set_option pp.deepTerms false in
set_option maxRecDepth 8000 in
set_option maxHeartbeats 4000000 in
theorem Zd (s : Str) (hs : s.length ≤ 1000000000) (hV : VOK prog H) (hK : K (.ret (.tu [cS (G6 s).1, .v (.int .i64 (G6 s).2)])) H) : Ae prog 66 [.v (str s)] H K := by
 refine AL (N := 78) func66 (by kernel_rfl) rfl (by kernel_rfl) (by kernel_rfl) fun hw hbd hnb => ?_; simp (maxSteps := 1000000) (disch := omega) [go_sem, bdP]; refine Bh (fun tm' H' => ∃ (st : By) (C : List IV) (c : List (List Str)) (k f : Nat), tm' 2 = .p H.next 0 ∧ tm' 4 = .p (H.next + 1) 0 ∧ tm' 5 = .p (H.next + 2) 0 ∧ tm' 6 = .v (.int .i64 ((k : Int) - 1)) ∧ eH s H H' st C c k f) (fun _ H' => rdM (H'.obj (H.next + 1))) (.same ?_) ?_
 ·refine ⟨⟨⟨s⟩, false⟩, EN, BL, 0, s.length, by simp [go_sem], by simp [go_sem], by simp [go_sem], by simp [go_sem], ?_⟩; refine ⟨by simp [go_sem, EN], by simp [go_sem], by simp [go_sem, EN], (((Ext.refl hw).new _).new _).new _, by simp [go_sem], .SG 8, by simp [BL], by simp, by omega, fun _ => ⟨Nat.le_refl _, ⟨by simp [BL], by simp [BL]⟩, fun j _ => ?_, rfl⟩, fun h => by cases h⟩; rw [BL, List.getD_eq_getElem?_getD, List.getElem?_replicate]; split <;> rfl
 rintro I' μ' hI hμ tm' H' ⟨st, C, c, k, f, t2, t4, t5, t6, hR⟩
 have o1 := hR.o1; have o2 := hR.o2; have o0 := hR.o0; have badEnd : st.Bf = true → (G6 s) = (BL, 260) := fun h => by unfold G6; rw [hR.bad h]
 refine AA _ (by kernel_rfl) _ _ _ ?_; simp (maxSteps := 1000000) (disch := omega) [go_sem, t2, t4, t5, t6, o1]; by_cases h0 : st.Ay.fs = []
 ·simp (maxSteps := 1000000) (disch := omega) [go_sem, t2, t4, t5, t6, o1, h0]; cases hb : st.Bf with
  | true =>
   rw [hb] at o1; rw [badEnd hb] at hK; simp (maxSteps := 1000000) (disch := omega) [go_sem, t2, t4, t5, t6, o1, bdP, o0]; exact Bw (J := H) (hR.ext.set (Nat.le_refl _) _).Cx (.tu2 (by rw [Jy]; exact Fz.SG 8) (.same (.v _))) hK
  | false =>
   rw [hb] at o1; obtain ⟨g1, g2, g3, g4⟩ := hR.good hb; have hcT : GR s = some c := by rw [← g4, h0]; cases f <;> simp [DQ]
   have hC8 : C.length = 8 := by rw [hR.rows.len, hR.c8]
   have htk : List.take 8 C = C := List.take_of_length_le (by omega); simp (maxSteps := 1000000) (disch := omega) [go_sem, t2, t4, t5, t6, o1, o2, hC8, htk]; refine Gu (H := H') (args' := [cS c]) (.cons (hR.rows.fz fun _ _ => rfl) .nil) (fun H K hK => HC c (Af g2) hK) ?_; by_cases hk : AM c = true
   ·have e : G6 s = (c, 0) := by unfold G6; rw [hcT]; simp [hk]
    rw [e] at hK; rw [if_pos hk]; simp (maxSteps := 1000000) (disch := omega) [go_sem, t2, t4, t5, t6, o1, o2, hC8, htk, o0]; exact Bw (J := H) (hR.ext.set (Nat.le_refl _) _).Cx (.tu2 ((hR.rows.mono (J' := H'.set H.next (.cells C)) (Nat.le_refl _) fun q o hq _ e => by simp only [go_sem, if_neg (show ¬ q = H.next by omega)]; exact e).fz fun q hq => hw q (by omega)) (.same (.v _))) hK
   ·have e : G6 s = (BL, 260) := by unfold G6; rw [hcT]; simp [hk]
    rw [e] at hK; rw [if_neg hk]; simp (maxSteps := 1000000) (disch := omega) [go_sem, t2, t4, t5, t6, o1, bdP, o0, o2, hC8, htk]; exact Bw (J := H) (hR.ext.set (Nat.le_refl _) _).Cx (.tu2 (by rw [Jy]; exact Fz.SG 8) (.same (.v _))) hK
 ·simp (maxSteps := 1000000) (disch := omega) [go_sem, t2, t4, t5, t6, o1, h0]; cases hb : st.Bf with
  | true =>
   rw [hb] at o1; rw [badEnd hb] at hK; simp (maxSteps := 1000000) (disch := omega) [go_sem, t2, t4, t5, t6, o1, bdP, o0]; exact Bw (J := H) (hR.ext.set (Nat.le_refl _) _).Cx (.tu2 (by rw [Jy]; exact Fz.SG 8) (.same (.v _))) hK
  | false =>
   obtain ⟨g1, g2, g3, g4⟩ := hR.good hb; obtain ⟨nm, st1, e1, l1, m1, b1, c1⟩ := TY st 32 (by have := hR.len; omega); rw [show (((32 : UInt8).toNat : Nat) : Int) = 32 from rfl] at e1; have o1' := o1; rw [hb] at o1'; simp (maxSteps := 1000000) (disch := omega) [go_sem, t2, t4, t5, t6, o1']; refine Mt st 32 _ o1 (hV.of hR.ext.sn) e1 ?_; simp (maxSteps := 1000000) (disch := omega) [go_sem, t2, t4, t5, t6, BE]; refine TX nm ?_; simp (maxSteps := 1000000) (disch := omega) [go_sem, t2, t4, t5, t6]; obtain ⟨mt, st2, e2, l2, m2, b2, c2⟩ := TY st1 10 (by have := hR.len; omega); rw [show (((10 : UInt8).toNat : Nat) : Int) = 10 from rfl] at e2; refine Mt st1 10 _ (by simp [go_sem, BE]) (hV.of hR.ext.sn) e2 ?_; simp (maxSteps := 1000000) (disch := omega) [go_sem, t2, t4, t5, t6, BE]; obtain ⟨n, st3, e3, hn, l3, b3, c3⟩ := V_ st2 mt (by have := hR.len; omega); refine Q3 st2 mt 8 _ (by simp [go_sem, BE]) (hV.of hR.ext.sn) e3 ?_; simp (maxSteps := 1000000) (disch := omega) [go_sem, t2, t4, t5, t6, BE]; have hF := Zc hb b2 b3 c1 c2 c3; have l30 : st3.Ay.fs.length ≤ st.Ay.fs.length := by omega
   have mk0 : ∀ (b : Bool) (fi : Nat), fi < 8 → (b = false → k ≤ fi) → Ea H (H'.set (H.next + 1) (.cells [.v (str st3.Ay.fs), .v (.bool b)])) b st3 c fi n 0 ⟨st3.Ay, b⟩ C c := fun b fi hfi h => by
    have hlt : fi < c.length := by rw [hR.c8]; exact hfi
    refine ⟨by simp [go_sem, o0, EN], by simp [go_sem], by simp [go_sem, o2], hR.ext.set (by omega) _, by simpa [go_sem] using hR.nx, hR.rows.mono (Nat.le_refl _) fun q o hq _ e => ?_, hR.c8, Nat.le_refl _, fun l hl => ?_, fun h => h, fun hb' => .inr ⟨hb', [], ?_, rfl, fun v hv => by simp at hv, ?_⟩⟩
    ·simp only [go_sem, if_neg (show ¬ q = H.next + 1 by omega)]; exact e
    ·have := (g2.2 l (List.mem_of_getElem? hl)).1; omega
    ·have h3 := g3 fi (h hb'); rw [List.getD_eq_getElem?_getD, List.getElem?_eq_getElem hlt] at h3; have h3 : c[fi] = [] := h3; rw [← h3, List.set_getElem_self]
    ·simp
   cases hb3 : st3.Bf with
   | true =>
    cases hfx : HM nm with
    | none =>
     simp (maxSteps := 1000000) (disch := omega) [go_sem, t2, t4, t5, t6, hb3, hfx]; refine Bh (fun tm2 H2 => ∃ (i : Nat) (st' : By) (C' : List IV) (c' : List (List Str)), tm2 2 = .p H.next 0 ∧ tm2 4 = .p (H.next + 1) 0 ∧ tm2 5 = .p (H.next + 2) 0 ∧ tm2 7 = .v (.int .i64 (0 : Nat)) ∧ tm2 53 = .v (.int .i64 n) ∧ tm2 54 = .v (.int .i64 i) ∧ i ≤ n ∧ Ea H H2 true st3 c 0 n i st' C' c') (fun tm2 _ => n - (intOf (tm2 54)).toNat) (.same ?_) ?_
     ·exact ⟨0, ⟨st3.Ay, true⟩, C, c, by simp [go_sem, t2], by simp [go_sem, t4], by simp [go_sem, t5], by simp [go_sem], by simp [go_sem], by simp [go_sem], by omega, mk0 true (0) (by omega) (fun h => (by cases h))⟩
     rintro I2 μ2 hI2 hμ2 tm2 H2 ⟨i, st', C', c', u2, u4, u5, u7, u53, u54, hi, hJ⟩
     have p1 := hJ.o1; have p2 := hJ.o2; have p0 := hJ.o0; refine AA _ (by kernel_rfl) _ _ _ ?_; simp (maxSteps := 1000000) (disch := omega) [go_sem, u2, u4, u5, u7, u53, u54]; refine BH ?_ ?_ <;> intro hc2 <;> (try simp at hc2)
     ·obtain ⟨x, st'', e4, l4, b4, c4⟩ := GQ st' (by have := hJ.len; have := hR.len; omega); have hCl : C'.length = 8 := by rw [hJ.rows.len, hJ.c8]
      have hfi : (0) < c'.length := by rw [hJ.c8]; omega
      have hfC : (0) < C'.length := by omega
      rcases hJ.rows.at hfi with ⟨hC, hc0⟩ | ⟨nr, q1, q2, hC, q4⟩
      ·have hCe : C'[0]'hfC = .v (.slice none 0 0) := by rw [List.getElem?_eq_getElem hfC] at hC; exact Option.some.inj hC
       simp (maxSteps := 1000000) (disch := omega) [go_sem, u2, u4, u5, u7, u53, u54, p2, hCl]; refine Bt [0, 1, 2, 3, 4, 5, 6, 7, 8, 9] (by kernel_rfl) (by kernel_rfl) (fun _ _ _ _ h => h) ?_; simp (maxSteps := 1000000) (disch := omega) [go_sem, u2, u4, u5, u7, u53, u54, p2, hCl, hCe]; refine CI st' _ p1 (hV.of hJ.ext.sn) e4 ?_; have nx2 := hJ.nx; have n0 : ¬ H.next = H2.next := by omega
       have n1 : ¬ H.next + 1 = H2.next := by omega
       have n2 : ¬ H.next + 2 = H2.next := by omega
       simp (maxSteps := 1000000) (disch := omega) [go_sem, u2, u4, u5, u7, u53, u54, p2, hCl, hCe, BE, n0, n1, n2]; have n3 : ¬ H2.next = H.next + 2 := by omega
       have n4 : ¬ H2.next = H.next + 1 := by omega
       have ex : c'.set (0) (c'[0] ++ [x]) = c'.set (0) [x] := by rw [hc0]; rfl
       have eC : ∀ y : IV, List.take (0) C' ++ y :: List.drop (0 + 1) C' = C'.set (0) y := fun y => by rw [List.set_eq_take_append_cons_drop, if_pos hfC]
       have eT : ∀ y : IV, y :: C'.tail = C'.set 0 y := fun y => by cases C' with | nil => simp at hCl | cons a b => rfl
       refine .of hI2 hμ2 ⟨i + 1, st'', C'.set (0) (.os H2.next 1), c'.set (0) (c'[0] ++ [x]), by simp [go_sem, u2], by simp [go_sem, u4], by simp [go_sem, u5], by simp [go_sem, u7], by simp [go_sem, u53], by simp [go_sem], by omega, ?_⟩ (by simp [go_sem, u54]; omega); refine hJ.next hc2 hfi l4 b4 c4 (by simp [go_sem, p0, n0, EN]) (by simp [go_sem, n1]) (by first | (simp [go_sem, eC]; done) | (simp [go_sem, eT]; done)) (((hJ.ext.set (by omega) _).new _).set (by omega) _) (by simp [go_sem]; omega) ?_; rw [ex]; refine hJ.rows.K5 hfi hc0 (by omega) (Nat.le_refl _) (by simp [go_sem]) (by simp [go_sem]) (fun q o hq hq' e => ?_) (by simp [go_sem, n3, n4]); have m1 : ¬ q = H.next + 2 := by omega
       have m2 : ¬ q = H.next + 1 := by omega
       have m3 : ¬ q = H2.next := by omega
       simp [go_sem, m1, m2, m3, e]
      ·have hCe : C'[0]'hfC = .os nr c'[0].length := by rw [List.getElem?_eq_getElem hfC] at hC; exact Option.some.inj hC
       have hfl := hJ.fl _ (List.getElem?_eq_getElem hfi); simp (maxSteps := 1000000) (disch := omega) [go_sem, u2, u4, u5, u7, u53, u54, p2, hCl]; refine Bt [0, 1, 2, 3, 4, 5, 6, 7, 8, 9] (by kernel_rfl) (by kernel_rfl) (fun _ _ _ _ h => h) ?_; simp (maxSteps := 1000000) (disch := omega) [go_sem, u2, u4, u5, u7, u53, u54, p2, hCl, hCe]; refine CI st' _ p1 (hV.of hJ.ext.sn) e4 ?_; have n0 : ¬ H.next = nr := by omega
       have n1 : ¬ H.next + 1 = nr := by omega
       have n2 : ¬ H.next + 2 = nr := by omega
       have n3 : ¬ nr = H.next + 1 := by omega
       have n4 : ¬ nr = H.next + 2 := by omega
       simp (maxSteps := 1000000) (disch := omega) [go_sem, u2, u4, u5, u7, u53, u54, p2, hCl, hCe, BE, q4, n0, n1, n2, n3, n4]; have eC : ∀ y : IV, List.take (0) C' ++ y :: List.drop (0 + 1) C' = C'.set (0) y := fun y => by rw [List.set_eq_take_append_cons_drop, if_pos hfC]
       have eT : ∀ y : IV, y :: C'.tail = C'.set 0 y := fun y => by cases C' with | nil => simp at hCl | cons a b => rfl
       have el : (c'[0] ++ [x]).length = c'[0].length + 1 := by simp
       refine .of hI2 hμ2 ⟨i + 1, st'', C'.set (0) (.os nr (c'[0].length + 1)), c'.set (0) (c'[0] ++ [x]), by simp [go_sem, u2], by simp [go_sem, u4], by simp [go_sem, u5], by simp [go_sem, u7], by simp [go_sem, u53], by simp [go_sem], by omega, ?_⟩ (by simp [go_sem, u54]; omega); have nx2 := hJ.nx; refine hJ.next hc2 hfi l4 b4 c4 (by simp [go_sem, p0, n0, EN]) (by simp [go_sem, n1]) (by first | (simp [go_sem, eC]; done) | (simp [go_sem, eT]; done)) (((hJ.ext.set (by omega) _).set (by omega) _).set (by omega) _) (by simp [go_sem]; omega) ?_; rw [← el]; refine hJ.rows.K6 hfi hC (by simp [go_sem]) (fun q o hq hq' hne e => ?_) (by simp [go_sem, n3, n4]); have m1 : ¬ q = H.next + 2 := by omega
       have m2 : ¬ q = H.next + 1 := by omega
       simp [go_sem, m1, m2, hne, e]
     ·simp (maxSteps := 1000000) (disch := omega) [go_sem, u2, u4, u5, u7, u53, u54]; have hd := hJ.dead rfl; have hT : GR s = none := by
       rcases hF with ⟨_, hF⟩ | ⟨h, _⟩
       ·rw [← g4]; exact Fe f k _ c h0 hF
       ·rw [hb3] at h; cases h
      refine .of hI hμ ⟨st', C', c', 0 + 1, f, by simp [go_sem, u2], by simp [go_sem, u4], by simp [go_sem, u5], by simp [go_sem, u7], ⟨p0, p1, p2, hJ.ext, hJ.nx, hJ.rows, hJ.c8, by have := hJ.len; have := hR.len; omega, by omega, fun h => (by rw [hd] at h; cases h), fun _ => hT⟩⟩ ?_; rw [p1, CY, CY, hd]; have := hJ.len; simp; omega
    | some fi =>
     have hfi8 := Mz hfx; simp (maxSteps := 1000000) (disch := omega) [go_sem, t2, t4, t5, t6, hb3, hfx]; refine Bh (fun tm2 H2 => ∃ (i : Nat) (st' : By) (C' : List IV) (c' : List (List Str)), tm2 2 = .p H.next 0 ∧ tm2 4 = .p (H.next + 1) 0 ∧ tm2 5 = .p (H.next + 2) 0 ∧ tm2 7 = .v (.int .i64 (fi : Nat)) ∧ tm2 53 = .v (.int .i64 n) ∧ tm2 54 = .v (.int .i64 i) ∧ i ≤ n ∧ Ea H H2 true st3 c fi n i st' C' c') (fun tm2 _ => n - (intOf (tm2 54)).toNat) (.same ?_) ?_
     ·exact ⟨0, ⟨st3.Ay, true⟩, C, c, by simp [go_sem, t2], by simp [go_sem, t4], by simp [go_sem, t5], by simp [go_sem], by simp [go_sem], by simp [go_sem], by omega, mk0 true (fi) (by omega) (fun h => (by cases h))⟩
     rintro I2 μ2 hI2 hμ2 tm2 H2 ⟨i, st', C', c', u2, u4, u5, u7, u53, u54, hi, hJ⟩
     have p1 := hJ.o1; have p2 := hJ.o2; have p0 := hJ.o0; refine AA _ (by kernel_rfl) _ _ _ ?_; simp (maxSteps := 1000000) (disch := omega) [go_sem, u2, u4, u5, u7, u53, u54]; refine BH ?_ ?_ <;> intro hc2 <;> (try simp at hc2)
     ·obtain ⟨x, st'', e4, l4, b4, c4⟩ := GQ st' (by have := hJ.len; have := hR.len; omega); have hCl : C'.length = 8 := by rw [hJ.rows.len, hJ.c8]
      have hfi : (fi) < c'.length := by rw [hJ.c8]; omega
      have hfC : (fi) < C'.length := by omega
      rcases hJ.rows.at hfi with ⟨hC, hc0⟩ | ⟨nr, q1, q2, hC, q4⟩
      ·have hCe : C'[fi]'hfC = .v (.slice none 0 0) := by rw [List.getElem?_eq_getElem hfC] at hC; exact Option.some.inj hC
       simp (maxSteps := 1000000) (disch := omega) [go_sem, u2, u4, u5, u7, u53, u54, p2, hCl]; refine Bt [0, 1, 2, 3, 4, 5, 6, 7, 8, 9] (by kernel_rfl) (by kernel_rfl) (fun _ _ _ _ h => h) ?_; simp (maxSteps := 1000000) (disch := omega) [go_sem, u2, u4, u5, u7, u53, u54, p2, hCl, hCe]; refine CI st' _ p1 (hV.of hJ.ext.sn) e4 ?_; have nx2 := hJ.nx; have n0 : ¬ H.next = H2.next := by omega
       have n1 : ¬ H.next + 1 = H2.next := by omega
       have n2 : ¬ H.next + 2 = H2.next := by omega
       simp (maxSteps := 1000000) (disch := omega) [go_sem, u2, u4, u5, u7, u53, u54, p2, hCl, hCe, BE, n0, n1, n2]; have n3 : ¬ H2.next = H.next + 2 := by omega
       have n4 : ¬ H2.next = H.next + 1 := by omega
       have ex : c'.set (fi) (c'[fi] ++ [x]) = c'.set (fi) [x] := by rw [hc0]; rfl
       have eC : ∀ y : IV, List.take (fi) C' ++ y :: List.drop (fi + 1) C' = C'.set (fi) y := fun y => by rw [List.set_eq_take_append_cons_drop, if_pos hfC]
       have eT : ∀ y : IV, y :: C'.tail = C'.set 0 y := fun y => by cases C' with | nil => simp at hCl | cons a b => rfl
       refine .of hI2 hμ2 ⟨i + 1, st'', C'.set (fi) (.os H2.next 1), c'.set (fi) (c'[fi] ++ [x]), by simp [go_sem, u2], by simp [go_sem, u4], by simp [go_sem, u5], by simp [go_sem, u7], by simp [go_sem, u53], by simp [go_sem], by omega, ?_⟩ (by simp [go_sem, u54]; omega); refine hJ.next hc2 hfi l4 b4 c4 (by simp [go_sem, p0, n0, EN]) (by simp [go_sem, n1]) (by first | (simp [go_sem, eC]; done) | (simp [go_sem, eT]; done)) (((hJ.ext.set (by omega) _).new _).set (by omega) _) (by simp [go_sem]; omega) ?_; rw [ex]; refine hJ.rows.K5 hfi hc0 (by omega) (Nat.le_refl _) (by simp [go_sem]) (by simp [go_sem]) (fun q o hq hq' e => ?_) (by simp [go_sem, n3, n4]); have m1 : ¬ q = H.next + 2 := by omega
       have m2 : ¬ q = H.next + 1 := by omega
       have m3 : ¬ q = H2.next := by omega
       simp [go_sem, m1, m2, m3, e]
      ·have hCe : C'[fi]'hfC = .os nr c'[fi].length := by rw [List.getElem?_eq_getElem hfC] at hC; exact Option.some.inj hC
       have hfl := hJ.fl _ (List.getElem?_eq_getElem hfi); simp (maxSteps := 1000000) (disch := omega) [go_sem, u2, u4, u5, u7, u53, u54, p2, hCl]; refine Bt [0, 1, 2, 3, 4, 5, 6, 7, 8, 9] (by kernel_rfl) (by kernel_rfl) (fun _ _ _ _ h => h) ?_; simp (maxSteps := 1000000) (disch := omega) [go_sem, u2, u4, u5, u7, u53, u54, p2, hCl, hCe]; refine CI st' _ p1 (hV.of hJ.ext.sn) e4 ?_; have n0 : ¬ H.next = nr := by omega
       have n1 : ¬ H.next + 1 = nr := by omega
       have n2 : ¬ H.next + 2 = nr := by omega
       have n3 : ¬ nr = H.next + 1 := by omega
       have n4 : ¬ nr = H.next + 2 := by omega
       simp (maxSteps := 1000000) (disch := omega) [go_sem, u2, u4, u5, u7, u53, u54, p2, hCl, hCe, BE, q4, n0, n1, n2, n3, n4]; have eC : ∀ y : IV, List.take (fi) C' ++ y :: List.drop (fi + 1) C' = C'.set (fi) y := fun y => by rw [List.set_eq_take_append_cons_drop, if_pos hfC]
       have eT : ∀ y : IV, y :: C'.tail = C'.set 0 y := fun y => by cases C' with | nil => simp at hCl | cons a b => rfl
       have el : (c'[fi] ++ [x]).length = c'[fi].length + 1 := by simp
       refine .of hI2 hμ2 ⟨i + 1, st'', C'.set (fi) (.os nr (c'[fi].length + 1)), c'.set (fi) (c'[fi] ++ [x]), by simp [go_sem, u2], by simp [go_sem, u4], by simp [go_sem, u5], by simp [go_sem, u7], by simp [go_sem, u53], by simp [go_sem], by omega, ?_⟩ (by simp [go_sem, u54]; omega); have nx2 := hJ.nx; refine hJ.next hc2 hfi l4 b4 c4 (by simp [go_sem, p0, n0, EN]) (by simp [go_sem, n1]) (by first | (simp [go_sem, eC]; done) | (simp [go_sem, eT]; done)) (((hJ.ext.set (by omega) _).set (by omega) _).set (by omega) _) (by simp [go_sem]; omega) ?_; rw [← el]; refine hJ.rows.K6 hfi hC (by simp [go_sem]) (fun q o hq hq' hne e => ?_) (by simp [go_sem, n3, n4]); have m1 : ¬ q = H.next + 2 := by omega
       have m2 : ¬ q = H.next + 1 := by omega
       simp [go_sem, m1, m2, hne, e]
     ·simp (maxSteps := 1000000) (disch := omega) [go_sem, u2, u4, u5, u7, u53, u54]; have hd := hJ.dead rfl; have hT : GR s = none := by
       rcases hF with ⟨_, hF⟩ | ⟨h, _⟩
       ·rw [← g4]; exact Fe f k _ c h0 hF
       ·rw [hb3] at h; cases h
      refine .of hI hμ ⟨st', C', c', fi + 1, f, by simp [go_sem, u2], by simp [go_sem, u4], by simp [go_sem, u5], by simp [go_sem, u7], ⟨p0, p1, p2, hJ.ext, hJ.nx, hJ.rows, hJ.c8, by have := hJ.len; have := hR.len; omega, by omega, fun h => (by rw [hd] at h; cases h), fun _ => hT⟩⟩ ?_; rw [p1, CY, CY, hd]; have := hJ.len; simp; omega
   | false =>
    cases hfx : HM nm with
    | none =>
     simp (maxSteps := 1000000) (disch := omega) [go_sem, t2, t4, t5, t6, hb3, hfx]; refine Bh (fun tm2 H2 => ∃ (i : Nat) (st' : By) (C' : List IV) (c' : List (List Str)), tm2 2 = .p H.next 0 ∧ tm2 4 = .p (H.next + 1) 0 ∧ tm2 5 = .p (H.next + 2) 0 ∧ tm2 7 = .v (.int .i64 (0 : Nat)) ∧ tm2 53 = .v (.int .i64 n) ∧ tm2 54 = .v (.int .i64 i) ∧ i ≤ n ∧ Ea H H2 true st3 c 0 n i st' C' c') (fun tm2 _ => n - (intOf (tm2 54)).toNat) (.same ?_) ?_
     ·exact ⟨0, ⟨st3.Ay, true⟩, C, c, by simp [go_sem, t2], by simp [go_sem, t4], by simp [go_sem, t5], by simp [go_sem], by simp [go_sem], by simp [go_sem], by omega, mk0 true (0) (by omega) (fun h => (by cases h))⟩
     rintro I2 μ2 hI2 hμ2 tm2 H2 ⟨i, st', C', c', u2, u4, u5, u7, u53, u54, hi, hJ⟩
     have p1 := hJ.o1; have p2 := hJ.o2; have p0 := hJ.o0; refine AA _ (by kernel_rfl) _ _ _ ?_; simp (maxSteps := 1000000) (disch := omega) [go_sem, u2, u4, u5, u7, u53, u54]; refine BH ?_ ?_ <;> intro hc2 <;> (try simp at hc2)
     ·obtain ⟨x, st'', e4, l4, b4, c4⟩ := GQ st' (by have := hJ.len; have := hR.len; omega); have hCl : C'.length = 8 := by rw [hJ.rows.len, hJ.c8]
      have hfi : (0) < c'.length := by rw [hJ.c8]; omega
      have hfC : (0) < C'.length := by omega
      rcases hJ.rows.at hfi with ⟨hC, hc0⟩ | ⟨nr, q1, q2, hC, q4⟩
      ·have hCe : C'[0]'hfC = .v (.slice none 0 0) := by rw [List.getElem?_eq_getElem hfC] at hC; exact Option.some.inj hC
       simp (maxSteps := 1000000) (disch := omega) [go_sem, u2, u4, u5, u7, u53, u54, p2, hCl]; refine Bt [0, 1, 2, 3, 4, 5, 6, 7, 8, 9] (by kernel_rfl) (by kernel_rfl) (fun _ _ _ _ h => h) ?_; simp (maxSteps := 1000000) (disch := omega) [go_sem, u2, u4, u5, u7, u53, u54, p2, hCl, hCe]; refine CI st' _ p1 (hV.of hJ.ext.sn) e4 ?_; have nx2 := hJ.nx; have n0 : ¬ H.next = H2.next := by omega
       have n1 : ¬ H.next + 1 = H2.next := by omega
       have n2 : ¬ H.next + 2 = H2.next := by omega
       simp (maxSteps := 1000000) (disch := omega) [go_sem, u2, u4, u5, u7, u53, u54, p2, hCl, hCe, BE, n0, n1, n2]; have n3 : ¬ H2.next = H.next + 2 := by omega
       have n4 : ¬ H2.next = H.next + 1 := by omega
       have ex : c'.set (0) (c'[0] ++ [x]) = c'.set (0) [x] := by rw [hc0]; rfl
       have eC : ∀ y : IV, List.take (0) C' ++ y :: List.drop (0 + 1) C' = C'.set (0) y := fun y => by rw [List.set_eq_take_append_cons_drop, if_pos hfC]
       have eT : ∀ y : IV, y :: C'.tail = C'.set 0 y := fun y => by cases C' with | nil => simp at hCl | cons a b => rfl
       refine .of hI2 hμ2 ⟨i + 1, st'', C'.set (0) (.os H2.next 1), c'.set (0) (c'[0] ++ [x]), by simp [go_sem, u2], by simp [go_sem, u4], by simp [go_sem, u5], by simp [go_sem, u7], by simp [go_sem, u53], by simp [go_sem], by omega, ?_⟩ (by simp [go_sem, u54]; omega); refine hJ.next hc2 hfi l4 b4 c4 (by simp [go_sem, p0, n0, EN]) (by simp [go_sem, n1]) (by first | (simp [go_sem, eC]; done) | (simp [go_sem, eT]; done)) (((hJ.ext.set (by omega) _).new _).set (by omega) _) (by simp [go_sem]; omega) ?_; rw [ex]; refine hJ.rows.K5 hfi hc0 (by omega) (Nat.le_refl _) (by simp [go_sem]) (by simp [go_sem]) (fun q o hq hq' e => ?_) (by simp [go_sem, n3, n4]); have m1 : ¬ q = H.next + 2 := by omega
       have m2 : ¬ q = H.next + 1 := by omega
       have m3 : ¬ q = H2.next := by omega
       simp [go_sem, m1, m2, m3, e]
      ·have hCe : C'[0]'hfC = .os nr c'[0].length := by rw [List.getElem?_eq_getElem hfC] at hC; exact Option.some.inj hC
       have hfl := hJ.fl _ (List.getElem?_eq_getElem hfi); simp (maxSteps := 1000000) (disch := omega) [go_sem, u2, u4, u5, u7, u53, u54, p2, hCl]; refine Bt [0, 1, 2, 3, 4, 5, 6, 7, 8, 9] (by kernel_rfl) (by kernel_rfl) (fun _ _ _ _ h => h) ?_; simp (maxSteps := 1000000) (disch := omega) [go_sem, u2, u4, u5, u7, u53, u54, p2, hCl, hCe]; refine CI st' _ p1 (hV.of hJ.ext.sn) e4 ?_; have n0 : ¬ H.next = nr := by omega
       have n1 : ¬ H.next + 1 = nr := by omega
       have n2 : ¬ H.next + 2 = nr := by omega
       have n3 : ¬ nr = H.next + 1 := by omega
       have n4 : ¬ nr = H.next + 2 := by omega
       simp (maxSteps := 1000000) (disch := omega) [go_sem, u2, u4, u5, u7, u53, u54, p2, hCl, hCe, BE, q4, n0, n1, n2, n3, n4]; have eC : ∀ y : IV, List.take (0) C' ++ y :: List.drop (0 + 1) C' = C'.set (0) y := fun y => by rw [List.set_eq_take_append_cons_drop, if_pos hfC]
       have eT : ∀ y : IV, y :: C'.tail = C'.set 0 y := fun y => by cases C' with | nil => simp at hCl | cons a b => rfl
       have el : (c'[0] ++ [x]).length = c'[0].length + 1 := by simp
       refine .of hI2 hμ2 ⟨i + 1, st'', C'.set (0) (.os nr (c'[0].length + 1)), c'.set (0) (c'[0] ++ [x]), by simp [go_sem, u2], by simp [go_sem, u4], by simp [go_sem, u5], by simp [go_sem, u7], by simp [go_sem, u53], by simp [go_sem], by omega, ?_⟩ (by simp [go_sem, u54]; omega); have nx2 := hJ.nx; refine hJ.next hc2 hfi l4 b4 c4 (by simp [go_sem, p0, n0, EN]) (by simp [go_sem, n1]) (by first | (simp [go_sem, eC]; done) | (simp [go_sem, eT]; done)) (((hJ.ext.set (by omega) _).set (by omega) _).set (by omega) _) (by simp [go_sem]; omega) ?_; rw [← el]; refine hJ.rows.K6 hfi hC (by simp [go_sem]) (fun q o hq hq' hne e => ?_) (by simp [go_sem, n3, n4]); have m1 : ¬ q = H.next + 2 := by omega
       have m2 : ¬ q = H.next + 1 := by omega
       simp [go_sem, m1, m2, hne, e]
     ·simp (maxSteps := 1000000) (disch := omega) [go_sem, u2, u4, u5, u7, u53, u54]; have hd := hJ.dead rfl; have hT : GR s = none := by
       rcases hF with ⟨h, _⟩ | ⟨_, _, hF⟩
       ·rw [hb3] at h; cases h
       ·rw [← g4]; exact Fe f k _ c h0 (by rw [hF, hfx]; rfl)
      refine .of hI hμ ⟨st', C', c', 0 + 1, f, by simp [go_sem, u2], by simp [go_sem, u4], by simp [go_sem, u5], by simp [go_sem, u7], ⟨p0, p1, p2, hJ.ext, hJ.nx, hJ.rows, hJ.c8, by have := hJ.len; have := hR.len; omega, by omega, fun h => (by rw [hd] at h; cases h), fun _ => hT⟩⟩ ?_; rw [p1, CY, CY, hd]; have := hJ.len; simp; omega
    | some fi =>
     have hfi8 := Mz hfx; by_cases hik : (fi : Int) ≤ (k : Int) - 1
     ·simp (maxSteps := 1000000) (disch := omega) [go_sem, t2, t4, t5, t6, hb3, hfx, hik]; refine Bh (fun tm2 H2 => ∃ (i : Nat) (st' : By) (C' : List IV) (c' : List (List Str)), tm2 2 = .p H.next 0 ∧ tm2 4 = .p (H.next + 1) 0 ∧ tm2 5 = .p (H.next + 2) 0 ∧ tm2 7 = .v (.int .i64 (fi : Nat)) ∧ tm2 53 = .v (.int .i64 n) ∧ tm2 54 = .v (.int .i64 i) ∧ i ≤ n ∧ Ea H H2 true st3 c fi n i st' C' c') (fun tm2 _ => n - (intOf (tm2 54)).toNat) (.same ?_) ?_
      ·exact ⟨0, ⟨st3.Ay, true⟩, C, c, by simp [go_sem, t2], by simp [go_sem, t4], by simp [go_sem, t5], by simp [go_sem], by simp [go_sem], by simp [go_sem], by omega, mk0 true (fi) (by omega) (fun h => (by cases h))⟩
      rintro I2 μ2 hI2 hμ2 tm2 H2 ⟨i, st', C', c', u2, u4, u5, u7, u53, u54, hi, hJ⟩
      have p1 := hJ.o1; have p2 := hJ.o2; have p0 := hJ.o0; refine AA _ (by kernel_rfl) _ _ _ ?_; simp (maxSteps := 1000000) (disch := omega) [go_sem, u2, u4, u5, u7, u53, u54]; refine BH ?_ ?_ <;> intro hc2 <;> (try simp at hc2)
      ·obtain ⟨x, st'', e4, l4, b4, c4⟩ := GQ st' (by have := hJ.len; have := hR.len; omega); have hCl : C'.length = 8 := by rw [hJ.rows.len, hJ.c8]
       have hfi : (fi) < c'.length := by rw [hJ.c8]; omega
       have hfC : (fi) < C'.length := by omega
       rcases hJ.rows.at hfi with ⟨hC, hc0⟩ | ⟨nr, q1, q2, hC, q4⟩
       ·have hCe : C'[fi]'hfC = .v (.slice none 0 0) := by rw [List.getElem?_eq_getElem hfC] at hC; exact Option.some.inj hC
        simp (maxSteps := 1000000) (disch := omega) [go_sem, u2, u4, u5, u7, u53, u54, p2, hCl]; refine Bt [0, 1, 2, 3, 4, 5, 6, 7, 8, 9] (by kernel_rfl) (by kernel_rfl) (fun _ _ _ _ h => h) ?_; simp (maxSteps := 1000000) (disch := omega) [go_sem, u2, u4, u5, u7, u53, u54, p2, hCl, hCe]; refine CI st' _ p1 (hV.of hJ.ext.sn) e4 ?_; have nx2 := hJ.nx; have n0 : ¬ H.next = H2.next := by omega
        have n1 : ¬ H.next + 1 = H2.next := by omega
        have n2 : ¬ H.next + 2 = H2.next := by omega
        simp (maxSteps := 1000000) (disch := omega) [go_sem, u2, u4, u5, u7, u53, u54, p2, hCl, hCe, BE, n0, n1, n2]; have n3 : ¬ H2.next = H.next + 2 := by omega
        have n4 : ¬ H2.next = H.next + 1 := by omega
        have ex : c'.set (fi) (c'[fi] ++ [x]) = c'.set (fi) [x] := by rw [hc0]; rfl
        have eC : ∀ y : IV, List.take (fi) C' ++ y :: List.drop (fi + 1) C' = C'.set (fi) y := fun y => by rw [List.set_eq_take_append_cons_drop, if_pos hfC]
        have eT : ∀ y : IV, y :: C'.tail = C'.set 0 y := fun y => by cases C' with | nil => simp at hCl | cons a b => rfl
        refine .of hI2 hμ2 ⟨i + 1, st'', C'.set (fi) (.os H2.next 1), c'.set (fi) (c'[fi] ++ [x]), by simp [go_sem, u2], by simp [go_sem, u4], by simp [go_sem, u5], by simp [go_sem, u7], by simp [go_sem, u53], by simp [go_sem], by omega, ?_⟩ (by simp [go_sem, u54]; omega); refine hJ.next hc2 hfi l4 b4 c4 (by simp [go_sem, p0, n0, EN]) (by simp [go_sem, n1]) (by first | (simp [go_sem, eC]; done) | (simp [go_sem, eT]; done)) (((hJ.ext.set (by omega) _).new _).set (by omega) _) (by simp [go_sem]; omega) ?_; rw [ex]; refine hJ.rows.K5 hfi hc0 (by omega) (Nat.le_refl _) (by simp [go_sem]) (by simp [go_sem]) (fun q o hq hq' e => ?_) (by simp [go_sem, n3, n4]); have m1 : ¬ q = H.next + 2 := by omega
        have m2 : ¬ q = H.next + 1 := by omega
        have m3 : ¬ q = H2.next := by omega
        simp [go_sem, m1, m2, m3, e]
       ·have hCe : C'[fi]'hfC = .os nr c'[fi].length := by rw [List.getElem?_eq_getElem hfC] at hC; exact Option.some.inj hC
        have hfl := hJ.fl _ (List.getElem?_eq_getElem hfi); simp (maxSteps := 1000000) (disch := omega) [go_sem, u2, u4, u5, u7, u53, u54, p2, hCl]; refine Bt [0, 1, 2, 3, 4, 5, 6, 7, 8, 9] (by kernel_rfl) (by kernel_rfl) (fun _ _ _ _ h => h) ?_; simp (maxSteps := 1000000) (disch := omega) [go_sem, u2, u4, u5, u7, u53, u54, p2, hCl, hCe]; refine CI st' _ p1 (hV.of hJ.ext.sn) e4 ?_; have n0 : ¬ H.next = nr := by omega
        have n1 : ¬ H.next + 1 = nr := by omega
        have n2 : ¬ H.next + 2 = nr := by omega
        have n3 : ¬ nr = H.next + 1 := by omega
        have n4 : ¬ nr = H.next + 2 := by omega
        simp (maxSteps := 1000000) (disch := omega) [go_sem, u2, u4, u5, u7, u53, u54, p2, hCl, hCe, BE, q4, n0, n1, n2, n3, n4]; have eC : ∀ y : IV, List.take (fi) C' ++ y :: List.drop (fi + 1) C' = C'.set (fi) y := fun y => by rw [List.set_eq_take_append_cons_drop, if_pos hfC]
        have eT : ∀ y : IV, y :: C'.tail = C'.set 0 y := fun y => by cases C' with | nil => simp at hCl | cons a b => rfl
        have el : (c'[fi] ++ [x]).length = c'[fi].length + 1 := by simp
        refine .of hI2 hμ2 ⟨i + 1, st'', C'.set (fi) (.os nr (c'[fi].length + 1)), c'.set (fi) (c'[fi] ++ [x]), by simp [go_sem, u2], by simp [go_sem, u4], by simp [go_sem, u5], by simp [go_sem, u7], by simp [go_sem, u53], by simp [go_sem], by omega, ?_⟩ (by simp [go_sem, u54]; omega); have nx2 := hJ.nx; refine hJ.next hc2 hfi l4 b4 c4 (by simp [go_sem, p0, n0, EN]) (by simp [go_sem, n1]) (by first | (simp [go_sem, eC]; done) | (simp [go_sem, eT]; done)) (((hJ.ext.set (by omega) _).set (by omega) _).set (by omega) _) (by simp [go_sem]; omega) ?_; rw [← el]; refine hJ.rows.K6 hfi hC (by simp [go_sem]) (fun q o hq hq' hne e => ?_) (by simp [go_sem, n3, n4]); have m1 : ¬ q = H.next + 2 := by omega
        have m2 : ¬ q = H.next + 1 := by omega
        simp [go_sem, m1, m2, hne, e]
      ·simp (maxSteps := 1000000) (disch := omega) [go_sem, u2, u4, u5, u7, u53, u54]; have hd := hJ.dead rfl; have hT : GR s = none := by
        rcases hF with ⟨h, _⟩ | ⟨_, _, hF⟩
        ·rw [hb3] at h; cases h
        ·rw [← g4]; exact T_ f k _ c h0 (by rw [hF, hfx]; rfl) (by omega)
       refine .of hI hμ ⟨st', C', c', fi + 1, f, by simp [go_sem, u2], by simp [go_sem, u4], by simp [go_sem, u5], by simp [go_sem, u7], ⟨p0, p1, p2, hJ.ext, hJ.nx, hJ.rows, hJ.c8, by have := hJ.len; have := hR.len; omega, by omega, fun h => (by rw [hd] at h; cases h), fun _ => hT⟩⟩ ?_; rw [p1, CY, CY, hd]; have := hJ.len; simp; omega
     ·simp (maxSteps := 1000000) (disch := omega) [go_sem, t2, t4, t5, t6, hb3, hfx, hik]; refine Bh (fun tm2 H2 => ∃ (i : Nat) (st' : By) (C' : List IV) (c' : List (List Str)), tm2 2 = .p H.next 0 ∧ tm2 4 = .p (H.next + 1) 0 ∧ tm2 5 = .p (H.next + 2) 0 ∧ tm2 7 = .v (.int .i64 (fi : Nat)) ∧ tm2 53 = .v (.int .i64 n) ∧ tm2 54 = .v (.int .i64 i) ∧ i ≤ n ∧ Ea H H2 false st3 c fi n i st' C' c') (fun tm2 _ => n - (intOf (tm2 54)).toNat) (.same ?_) ?_
      ·exact ⟨0, ⟨st3.Ay, false⟩, C, c, by simp [go_sem, t2], by simp [go_sem, t4], by simp [go_sem, t5], by simp [go_sem], by simp [go_sem], by simp [go_sem], by omega, mk0 false (fi) (by omega) (fun _ => (by omega))⟩
      rintro I2 μ2 hI2 hμ2 tm2 H2 ⟨i, st', C', c', u2, u4, u5, u7, u53, u54, hi, hJ⟩
      have p1 := hJ.o1; have p2 := hJ.o2; have p0 := hJ.o0; refine AA _ (by kernel_rfl) _ _ _ ?_; simp (maxSteps := 1000000) (disch := omega) [go_sem, u2, u4, u5, u7, u53, u54]; refine BH ?_ ?_ <;> intro hc2 <;> (try simp at hc2)
      ·obtain ⟨x, st'', e4, l4, b4, c4⟩ := GQ st' (by have := hJ.len; have := hR.len; omega); have hCl : C'.length = 8 := by rw [hJ.rows.len, hJ.c8]
       have hfi : (fi) < c'.length := by rw [hJ.c8]; omega
       have hfC : (fi) < C'.length := by omega
       rcases hJ.rows.at hfi with ⟨hC, hc0⟩ | ⟨nr, q1, q2, hC, q4⟩
       ·have hCe : C'[fi]'hfC = .v (.slice none 0 0) := by rw [List.getElem?_eq_getElem hfC] at hC; exact Option.some.inj hC
        simp (maxSteps := 1000000) (disch := omega) [go_sem, u2, u4, u5, u7, u53, u54, p2, hCl]; refine Bt [0, 1, 2, 3, 4, 5, 6, 7, 8, 9] (by kernel_rfl) (by kernel_rfl) (fun _ _ _ _ h => h) ?_; simp (maxSteps := 1000000) (disch := omega) [go_sem, u2, u4, u5, u7, u53, u54, p2, hCl, hCe]; refine CI st' _ p1 (hV.of hJ.ext.sn) e4 ?_; have nx2 := hJ.nx; have n0 : ¬ H.next = H2.next := by omega
        have n1 : ¬ H.next + 1 = H2.next := by omega
        have n2 : ¬ H.next + 2 = H2.next := by omega
        simp (maxSteps := 1000000) (disch := omega) [go_sem, u2, u4, u5, u7, u53, u54, p2, hCl, hCe, BE, n0, n1, n2]; have n3 : ¬ H2.next = H.next + 2 := by omega
        have n4 : ¬ H2.next = H.next + 1 := by omega
        have ex : c'.set (fi) (c'[fi] ++ [x]) = c'.set (fi) [x] := by rw [hc0]; rfl
        have eC : ∀ y : IV, List.take (fi) C' ++ y :: List.drop (fi + 1) C' = C'.set (fi) y := fun y => by rw [List.set_eq_take_append_cons_drop, if_pos hfC]
        have eT : ∀ y : IV, y :: C'.tail = C'.set 0 y := fun y => by cases C' with | nil => simp at hCl | cons a b => rfl
        refine .of hI2 hμ2 ⟨i + 1, st'', C'.set (fi) (.os H2.next 1), c'.set (fi) (c'[fi] ++ [x]), by simp [go_sem, u2], by simp [go_sem, u4], by simp [go_sem, u5], by simp [go_sem, u7], by simp [go_sem, u53], by simp [go_sem], by omega, ?_⟩ (by simp [go_sem, u54]; omega); refine hJ.next hc2 hfi l4 b4 c4 (by simp [go_sem, p0, n0, EN]) (by simp [go_sem, n1]) (by first | (simp [go_sem, eC]; done) | (simp [go_sem, eT]; done)) (((hJ.ext.set (by omega) _).new _).set (by omega) _) (by simp [go_sem]; omega) ?_; rw [ex]; refine hJ.rows.K5 hfi hc0 (by omega) (Nat.le_refl _) (by simp [go_sem]) (by simp [go_sem]) (fun q o hq hq' e => ?_) (by simp [go_sem, n3, n4]); have m1 : ¬ q = H.next + 2 := by omega
        have m2 : ¬ q = H.next + 1 := by omega
        have m3 : ¬ q = H2.next := by omega
        simp [go_sem, m1, m2, m3, e]
       ·have hCe : C'[fi]'hfC = .os nr c'[fi].length := by rw [List.getElem?_eq_getElem hfC] at hC; exact Option.some.inj hC
        have hfl := hJ.fl _ (List.getElem?_eq_getElem hfi); simp (maxSteps := 1000000) (disch := omega) [go_sem, u2, u4, u5, u7, u53, u54, p2, hCl]; refine Bt [0, 1, 2, 3, 4, 5, 6, 7, 8, 9] (by kernel_rfl) (by kernel_rfl) (fun _ _ _ _ h => h) ?_; simp (maxSteps := 1000000) (disch := omega) [go_sem, u2, u4, u5, u7, u53, u54, p2, hCl, hCe]; refine CI st' _ p1 (hV.of hJ.ext.sn) e4 ?_; have n0 : ¬ H.next = nr := by omega
        have n1 : ¬ H.next + 1 = nr := by omega
        have n2 : ¬ H.next + 2 = nr := by omega
        have n3 : ¬ nr = H.next + 1 := by omega
        have n4 : ¬ nr = H.next + 2 := by omega
        simp (maxSteps := 1000000) (disch := omega) [go_sem, u2, u4, u5, u7, u53, u54, p2, hCl, hCe, BE, q4, n0, n1, n2, n3, n4]; have eC : ∀ y : IV, List.take (fi) C' ++ y :: List.drop (fi + 1) C' = C'.set (fi) y := fun y => by rw [List.set_eq_take_append_cons_drop, if_pos hfC]
        have eT : ∀ y : IV, y :: C'.tail = C'.set 0 y := fun y => by cases C' with | nil => simp at hCl | cons a b => rfl
        have el : (c'[fi] ++ [x]).length = c'[fi].length + 1 := by simp
        refine .of hI2 hμ2 ⟨i + 1, st'', C'.set (fi) (.os nr (c'[fi].length + 1)), c'.set (fi) (c'[fi] ++ [x]), by simp [go_sem, u2], by simp [go_sem, u4], by simp [go_sem, u5], by simp [go_sem, u7], by simp [go_sem, u53], by simp [go_sem], by omega, ?_⟩ (by simp [go_sem, u54]; omega); have nx2 := hJ.nx; refine hJ.next hc2 hfi l4 b4 c4 (by simp [go_sem, p0, n0, EN]) (by simp [go_sem, n1]) (by first | (simp [go_sem, eC]; done) | (simp [go_sem, eT]; done)) (((hJ.ext.set (by omega) _).set (by omega) _).set (by omega) _) (by simp [go_sem]; omega) ?_; rw [← el]; refine hJ.rows.K6 hfi hC (by simp [go_sem]) (fun q o hq hq' hne e => ?_) (by simp [go_sem, n3, n4]); have m1 : ¬ q = H.next + 2 := by omega
        have m2 : ¬ q = H.next + 1 := by omega
        simp [go_sem, m1, m2, hne, e]
      ·simp (maxSteps := 1000000) (disch := omega) [go_sem, u2, u4, u5, u7, u53, u54]; have e0 : n - i = 0 := by omega
       rcases hJ.good rfl with ⟨hd, hT0⟩ | ⟨hd, acc, rfl, ha, hav, hT0⟩
       ·have hT : GR s = none := by
         rcases hF with ⟨h, _⟩ | ⟨_, _, hF⟩
         ·rw [hb3] at h; cases h
         ·rw [← g4]; exact Fe f k _ c h0 (by rw [hF, hfx, Option.bind_some, hT0]; rfl)
        refine .of hI hμ ⟨st', C', c', fi + 1, f, by simp [go_sem, u2], by simp [go_sem, u4], by simp [go_sem, u5], by simp [go_sem, u7], ⟨p0, p1, p2, hJ.ext, hJ.nx, hJ.rows, hJ.c8, by have := hJ.len; have := hR.len; omega, by omega, fun h => (by rw [hd] at h; cases h), fun _ => hT⟩⟩ ?_; rw [p1, CY, CY, hd]; have := hJ.len; simp; omega
       ·rcases hF with ⟨h, _⟩ | ⟨_, hlt, hF⟩
        ·rw [hb3] at h; cases h
        ·rw [e0] at hT0; have hF' : KG st.Ay.fs = some (fi, acc, st'.Ay.fs) := by rw [hF, hfx, Option.bind_some, hT0]; simp [Eg]
         have hle := hJ.len; obtain ⟨f', rfl⟩ : ∃ f', f = f' + 1 := ⟨f - 1, by have : 0 < st.Ay.fs.length := List.length_pos_iff.2 h0; omega⟩; have hcon : DQ f' (fi + 1) st'.Ay.fs (c.set fi acc) = GR s := by
          rw [← g4]; exact (Rl f' k _ c h0 hF' (by omega)).symm
         refine .of hI hμ ⟨st', C', c.set fi acc, fi + 1, f', by simp [go_sem, u2], by simp [go_sem, u4], by simp [go_sem, u5], by simp [go_sem, u7], ⟨p0, p1, p2, hJ.ext, hJ.nx, hJ.rows, hJ.c8, by have := hR.len; omega, by omega, fun _ => ⟨by omega, ⟨hJ.c8, ?_⟩, fun j hj => ?_, hcon⟩, fun h => (by rw [hd] at h; cases h)⟩⟩ ?_
         ·intro l hl; rcases List.mem_or_eq_of_mem_set hl with hl | rfl
          ·exact g2.2 l hl
          ·exact ⟨by omega, fun v hv => by have := hav v hv; omega⟩
         ·have := g3 j (by omega); rw [List.getD_eq_getElem?_getD] at this ⊢; rw [List.getElem?_set_ne (by omega)]; exact this
         ·rw [p1, CY, CY, hd]; simp; omega
end Go.Idl
namespace Go.Idl
open Go Go.Proofs.Tryz Go.RowKit
variable {H : A2} {K : Aw → A2 → Prop}
end Go.Idl
namespace Go.Idl
open Go Go.Proofs.Tryz Go.RowKit
variable {H : A2} {K : Aw → A2 → Prop}
noncomputable def F66 (s : List UInt8) : Option (List (List (List UInt8)) × Int) := gd ((s.length : Int) ≤ 1000000000) (some (G6 s))
theorem U0 (s : List UInt8) (hV : VOK prog H) {r : List (List (List UInt8)) × Int} (h : F66 s = some r) (hK : K (.ret (.tu [cS r.1, .v (.int .i64 r.2)])) H) : Ae prog 66 [.v (str s)] H K := by
 obtain ⟨h0, h⟩ := Aj.1 h; cases h; exact Zd s (by omega) hV hK
end Go.Idl
namespace Go.Idl
set_option maxHeartbeats 8000000
set_option pp.deepTerms false
set_option maxRecDepth 60000
open Go Go.Proofs.Tryz
structure AH where
 fs : List UInt8
 fat : Int
deriving DecidableEq
def AH.zero : AH := ⟨[], 0⟩
noncomputable def Iw (a0 : AH) : Option (Int × Bool) :=
 if (a0.fs.length : Int) ≤ a0.fat then (some (0, false)) else (gd (0 ≤ a0.fat ∧ a0.fat < a0.fs.length) (some ((((a0.fs.getD a0.fat.toNat 0).toNat : Int), true))))
theorem Dt {H : A2} {K : Aw → A2 → Prop} (a0 : AH) (ka0 : Nat) (Aq : H.obj ka0 = some (.cells ([.v (str a0.fs), .v (.int .i64 a0.fat)]))) {r : Int × Bool} (h : Iw a0 = some r) (hK : K (.ret (.tu [.v (.int .u8 r.1), .v (.bool r.2)])) H) : Ae prog 137 [.p ka0 0] H K := by
 refine Ah (N := 23) func137 (by kernel_rfl) rfl (by kernel_rfl) (by kernel_rfl) fun cb hcb hw hbd hnb => ?_; clear hbd hnb; subst hcb; unfold Iw at h; have Df : ka0 < H.next := Nat.lt_of_not_le fun q => by rw [hw _ q] at Aq; cases Aq
 refine wG ?_; refine A4 fun cb hc2 => ?_; refine A4 fun cb hc3 => ?_; refine AQ [] [0, 1, 2, 3, 4, 5, 6, 7, 8, 9] (by kernel_rfl) (by kernel_rfl) (fun _ _ _ _ h => h) ?_; refine sF Aq ?_; subst hc3; refine Ad h eA rfl ?_ ?_
 ·intro c4 h; refine wG ?_; refine vO ?_; obtain rfl := sI h; refine sG ?_; exact Av (.refl hw) hK
 intro c4 h; simp (disch := omega) at c4; refine vO ?_; subst hc2; refine A4 fun cb hc6 => ?_; refine AQ [] [0, 1, 2, 3, 4, 5, 6, 7, 8, 9, 10] (by kernel_rfl) (by kernel_rfl) (fun _ _ _ _ h => h) ?_; obtain ⟨g7, h⟩ := Aj.1 h; refine sF Aq ?_; subst hc6; refine vO ?_; obtain rfl := sI h; refine sG ?_; exact Av (.refl hw) hK
noncomputable def GS (a0 : AH) (v10 : AH) : Option (Except Unit ((List UInt8) × AH)) :=
 gd (0 ≤ a0.fat) (gd (a0.fat ≤ v10.fat) (gd (v10.fat ≤ v10.fs.length) ((Iw v10).bind fun (x16 : Int × Bool) => if x16.2 = true then ((F80 ((v10.fs.take v10.fat.toNat).drop a0.fat.toNat)).bind fun (x18 : Bool) => if x18 = true then ((F81 ((v10.fs.take v10.fat.toNat).drop a0.fat.toNat)).bind fun (x22 : (List UInt8)) => some ((.ok ((x22, (⟨v10.fs, IntKind.i64.wrap (v10.fat + 1)⟩ : AH)))))) else (some (.error ()))) else (some (.error ())))))
noncomputable def Du (v7 : Int) (v8 : Bool) (v9 : AH) : Option ((Int × Bool × AH) ⊕ AH) :=
 if v8 = true then (if ¬ v7 = 61 then ((Iw ((⟨v9.fs, IntKind.i64.wrap (v9.fat + 1)⟩ : AH))).bind fun (x28 : Int × Bool) => some (.inl ((x28.1, x28.2, (⟨v9.fs, IntKind.i64.wrap (v9.fat + 1)⟩ : AH))))) else (some (.inr v9))) else (some (.inr v9))
noncomputable def U1 (a0 : AH) : Option (Except Unit ((List UInt8) × AH)) :=
 (Iw a0).bind fun (x5 : Int × Bool) => (AN (fun (s : Int × Bool × AH) => Du s.1 s.2.1 s.2.2) (x5.1, x5.2, a0)).bind fun (e : AH) => GS a0 e
theorem W3 {H : A2} {K : Aw → A2 → Prop} (a0 : AH) (ka0 : Nat) (Aq : H.obj ka0 = some (.cells ([.v (str a0.fs), .v (.int .i64 a0.fat)]))) {r : Except Unit ((List UInt8) × AH)} (h : U1 a0 = some r) (hP : ∀ e, r = .error e → K (.pan (G1 e)) (H.del ka0)) (hK : ∀ v : (List UInt8) × AH, r = .ok v → K (.ret (.v (str v.1))) (BE H [(ka0, .cells ([.v (str v.2.fs), .v (.int .i64 v.2.fat)]))])) : Ae prog 134 [.p ka0 0] H K := by
 refine Ah (N := 65) func134 (by kernel_rfl) rfl (by kernel_rfl) (by kernel_rfl) fun cb hcb hw hbd hnb => ?_; clear hbd hnb; subst hcb; unfold U1 at h; have Df : ka0 < H.next := Nat.lt_of_not_le fun q => by rw [hw _ q] at Aq; cases Aq
 refine wG ?_; refine wF Aq ?_; refine A4 fun cb hc3 => ?_; refine A4 fun cb hc4 => ?_; refine vG ?_; obtain ⟨x5, hx5, h⟩ := A6 h; refine Dt a0 ka0 (by assumption) hx5 ?_; refine sG ?_; subst hc4; obtain ⟨y6, hl6q, hk6⟩ := A6 h; refine AE (fun tm' H' => ∃ v10 : AH, v10 = y6 ∧ Ext (H.del ka0) H' ∧ H.next ≤ H'.next ∧ tm' 0 = .p ka0 0 ∧ tm' 3 = .v (.int .i64 a0.fat) ∧ H'.obj ka0 = some (.cells ([.v (str v10.fs), .v (.int .i64 v10.fat)]))) ?_ fun cb hc6 => ?_
 ·rintro tm6e H6e ⟨v10, rfl, he6e, hl6e, t0_6e, t3_6e, ob0_6e⟩
  have h : GS a0 v10 = some r := hk6; unfold GS at h; simp -implicitDefEqProofs only [go_sem]; subst hc3; refine A4 fun cb hc11 => ?_; refine AQ [] [0, 1, 2, 3, 4, 5, 6, 7, 8, 9, 10] (by kernel_rfl) (by kernel_rfl) (fun _ _ _ _ h => h) ?_; obtain ⟨g12, h⟩ := Aj.1 h; obtain ⟨g13, h⟩ := Aj.1 h; obtain ⟨g14, h⟩ := Aj.1 h; refine sF (nd t0_6e (nd t3_6e ob0_6e)) ?_; subst hc11; refine A4 fun cb hc15 => ?_; refine vF t0_6e ?_; obtain ⟨x16, hx16, h⟩ := A6 h; refine Dt v10 ka0 (by assumption) hx16 ?_; refine sG ?_; subst hc15; refine A4 fun cb hc17 => ?_; refine vG ?_; refine A9 h eA ?_ ?_
  ·intro c23 h; refine sG ?_; obtain ⟨x18, hx18, h⟩ := A6 h; refine Te ((v10.fs.take v10.fat.toNat).drop a0.fat.toNat) hx18 ?_; refine sG ?_; refine Ae.eqA (args' := [.v (.bool x18)]) rfl ?_; by_cases m19 : ¬ (x18 = true)
   ·rw [if_neg m19] at h; refine C8  (by simpa using m19) ?_; simp (disch := omega) at m19; obtain rfl := sI h; refine sG ?_; exact EH (by exact Ei he6e) ((Dl.refl _).del ka0) (hP _ rfl)
   have m19 := Classical.not_not.1 m19; rw [if_pos m19] at h; refine G2  (by simpa using m19) ?_; refine sG ?_; subst hc17; refine wF (nd t0_6e ob0_6e) ?_; refine A4 fun cb hc21 => ?_; refine vG ?_; obtain ⟨x22, hx22, h⟩ := A6 h; refine T4 ((v10.fs.take v10.fat.toNat).drop a0.fat.toNat) hx22 ?_; refine sG ?_; subst hc21; refine vO ?_; obtain rfl := sI h; refine sG ?_; refine Ar (r' := .v (str x22)) (io1 ka0 (.cells ([.v (str v10.fs), .v (.int .i64 (IntKind.i64.wrap (v10.fat + 1)))])) (by exact As he6e) (by omega) (by simp -implicitDefEqProofs (disch := omega) [go_sem]) (by exact Bo)) rfl (.same (by exact nbA)) (hK _ rfl)
  intro c23 h; simp (disch := omega) at c23; refine sG ?_; refine C8  rfl ?_; obtain rfl := sI h; refine sG ?_; exact EH (by exact Ei he6e) ((Dl.refl _).del ka0) (hP _ rfl)
 refine Am ?_; refine AD (fun (s : Int × Bool × AH) tm' H' => Ext (H.del ka0) H' ∧ H.next ≤ H'.next ∧ tm' 0 = .p ka0 0 ∧ tm' 3 = .v (.int .i64 a0.fat) ∧ tm' 4 = .v (.int .u8 s.1) ∧ tm' 5 = .v (.bool s.2.1) ∧ H'.obj ka0 = some (.cells ([.v (str s.2.2.fs), .v (.int .i64 s.2.2.fat)]))) hl6q ?_ ?_
 ·refine .same ⟨by exact As (Ext.AG (Ext.refl hw) ka0), by omega, ?_, ?_, ?_, ?_, ?_⟩ <;> first | with_reducible assumption | (simp -implicitDefEqProofs (disch := omega) [go_sem] <;> omega)
 rintro I6 hI6 ⟨v7, v8, v9⟩ x6 tm6 H6 ⟨he6, hl6, U2, Ze, NR, jL, Lm⟩ h hret6
 replace h : Du v7 v8 v9 = some x6 := h; unfold Du at h; refine A4 fun cb hc24 => ?_; refine A4 fun cb hc25 => ?_; refine vF jL ?_; refine A9 h eA ?_ ?_
 ·intro c29 h; refine sF NR ?_; subst hc25; refine Ad h eA rfl ?_ ?_
  ·intro c26 h; refine vO ?_; subst hc24; refine A4 fun cb hc27 => ?_; refine Am ?_; refine vF (nd U2 Lm) ?_; subst hc27; refine vF U2 ?_; obtain ⟨x28, hx28, h⟩ := A6 h; refine Dt ((⟨v9.fs, IntKind.i64.wrap (v9.fat + 1)⟩ : AH)) ka0 eA hx28 ?_; refine sG ?_; obtain rfl := sI h; refine Ao hI6 ((x28.1, x28.2, (⟨v9.fs, IntKind.i64.wrap (v9.fat + 1)⟩ : AH))) ?_; refine .same ⟨by exact As he6, by (simp -implicitDefEqProofs (disch := omega) [go_sem] <;> omega), ?_, ?_, ?_, ?_, ?_⟩ <;> (simp -implicitDefEqProofs (disch := omega) [go_sem, U2, Ze] <;> omega)
  intro c26 h; simp (disch := omega) at c26; refine vO ?_; obtain rfl := sI h; have hy6 := hret6 _ rfl; refine hc6 _ _ ?_; refine .same ⟨v9, hy6, by exact As he6, by with_reducible assumption, ?_, ?_, ?_⟩ <;> first | with_reducible assumption | (simp -implicitDefEqProofs (disch := omega) [go_sem, U2, Ze] <;> omega)
 intro c29 h; simp (disch := omega) at c29; refine sG ?_; subst hc25; refine Ap eA rfl ?_; refine vO ?_; obtain rfl := sI h; have hy6 := hret6 _ rfl; refine hc6 _ _ ?_; refine .same ⟨v9, hy6, by exact As he6, by with_reducible assumption, ?_, ?_, ?_⟩ <;> first | with_reducible assumption | (simp -implicitDefEqProofs (disch := omega) [go_sem, U2, Ze] <;> omega)
noncomputable def NS (a0 : Int) : Option Int :=
 (Fk a0 48 57).bind fun (x4 : Bool) => if x4 = true then (some (IntKind.u8.wrap (a0 - 48))) else ((Fk a0 97 102).bind fun (x8 : Bool) => if x8 = true then (some (IntKind.u8.wrap ((IntKind.u8.wrap (a0 - 97)) + 10))) else ((Fk a0 65 70).bind fun (x12 : Bool) => if x12 = true then (some (IntKind.u8.wrap ((IntKind.u8.wrap (a0 - 65)) + 10))) else (some 16)))
theorem IW {H : A2} {K : Aw → A2 → Prop} (a0 : Int) {r : Int} (h : NS a0 = some r) (hK : K (.ret (.v (.int .u8 r))) H) : Ae prog 183 [.v (.int .u8 a0)] H K := by
 refine Ah (N := 20) func183 (by kernel_rfl) rfl (by kernel_rfl) (by kernel_rfl) fun cb hcb hw hbd hnb => ?_; clear hbd hnb; subst hcb; unfold NS at h; refine wG ?_; refine A4 fun cb hc2 => ?_; refine Am ?_; refine A4 fun cb hc3 => ?_; refine vG ?_; obtain ⟨x4, hx4, h⟩ := A6 h; refine E_ a0 48 57 hx4 ?_; refine sG ?_; subst hc3; refine Ad h eA rfl ?_ ?_
 ·intro c5 h; refine wG ?_; refine vO ?_; obtain rfl := sI h; refine sG ?_; exact Av (.refl hw) hK
 intro c5 h; simp (disch := omega) at c5; refine A4 fun cb hc7 => ?_; refine vG ?_; obtain ⟨x8, hx8, h⟩ := A6 h; refine E_ a0 97 102 hx8 ?_; refine sG ?_; subst hc7; refine Ad h eA rfl ?_ ?_
 ·intro c9 h; refine wG ?_; refine vO ?_; obtain rfl := sI h; refine sG ?_; exact Av (.refl hw) hK
 intro c9 h; simp (disch := omega) at c9; refine A4 fun cb hc11 => ?_; refine vG ?_; obtain ⟨x12, hx12, h⟩ := A6 h; refine E_ a0 65 70 hx12 ?_; refine sG ?_; subst hc11; refine Ad h eA rfl ?_ ?_
 ·intro c13 h; refine wG ?_; refine vO ?_; obtain rfl := sI h; refine sG ?_; exact Av (.refl hw) hK
 intro c13 h; simp (disch := omega) at c13; refine vO ?_; subst hc2; refine wG ?_; refine vO ?_; obtain rfl := sI h; refine sG ?_; exact Av (.refl hw) hK
noncomputable def Rm (a0 : AH) : Option (Except Unit (Int × AH)) :=
 (Iw a0).bind fun (x3 : Int × Bool) => if x3.2 = true then ((OV ).bind fun (x9 : (List (Int × Bool))) => if (AW x9 x3.1).getD false = true then (some ((.ok ((x3.1, (⟨a0.fs, IntKind.i64.wrap (a0.fat + 1)⟩ : AH)))))) else (if x3.1 = 32 then (some ((.ok ((x3.1, (⟨a0.fs, IntKind.i64.wrap (a0.fat + 1)⟩ : AH)))))) else (if x3.1 = 35 then (some ((.ok ((x3.1, (⟨a0.fs, IntKind.i64.wrap (a0.fat + 1)⟩ : AH)))))) else ((Iw ((⟨a0.fs, IntKind.i64.wrap (a0.fat + 1)⟩ : AH))).bind fun (x15 : Int × Bool) => if x15.2 = true then ((NS x3.1).bind fun (x17 : Int) => if x17 < 16 then ((NS x15.1).bind fun (x18 : Int) => if x18 < 16 then ((NS x3.1).bind fun (x22 : Int) => (NS x15.1).bind fun (x23 : Int) => some ((.ok ((orI .u8 (IntKind.u8.wrap (x22 * 16)) x23, (⟨a0.fs, IntKind.i64.wrap ((IntKind.i64.wrap (a0.fat + 1)) + 1)⟩ : AH)))))) else (some (.error ()))) else (some (.error ()))) else (some (.error ())))))) else (some (.error ()))
theorem W4 {H : A2} {K : Aw → A2 → Prop} (a0 : AH) (ka0 : Nat) (Aq : H.obj ka0 = some (.cells ([.v (str a0.fs), .v (.int .i64 a0.fat)]))) {r : Except Unit (Int × AH)} (h : Rm a0 = some r) (hP : ∀ e, r = .error e → K (.pan (G1 e)) (H.del ka0)) (hK : ∀ v : Int × AH, r = .ok v → K (.ret (.v (.int .u8 v.1))) (BE H [(ka0, .cells ([.v (str v.2.fs), .v (.int .i64 v.2.fat)]))])) : Ae prog 157 [.p ka0 0] H K := by
 refine Ah (N := 62) func157 (by kernel_rfl) rfl (by kernel_rfl) (by kernel_rfl) fun cb hcb hw hbd hnb => ?_; clear hbd hnb; subst hcb; unfold Rm at h; have Df : ka0 < H.next := Nat.lt_of_not_le fun q => by rw [hw _ q] at Aq; cases Aq
 refine wG ?_; refine A4 fun cb hc2 => ?_; refine vG ?_; obtain ⟨x3, hx3, h⟩ := A6 h; refine Dt a0 ka0 (by assumption) hx3 ?_; refine sG ?_; subst hc2; refine A4 fun cb hc4 => ?_; refine vG ?_; refine Ae.eqA (args' := [.v (.bool x3.2)]) rfl ?_; by_cases m5 : ¬ (x3.2 = true)
 ·rw [if_neg m5] at h; refine C8  (by simpa using m5) ?_; simp (disch := omega) at m5; obtain rfl := sI h; refine sG ?_; exact EH (by exact Ei (Ext.AG (Ext.refl hw) ka0)) ((Dl.refl _).del ka0) (hP _ rfl)
 have m5 := Classical.not_not.1 m5; rw [if_pos m5] at h; refine G2  (by simpa using m5) ?_; refine sG ?_; subst hc4; refine wF Aq ?_; refine A4 fun cb hc7 => ?_; refine A4 fun cb hc8 => ?_; refine vG ?_; obtain ⟨x9, hx9, h⟩ := A6 h; refine M7  hx9 ?_; have hmL181 := @OA _ .u8 (fun (x : Bool) => .v (.bool x)); have hmF181 := fun o => KW (fun (x : Bool) => .v (.bool x)) false (z := .v (.bool false)) (o := o) (by rfl); refine sF (nd @hmL181 @hmF181) ?_; refine A9 h eA ?_ ?_
 ·intro c27 h; refine sG ?_; subst hc8; refine An eA rfl ?_; refine wG ?_; refine vO ?_; obtain rfl := sI h; refine sG ?_; refine Ar (r' := .v (.int .u8 x3.1)) (io1 ka0 (.cells ([.v (str a0.fs), .v (.int .i64 (IntKind.i64.wrap (a0.fat + 1)))])) (by exact As (Ext.AG (Ext.refl hw) ka0)) (by omega) (by simp -implicitDefEqProofs (disch := omega) [go_sem]) (by exact Bo)) rfl (.same (by exact nbA)) (hK _ rfl)
 intro c27 h; simp (disch := omega) at c27; refine sG ?_; refine A9 h rfl ?_ ?_
 ·intro c26 h; refine sG ?_; subst hc8; refine An eA rfl ?_; refine wG ?_; refine vO ?_; obtain rfl := sI h; refine sG ?_; refine Ar (r' := .v (.int .u8 x3.1)) (io1 ka0 (.cells ([.v (str a0.fs), .v (.int .i64 (IntKind.i64.wrap (a0.fat + 1)))])) (by exact As (Ext.AG (Ext.refl hw) ka0)) (by omega) (by simp -implicitDefEqProofs (disch := omega) [go_sem]) (by exact Bo)) rfl (.same (by exact nbA)) (hK _ rfl)
 intro c26 h; refine sG ?_; subst hc8; refine Ad h eA rfl ?_ ?_
 ·intro c12 h; refine wG ?_; refine vO ?_; obtain rfl := sI h; refine sG ?_; refine Ar (r' := .v (.int .u8 x3.1)) (io1 ka0 (.cells ([.v (str a0.fs), .v (.int .i64 (IntKind.i64.wrap (a0.fat + 1)))])) (by exact As (Ext.AG (Ext.refl hw) ka0)) (by omega) (by simp -implicitDefEqProofs (disch := omega) [go_sem]) (by exact Bo)) rfl (.same (by exact nbA)) (hK _ rfl)
 intro c12 h; refine vO ?_; subst hc7; refine A4 fun cb hc14 => ?_; refine vG ?_; obtain ⟨x15, hx15, h⟩ := A6 h; refine Dt ((⟨a0.fs, IntKind.i64.wrap (a0.fat + 1)⟩ : AH)) ka0 eA hx15 ?_; refine sG ?_; subst hc14; refine A4 fun cb hc16 => ?_; refine vG ?_; refine A9 h eA ?_ ?_
 ·intro c25 h; refine sG ?_; obtain ⟨x17, hx17, h⟩ := A6 h; refine IW x3.1 hx17 ?_; refine sG ?_; refine A9 h rfl ?_ ?_
  ·intro c24 h; refine sG ?_; obtain ⟨x18, hx18, h⟩ := A6 h; refine IW x15.1 hx18 ?_; refine sG ?_; refine Ae.eqA (args' := [.v (.bool (decide (x18 < 16)))]) rfl ?_; by_cases m19 : ¬ (x18 < 16)
   ·rw [if_neg m19] at h; refine C8  (by simpa using m19) ?_; simp (disch := omega) at m19; obtain rfl := sI h; refine sG ?_; exact EH (by exact Ei (Ext.AG (Ext.refl hw) ka0)) ((Dl.refl _).del ka0) (hP _ rfl)
   have m19 := Classical.not_not.1 m19; rw [if_pos m19] at h; refine G2  (by simpa using m19) ?_; refine sG ?_; subst hc16; refine wG ?_; refine A4 fun cb hc21 => ?_; refine vG ?_; obtain ⟨x22, hx22, h⟩ := A6 h; refine IW x3.1 hx22 ?_; refine sG ?_; obtain ⟨x23, hx23, h⟩ := A6 h; refine IW x15.1 hx23 ?_; refine sG ?_; subst hc21; refine vO ?_; obtain rfl := sI h; refine sG ?_; refine Ar (r' := .v (.int .u8 (orI .u8 (IntKind.u8.wrap (x22 * 16)) x23))) (io1 ka0 (.cells ([.v (str a0.fs), .v (.int .i64 (IntKind.i64.wrap ((IntKind.i64.wrap (a0.fat + 1)) + 1)))])) (by exact As (Ext.AG (Ext.refl hw) ka0)) (by omega) (by simp -implicitDefEqProofs (disch := omega) [go_sem]) (by exact Bo)) rfl (.same (by exact nbA)) (hK _ rfl)
  intro c24 h; simp (disch := omega) at c24; refine sG ?_; refine C8  rfl ?_; obtain rfl := sI h; refine sG ?_; exact EH (by exact Ei (Ext.AG (Ext.refl hw) ka0)) ((Dl.refl _).del ka0) (hP _ rfl)
 intro c25 h; simp (disch := omega) at c25; refine sG ?_; refine C8  rfl ?_; obtain rfl := sI h; refine sG ?_; exact EH (by exact Ei (Ext.AG (Ext.refl hw) ka0)) ((Dl.refl _).del ka0) (hP _ rfl)
noncomputable def GU (v15 : List UInt8) (v17 : Bool) (v18 : AH) : Option (Except Unit ((List UInt8) × AH)) :=
 if ¬ (v17 = true) then (if 1 ≤ (v15.length : Int) then (if (v15.length : Int) ≤ 200 then (some ((.ok (v15, v18)))) else (some (.error ()))) else (some (.error ()))) else (some (.error ()))
noncomputable def CU (v12 : Int) (v28 : List UInt8) (v30 : AH) : Option (((List UInt8) × Bool × Bool × Int × Bool × AH) ⊕ (((List UInt8) × Bool × AH) ⊕ (Except Unit ((List UInt8) × AH)))) :=
 (Iw v30).bind fun (x31 : Int × Bool) => some (.inl ((v28, false, decide (v12 = 32), x31.1, x31.2, v30)))
noncomputable def CJ (v8 : List UInt8) (v10 : Bool) (v11 : Bool) (v12 : Int) (v13 : Bool) (v14 : AH) : Option (((List UInt8) × Bool × Bool × Int × Bool × AH) ⊕ (((List UInt8) × Bool × AH) ⊕ (Except Unit ((List UInt8) × AH)))) :=
 if v13 = true then (if ¬ v12 = 44 then (if v12 = 92 then ((Rm ((⟨v14.fs, IntKind.i64.wrap (v14.fat + 1)⟩ : AH))).bind fun (x37 : Except Unit (Int × AH)) => orP x37 (fun (ex37 : Unit) => some (.inr (.inr (.error ex37)))) (fun (y38 : Int × AH) => gd (0 ≤ y38.1 ∧ y38.1 ≤ 255) (gd ((v8.length + ([UInt8.ofNat y38.1.toNat]).length) * 1 ≤ 140737488355328) (CU v12 (v8 ++ ([UInt8.ofNat y38.1.toNat])) y38.2)))) else ((OV ).bind fun (x42 : (List (Int × Bool))) => if ¬ ((AW x42 v12).getD false = true) then (if 32 ≤ v12 then (if v12 ≤ 126 then (if ¬ (v10 = true) then (gd (0 ≤ v12 ∧ v12 ≤ 255) (gd ((v8.length + ([UInt8.ofNat v12.toNat]).length) * 1 ≤ 140737488355328) (CU v12 (v8 ++ ([UInt8.ofNat v12.toNat])) ((⟨v14.fs, IntKind.i64.wrap (v14.fat + 1)⟩ : AH))))) else (if ¬ v12 = 32 then (if ¬ v12 = 35 then (gd (0 ≤ v12 ∧ v12 ≤ 255) (gd ((v8.length + ([UInt8.ofNat v12.toNat]).length) * 1 ≤ 140737488355328) (CU v12 (v8 ++ ([UInt8.ofNat v12.toNat])) ((⟨v14.fs, IntKind.i64.wrap (v14.fat + 1)⟩ : AH))))) else (some (.inr (.inr (.error ()))))) else (some (.inr (.inr (.error ())))))) else (some (.inr (.inr (.error ()))))) else (some (.inr (.inr (.error ()))))) else (some (.inr (.inr (.error ())))))) else (some (.inr (.inl (v8, v11, v14))))) else (some (.inr (.inl (v8, v11, v14))))
noncomputable def Pg (a0 : AH) : Option (Except Unit ((List UInt8) × AH)) :=
 (Iw a0).bind fun (x6 : Int × Bool) => (AN (fun (s : (List UInt8) × Bool × Bool × Int × Bool × AH) => CJ s.1 s.2.1 s.2.2.1 s.2.2.2.1 s.2.2.2.2.1 s.2.2.2.2.2) ([], true, false, x6.1, x6.2, a0)).bind fun y => Sum.elim (fun (e : (List UInt8) × Bool × AH) => GU e.1 e.2.1 e.2.2) (fun (q : Except Unit ((List UInt8) × AH)) => some q) y
theorem W5 {H : A2} {K : Aw → A2 → Prop} (a0 : AH) (ka0 : Nat) (Aq : H.obj ka0 = some (.cells ([.v (str a0.fs), .v (.int .i64 a0.fat)]))) {r : Except Unit ((List UInt8) × AH)} (h : Pg a0 = some r) (hP : ∀ e, r = .error e → K (.pan (G1 e)) (H.del ka0)) (hK : ∀ v : (List UInt8) × AH, r = .ok v → K (.ret (.v (str v.1))) (BE H [(ka0, .cells ([.v (str v.2.fs), .v (.int .i64 v.2.fat)]))])) : Ae prog 135 [.p ka0 0] H K := by
 refine Ah (N := 80) func135 (by kernel_rfl) rfl (by kernel_rfl) (by kernel_rfl) fun cb hcb hw hbd hnb => ?_; clear hbd hnb; subst hcb; unfold Pg at h; have Df : ka0 < H.next := Nat.lt_of_not_le fun q => by rw [hw _ q] at Aq; cases Aq
 refine A4 fun cb hc1 => ?_; refine vcK ?_; simp -implicitDefEqProofs (disch := omega) [go_sem]; subst hc1; refine A4 fun cb hc2 => ?_; refine vcK ?_; simp -implicitDefEqProofs (disch := omega) [go_sem]; subst hc2; refine A4 fun cb hc3 => ?_; refine vcK ?_; simp -implicitDefEqProofs (disch := omega) [go_sem]; subst hc3; refine A4 fun cb hc4 => ?_; refine A4 fun cb hc5 => ?_; refine vcK ?_; simp -implicitDefEqProofs (disch := omega) [go_sem]; obtain ⟨x6, hx6, h⟩ := A6 h; refine Ae.eqA (args' := [.p ka0 0]) rfl (Dt a0 ka0 (by assumption) hx6 ?_); simp -implicitDefEqProofs (disch := omega) [go_sem]; subst hc5; obtain ⟨y7, hl7q, hk7⟩ := A6 h; refine AE (fun tm' H' => ∃ n16 : Nat, ∃ v15 : List UInt8, ∃ v17 : Bool, ∃ v18 : AH, .inl (v15, v17, v18) = y7 ∧ Ext (H.del ka0) H' ∧ H.next ≤ H'.next ∧ H.next ≤ n16 ∧ n16 < H'.next ∧ ¬ ka0 = n16 ∧ tm' 3 = .os n16 v15.length ∧ tm' 5 = .v (.bool v17) ∧ H'.obj ka0 = some (.cells ([.v (str v18.fs), .v (.int .i64 v18.fat)])) ∧ H'.obj n16 = some (.row 1 (v15.map fun x => [.v (.int .u8 x.toNat)]))) ?_ fun cb hc7 => ?_
 ·rintro tm7e H7e ⟨n16, v15, v17, v18, rfl, he7e, hl7e, hr0_7e, hs0_7e, hq57, t3_7e, t5_7e, ob0_7e, or0_7e⟩
  have h : GU v15 v17 v18 = some r := hk7; unfold GU at h; simp -implicitDefEqProofs only [go_sem]; subst hc4; refine A4 fun cb hc19 => ?_; refine vcK ?_; simp -implicitDefEqProofs (disch := omega) [go_sem, t5_7e]; refine A9 h (by (simp -implicitDefEqProofs (disch := omega) [go_sem] <;> omega)) ?_ ?_
  ·intro c23 h; simp (disch := omega) at c23; simp -implicitDefEqProofs (disch := omega) [go_sem, t3_7e]; refine A9 h rfl ?_ ?_
   ·intro c22 h; simp -implicitDefEqProofs (disch := omega) [go_sem, t3_7e]; refine Ae.eqA (args' := [.v (.bool (decide ((v15.length : Int) ≤ 200)))]) rfl ?_; by_cases m20 : ¬ ((v15.length : Int) ≤ 200)
    ·rw [if_neg m20] at h; refine C8  (by simpa using m20) ?_; simp (disch := omega) at m20; have er := Option.some.inj h; subst er; simp -implicitDefEqProofs (disch := omega) [go_sem]; exact EH (by exact Ei he7e) ((Dl.refl _).del ka0) (hP _ rfl)
    have m20 := Classical.not_not.1 m20; rw [if_pos m20] at h; refine G2  (by simpa using m20) ?_; simp -implicitDefEqProofs (disch := omega) [go_sem]; subst hc19; refine A4 fun cb hc21 => ?_; refine IWp.gh (Gh.freeze (d := 3) (k := n16) (sz := 1) (es := v15.map fun x => [.v (.int .u8 x.toNat)]) (by (simp -implicitDefEqProofs (disch := omega) [go_sem, or0_7e] <;> omega)) (by (simp -implicitDefEqProofs (disch := omega) [go_sem, t3_7e] <;> omega))) ?_; refine vcK ?_; simp -implicitDefEqProofs (disch := omega) [go_sem]; subst hc21; refine vcK ?_; simp -implicitDefEqProofs only [go_sem]; have er := Option.some.inj h; subst er; simp -implicitDefEqProofs (disch := omega) [go_sem]; refine Ar (r' := .v (str v15)) (io1 ka0 (.cells ([.v (str v18.fs), .v (.int .i64 v18.fat)])) (by exact As he7e) (by omega) (by simp -implicitDefEqProofs (disch := omega) [go_sem, ob0_7e]) (by exact Bo)) rfl (.same (by exact nbA)) (hK _ rfl)
   intro c22 h; simp (disch := omega) at c22; simp -implicitDefEqProofs (disch := omega) [go_sem]; refine Ae.eqA (args' := [.v (.bool false)]) rfl (C8  rfl ?_); have er := Option.some.inj h; subst er; simp -implicitDefEqProofs (disch := omega) [go_sem]; exact EH (by exact Ei he7e) ((Dl.refl _).del ka0) (hP _ rfl)
  intro c23 h; simp (disch := omega) at c23; simp -implicitDefEqProofs (disch := omega) [go_sem]; refine Ae.eqA (args' := [.v (.bool false)]) rfl (C8  rfl ?_); have er := Option.some.inj h; subst er; simp -implicitDefEqProofs (disch := omega) [go_sem]; exact EH (by exact Ei he7e) ((Dl.refl _).del ka0) (hP _ rfl)
 refine Am ?_; refine AD (fun (s : (List UInt8) × Bool × Bool × Int × Bool × AH) tm' H' => ∃ n9 : Nat, Ext (H.del ka0) H' ∧ H.next ≤ H'.next ∧ H.next ≤ n9 ∧ n9 < H'.next ∧ ¬ ka0 = n9 ∧ tm' 0 = .p ka0 0 ∧ tm' 3 = .os n9 s.1.length ∧ tm' 4 = .v (.bool s.2.1) ∧ tm' 5 = .v (.bool s.2.2.1) ∧ tm' 6 = .v (.int .u8 s.2.2.2.1) ∧ tm' 7 = .v (.bool s.2.2.2.2.1) ∧ H'.obj ka0 = some (.cells ([.v (str s.2.2.2.2.2.fs), .v (.int .i64 s.2.2.2.2.2.fat)])) ∧ H'.obj n9 = some (.row 1 (s.1.map fun x => [.v (.int .u8 x.toNat)]))) hl7q ?_ ?_
 ·refine UpI.gh (Gh.SJ (d := 3) (sz := 1) (by omega) (by (simp -implicitDefEqProofs (disch := omega) [go_sem] <;> omega))) ?_; refine .same ⟨H.next, by exact As (Ext.AG (Ext.refl hw) ka0), by (simp -implicitDefEqProofs (disch := omega) [go_sem] <;> omega), by omega, by (simp -implicitDefEqProofs (disch := omega) [go_sem] <;> omega), by omega, ?_, ?_, ?_, ?_, ?_, ?_, ?_, ?_⟩ <;> (simp -implicitDefEqProofs (disch := omega) [go_sem, Aq] <;> omega)
 rintro I7 hI7 ⟨v8, v10, v11, v12, v13, v14⟩ x7 tm7 H7 ⟨n9, he7, hl7, kN, kO, hq58, U3, U4, jM, eM, KH, jN, eN, U5⟩ h hret7
 replace h : CJ v8 v10 v11 v12 v13 v14 = some x7 := h; unfold CJ at h; refine A4 fun cb hc24 => ?_; refine A4 fun cb hc25 => ?_; refine vcK ?_; simp -implicitDefEqProofs (disch := omega) [go_sem, jN]; refine A9 h (by (simp -implicitDefEqProofs (disch := omega) [go_sem] <;> omega)) ?_ ?_
 ·intro c56 h; simp -implicitDefEqProofs (disch := omega) [go_sem, KH]; subst hc25; refine Ad h (by (simp -implicitDefEqProofs (disch := omega) [go_sem] <;> omega)) rfl ?_ ?_
  ·intro c26 h; refine vcK ?_; simp -implicitDefEqProofs only [go_sem]; subst hc24; refine C4 (fun tm' H' => ∃ n29 : Nat, ∃ v28 : List UInt8, ∃ v30 : AH, Ext (H.del ka0) H' ∧ H7.next ≤ H'.next ∧ H.next ≤ n29 ∧ n29 < H'.next ∧ ¬ ka0 = n29 ∧ tm' 0 = .p ka0 0 ∧ tm' 3 = .os n29 v28.length ∧ tm' 4 = .v (.bool false) ∧ tm' 5 = .v (.bool (decide (v12 = 32))) ∧ H'.obj ka0 = some (.cells ([.v (str v30.fs), .v (.int .i64 v30.fat)])) ∧ H'.obj n29 = some (.row 1 (v28.map fun x => [.v (.int .u8 x.toNat)])) ∧ CU v12 v28 v30 = some x7) ?_ fun cb hc27 => ?_
   ·rintro tm27 H27 ⟨n29, v28, v30, he27, hl27, jO, jP, hq55, Xf, eO, eP, eR, jQ, jR, h⟩
    unfold CU at h; refine vcK ?_; simp -implicitDefEqProofs (disch := omega) [go_sem, Xf]; obtain ⟨x31, hx31, h⟩ := A6 h; refine Ae.eqA (args' := [.p ka0 0]) rfl (Dt v30 ka0 (by assumption) hx31 ?_); simp -implicitDefEqProofs (disch := omega) [go_sem]; have e7 := Option.some.inj h; subst e7; refine Ao hI7 ((v28, false, decide (v12 = 32), x31.1, x31.2, v30)) ?_; refine .same ⟨n29, by exact As he27, by omega, by with_reducible assumption, by with_reducible assumption, by with_reducible assumption, ?_, ?_, ?_, ?_, ?_, ?_, ?_, ?_⟩ <;> first | with_reducible assumption | (simp -implicitDefEqProofs (disch := omega) [go_sem, Xf, eO, eP, eR] <;> omega)
   refine Am ?_; refine A4 fun cb hc32 => ?_; refine vcK ?_; simp -implicitDefEqProofs (disch := omega) [go_sem, U3, eN]; subst hc32; refine A4 fun cb hc33 => ?_; refine vcK ?_; simp -implicitDefEqProofs (disch := omega) [go_sem, KH]; subst hc33; refine A4 fun cb hc34 => ?_; refine A4 fun cb hc35 => ?_; refine vcK ?_; simp -implicitDefEqProofs (disch := omega) [go_sem, KH]; subst hc35; refine Ad h (by (simp -implicitDefEqProofs (disch := omega) [go_sem] <;> omega)) rfl ?_ ?_
   ·intro c36 h; refine vcK ?_; simp -implicitDefEqProofs (disch := omega) [go_sem, U3]; obtain ⟨x37, hx37, h⟩ := A6 h; refine Ae.eqA (args' := [.p ka0 0]) rfl (W4 ((⟨v14.fs, IntKind.i64.wrap (v14.fat + 1)⟩ : AH)) ka0 (by simp -implicitDefEqProofs (disch := omega) [go_sem]) hx37 ?_ ?_)
    ·intro ex37 qx37; subst qx37; replace h := GL h; have e7 := Option.some.inj h; subst e7; have e7 := hret7 _ rfl; subst e7; replace h : some (.error ex37) = some r := hk7; have er := Option.some.inj h; subst er; simp -implicitDefEqProofs (disch := omega) [go_sem]; exact EH (by exact Ei he7) ((Dl.refl _).del ka0) (hP _ rfl)
    intro y38 qx37; subst qx37; replace h := IS h; simp -implicitDefEqProofs (disch := omega) [go_sem]; subst hc34; refine A4 fun cb hc39 => ?_; refine vcK ?_; obtain ⟨g40, h⟩ := Aj.1 h; obtain ⟨g41, h⟩ := Aj.1 h; simp (disch := omega) at g41; simp -implicitDefEqProofs (disch := omega) [go_sem, U4, U5]; subst hc39; refine vcK ?_; simp -implicitDefEqProofs (disch := omega) [go_sem]; refine hc27 _ _ ?_; refine .same ⟨n9, (v8 ++ ([UInt8.ofNat y38.1.toNat])), y38.2, by exact As he7, by (simp -implicitDefEqProofs (disch := omega) [go_sem] <;> omega), by with_reducible assumption, by (simp -implicitDefEqProofs (disch := omega) [go_sem] <;> omega), by with_reducible assumption, ?_, ?_, ?_, ?_, ?_, ?_, h⟩ <;> (simp -implicitDefEqProofs (disch := omega) [go_sem, U3] <;> omega)
   intro c36 h; refine vcK ?_; simp -implicitDefEqProofs (disch := omega) [go_sem]; obtain ⟨x42, hx42, h⟩ := A6 h; refine Ae.eqA (args' := []) rfl (M7  hx42 ?_); have hmL181 := @OA _ .u8 (fun (x : Bool) => .v (.bool x)); have hmF181 := fun o => KW (fun (x : Bool) => .v (.bool x)) false (z := .v (.bool false)) (o := o) (by rfl); simp -implicitDefEqProofs (disch := omega) [go_sem, KH, hmL181, hmF181]; refine A9 h (by (simp -implicitDefEqProofs (disch := omega) [go_sem] <;> omega)) ?_ ?_
   ·intro c54 h; simp (disch := omega) at c54; simp -implicitDefEqProofs (disch := omega) [go_sem, KH]; refine A9 h rfl ?_ ?_
    ·intro c53 h; simp -implicitDefEqProofs (disch := omega) [go_sem, KH]; refine A9 h rfl ?_ ?_
     ·intro c52 h; simp -implicitDefEqProofs (disch := omega) [go_sem, jM]; refine A9 h (by (simp -implicitDefEqProofs (disch := omega) [go_sem] <;> omega)) ?_ ?_
      ·intro c51 h; simp (disch := omega) at c51; simp -implicitDefEqProofs (disch := omega) [go_sem]; refine Ae.eqA (args' := [.v (.bool true)]) rfl (G2  rfl ?_); simp -implicitDefEqProofs (disch := omega) [go_sem]; subst hc34; refine A4 fun cb hc43 => ?_; refine vcK ?_; obtain ⟨g44, h⟩ := Aj.1 h; obtain ⟨g45, h⟩ := Aj.1 h; simp (disch := omega) at g45; simp -implicitDefEqProofs (disch := omega) [go_sem, U4, KH, U5]; subst hc43; refine vcK ?_; simp -implicitDefEqProofs (disch := omega) [go_sem]; refine hc27 _ _ ?_; refine .same ⟨n9, (v8 ++ ([UInt8.ofNat v12.toNat])), ((⟨v14.fs, IntKind.i64.wrap (v14.fat + 1)⟩ : AH)), by exact As he7, by (simp -implicitDefEqProofs (disch := omega) [go_sem] <;> omega), by with_reducible assumption, by (simp -implicitDefEqProofs (disch := omega) [go_sem] <;> omega), by with_reducible assumption, ?_, ?_, ?_, ?_, ?_, ?_, h⟩ <;> (simp -implicitDefEqProofs (disch := omega) [go_sem, U3] <;> omega)
      intro c51 h; simp (disch := omega) at c51; simp -implicitDefEqProofs (disch := omega) [go_sem, KH]; refine A9 h (by (simp -implicitDefEqProofs (disch := omega) [go_sem] <;> omega)) ?_ ?_
      ·intro c50 h; simp -implicitDefEqProofs (disch := omega) [go_sem, KH]; refine Ae.eqA (args' := [.v (.bool (decide (¬ v12 = 35)))]) (by (simp -implicitDefEqProofs (disch := omega) [go_sem] <;> omega)) ?_; by_cases m46 : ¬ (¬ v12 = 35)
       ·rw [if_neg m46] at h; refine C8  (by simpa using m46) ?_; simp (disch := omega) at m46; have e7 := Option.some.inj h; subst e7; have e7 := hret7 _ rfl; subst e7; replace h : some ((.error ())) = some r := hk7; have er := Option.some.inj h; subst er; simp -implicitDefEqProofs (disch := omega) [go_sem]; exact EH (by exact Ei he7) ((Dl.refl _).del ka0) (hP _ rfl)
       have m46 := Classical.not_not.1 m46; rw [if_pos m46] at h; refine G2  (by simpa using m46) ?_; simp -implicitDefEqProofs (disch := omega) [go_sem]; subst hc34; refine A4 fun cb hc47 => ?_; refine vcK ?_; obtain ⟨g48, h⟩ := Aj.1 h; obtain ⟨g49, h⟩ := Aj.1 h; simp (disch := omega) at g49; simp -implicitDefEqProofs (disch := omega) [go_sem, U4, KH, U5]; subst hc47; refine vcK ?_; simp -implicitDefEqProofs (disch := omega) [go_sem]; refine hc27 _ _ ?_; refine .same ⟨n9, (v8 ++ ([UInt8.ofNat v12.toNat])), ((⟨v14.fs, IntKind.i64.wrap (v14.fat + 1)⟩ : AH)), by exact As he7, by (simp -implicitDefEqProofs (disch := omega) [go_sem] <;> omega), by with_reducible assumption, by (simp -implicitDefEqProofs (disch := omega) [go_sem] <;> omega), by with_reducible assumption, ?_, ?_, ?_, ?_, ?_, ?_, h⟩ <;> (simp -implicitDefEqProofs (disch := omega) [go_sem, U3] <;> omega)
      intro c50 h; simp (disch := omega) at c50; simp -implicitDefEqProofs (disch := omega) [go_sem]; refine Ae.eqA (args' := [.v (.bool false)]) rfl (C8  rfl ?_); have e7 := Option.some.inj h; subst e7; have e7 := hret7 _ rfl; subst e7; replace h : some ((.error ())) = some r := hk7; have er := Option.some.inj h; subst er; simp -implicitDefEqProofs (disch := omega) [go_sem]; exact EH (by exact Ei he7) ((Dl.refl _).del ka0) (hP _ rfl)
     intro c52 h; simp (disch := omega) at c52; simp -implicitDefEqProofs (disch := omega) [go_sem]; refine Ae.eqA (args' := [.v (.bool false)]) rfl (C8  rfl ?_); have e7 := Option.some.inj h; subst e7; have e7 := hret7 _ rfl; subst e7; replace h : some ((.error ())) = some r := hk7; have er := Option.some.inj h; subst er; simp -implicitDefEqProofs (disch := omega) [go_sem]; exact EH (by exact Ei he7) ((Dl.refl _).del ka0) (hP _ rfl)
    intro c53 h; simp (disch := omega) at c53; simp -implicitDefEqProofs (disch := omega) [go_sem]; refine Ae.eqA (args' := [.v (.bool false)]) rfl (C8  rfl ?_); have e7 := Option.some.inj h; subst e7; have e7 := hret7 _ rfl; subst e7; replace h : some ((.error ())) = some r := hk7; have er := Option.some.inj h; subst er; simp -implicitDefEqProofs (disch := omega) [go_sem]; exact EH (by exact Ei he7) ((Dl.refl _).del ka0) (hP _ rfl)
   intro c54 h; simp (disch := omega) at c54; simp -implicitDefEqProofs (disch := omega) [go_sem]; refine Ae.eqA (args' := [.v (.bool false)]) rfl (C8  rfl ?_); have e7 := Option.some.inj h; subst e7; have e7 := hret7 _ rfl; subst e7; replace h : some ((.error ())) = some r := hk7; have er := Option.some.inj h; subst er; simp -implicitDefEqProofs (disch := omega) [go_sem]; exact EH (by exact Ei he7) ((Dl.refl _).del ka0) (hP _ rfl)
  intro c26 h; simp (disch := omega) at c26; refine vcK ?_; simp -implicitDefEqProofs only [go_sem]; have e7 := Option.some.inj h; subst e7; have hy7 := hret7 _ rfl; refine hc7 _ _ ?_; refine .same ⟨n9, v8, v11, v14, hy7, by exact As he7, by with_reducible assumption, by with_reducible assumption, by with_reducible assumption, by with_reducible assumption, ?_, ?_, ?_, ?_⟩ <;> first | with_reducible assumption | (simp -implicitDefEqProofs (disch := omega) [go_sem, U4, eM] <;> omega)
 intro c56 h; simp (disch := omega) at c56; simp -implicitDefEqProofs (disch := omega) [go_sem]; subst hc25; refine Ap (by (simp -implicitDefEqProofs (disch := omega) [go_sem] <;> omega)) rfl ?_; refine vcK ?_; simp -implicitDefEqProofs only [go_sem]; have e7 := Option.some.inj h; subst e7; have hy7 := hret7 _ rfl; refine hc7 _ _ ?_; refine .same ⟨n9, v8, v11, v14, hy7, by exact As he7, by with_reducible assumption, by with_reducible assumption, by with_reducible assumption, by with_reducible assumption, ?_, ?_, ?_, ?_⟩ <;> first | with_reducible assumption | (simp -implicitDefEqProofs (disch := omega) [go_sem, U4, eM] <;> omega)
noncomputable def Ro (a0c : AH) : Option (Except Unit (S89 × AH)) :=
 (U1 a0c).bind fun (x3 : Except Unit ((List UInt8) × AH)) => orP x3 (fun (ex3 : Unit) => some (.error ex3)) (fun (y4 : (List UInt8) × AH) => (Pg y4.2).bind fun (x6 : Except Unit ((List UInt8) × AH)) => orP x6 (fun (ex6 : Unit) => some (.error ex6)) (fun (y7 : (List UInt8) × AH) => some ((.ok (((⟨y4.1, y7.1⟩ : S89), y7.2))))))
theorem W6 {H : A2} {K : Aw → A2 → Prop} (a0c : AH) (ka0 : Nat) (ka0c : Nat) (Aq : H.obj ka0 = some (.cells ([.p ka0c 0]))) (oka0c : H.obj ka0c = some (.cells ([.v (str a0c.fs), .v (.int .i64 a0c.fat)]))) (Cl : ¬ ka0 = ka0c) {r : Except Unit (S89 × AH)} (h : Ro a0c = some r) (hP : ∀ e, r = .error e → K (.pan (G1 e)) (H.del ka0c)) (hK : ∀ v : S89 × AH, r = .ok v → K (.ret (.ag ([.v (str v.1.fType), .v (str v.1.Ac)]))) (BE H [(ka0c, .cells ([.v (str v.2.fs), .v (.int .i64 v.2.fat)]))])) : Ae prog 133 [.p ka0 0] H K := by
 refine Ah (N := 9) func133 (by kernel_rfl) rfl (by kernel_rfl) (by kernel_rfl) fun cb hcb hw hbd hnb => ?_; clear hbd hnb; subst hcb; unfold Ro at h; have Df : ka0 < H.next := Nat.lt_of_not_le fun q => by rw [hw _ q] at Aq; cases Aq
 have hka0c : ka0c < H.next := Nat.lt_of_not_le fun q => by rw [hw _ q] at oka0c; cases oka0c
 have GB : ¬ ka0c = ka0 := fun q => Cl q.symm; refine wG ?_; refine A4 fun cb hc2 => ?_; refine vF Aq ?_; obtain ⟨x3, hx3, h⟩ := A6 h; refine W3 a0c ka0c (eF oka0c) hx3 ?_ ?_
 ·intro ex3 qx3; subst qx3; replace h := GL h; obtain rfl := sI h; refine sG ?_; exact EH (by exact Ei (Ext.AG (Ext.refl hw) ka0c)) ((Dl.refl _).del ka0c) (hP _ rfl)
 intro y4 qx3; subst qx3; replace h := IS h; refine sG ?_; subst hc2; refine A4 fun cb hc5 => ?_; refine vF Aq ?_; obtain ⟨x6, hx6, h⟩ := A6 h; refine W5 y4.2 ka0c eA hx6 ?_ ?_
 ·intro ex6 qx6; subst qx6; replace h := GL h; obtain rfl := sI h; refine sG ?_; exact EH (by exact Ei (Ext.AG (Ext.refl hw) ka0c)) ((Dl.refl _).del ka0c) (hP _ rfl)
 intro y7 qx6; subst qx6; replace h := IS h; simp -implicitDefEqProofs (disch := omega) [go_sem, bdP]; subst hc5; refine vO ?_; obtain rfl := sI h; refine sG ?_; refine Ar (r' := .ag [.v (str y4.1), .v (str y7.1)]) (io1 ka0c (.cells ([.v (str y7.2.fs), .v (.int .i64 y7.2.fat)])) (by exact As (Ext.AG (Ext.refl hw) ka0c)) (by omega) (by simp -implicitDefEqProofs (disch := omega) [go_sem]) (by exact Bo)) rfl (.same (by exact nbA)) (hK _ rfl)
noncomputable def MC (v9 : List S89) (v11 : AH) : Option ((List S89) × Int) :=
 some (v9, 0)
noncomputable def Eb (a0 : List UInt8) (v6 : List S89) (v8 : AH) : Option (((List S89) × AH) ⊕ (((List S89) × AH) ⊕ ((List S89) × Int))) :=
 if ¬ a0 = [] then ((Ro v8).bind fun (x17 : Except Unit (S89 × AH)) => orP x17 (fun (ex17 : Unit) => some (.inr (.inr ([], 160)))) (fun (y18 : S89 × AH) => gd ((v6.length + ([y18.1]).length) * 32 ≤ 140737488355328) (if (((v6 ++ ([y18.1])).length : Int)) ≤ 16 then ((Iw y18.2).bind fun (x24 : Int × Bool) => if ¬ (x24.2 = true) then (some (.inr (.inl ((v6 ++ ([y18.1]), y18.2))))) else (some (.inl ((v6 ++ ([y18.1]), (⟨y18.2.fs, IntKind.i64.wrap (y18.2.fat + 1)⟩ : AH)))))) else (some (.inr (.inr ([], 160))))))) else (some (.inr (.inl (v6, v8))))
noncomputable def F99 (a0 : List UInt8) : Option ((List S89) × Int) :=
 (AN (fun (s : (List S89) × AH) => Eb a0 s.1 s.2) ([], (⟨a0, 0⟩ : AH))).bind fun y => Sum.elim (fun (e : (List S89) × AH) => MC e.1 e.2) (fun (q : (List S89) × Int) => some q) y
theorem Zf {H : A2} {K : Aw → A2 → Prop} (a0 : List UInt8) {r : (List S89) × Int} (h : F99 a0 = some r) (hK : K (.ret (.tu [.sl 2 (r.1.map fun x => [.v (str x.fType), .v (str x.Ac)]), .v (.int .i64 r.2)])) H) : Ae prog 99 [.v (str a0)] H K := by
 refine P0 (N := 39) func99 (by kernel_rfl) rfl (by kernel_rfl) (by kernel_rfl) fun cb hcb hw => ?_; subst hcb; unfold F99 at h; refine KY fun cb hc1 => ?_; refine Hw.of ?_; refine vcK ?_; simp -implicitDefEqProofs (disch := omega) [go_sem]; subst hc1; refine KY fun cb hc2 => ?_; refine Nh (by kernel_rfl) ?_; simp (decide := true) only [Mq, R6, P3]; simp -implicitDefEqProofs (disch := omega) [go_sem]; subst hc2; refine Hw.of ?_; refine A4 fun cb hc3 => ?_; refine vcK ?_; simp -implicitDefEqProofs (disch := omega) [go_sem, bdP]; subst hc3; refine A4 fun cb hc4 => ?_; refine vcK ?_; simp -implicitDefEqProofs (disch := omega) [go_sem]; subst hc4; obtain ⟨y5, hl5q, hk5⟩ := A6 h; refine C4 (fun tm' H' => ∃ n10 : Nat, ∃ v9 : List S89, ∃ v11 : AH, .inl (v9, v11) = y5 ∧ Ext H H' ∧ H.next + 4 ≤ H'.next ∧ H.next ≤ n10 ∧ n10 < H'.next ∧ ¬ H.next = n10 ∧ ¬ H.next + 1 = n10 ∧ ¬ H.next + 2 = n10 ∧ ¬ H.next + 3 = n10 ∧ tm' 2 = .p H.next 0 ∧ tm' 3 = .p (H.next + 1) 0 ∧ H'.obj H.next = some (.cells ([.os n10 v9.length])) ∧ H'.obj (H.next + 1) = some (.cells ([.v (.int .i64 0)])) ∧ H'.obj (H.next + 2) = some (.cells ([.v (str v11.fs), .v (.int .i64 v11.fat)])) ∧ H'.obj (H.next + 3) = some (.cells ([.p (H.next + 2) 0])) ∧ H'.obj n10 = some (.row 2 (v9.map fun x => [.v (str x.fType), .v (str x.Ac)]))) ?_ fun cb hc5 => ?_
 ·rintro tm5e H5e ⟨n10, v9, v11, rfl, he5e, hl5e, hr0_5e, hs0_5e, hq27, hq28, hq29, hq30, t2_5e, t3_5e, ob0_5e, ob1_5e, ob2_5e, ob3_5e, or0_5e⟩
  have h : MC v9 v11 = some r := hk5; unfold MC at h; refine A4 fun cb hc12 => ?_; refine vcK ?_; simp -implicitDefEqProofs (disch := omega) [go_sem, t2_5e, t3_5e, ob0_5e, ob1_5e]; subst hc12; refine IWp.gh (Gh.WO (k := n10) (kb := H.next) (cs := [.os n10 v9.length]) (cs' := [.sl 2 (v9.map fun x => [.v (str x.fType), .v (str x.Ac)])]) (by simp -implicitDefEqProofs (disch := omega) [go_sem]) (by omega) (Eh.cons (FzK.row _ _ _ (by simp -implicitDefEqProofs (disch := omega) [go_sem, or0_5e]) (by simp)) Eh.nil)) ?_; refine vcK ?_; simp -implicitDefEqProofs only [go_sem]; have er := Option.some.inj h; subst er; refine VM ?_; refine BF.eqA (args' := [.p H.next 0, .p (H.next + 1) 0]) (by (simp -implicitDefEqProofs (disch := omega) [go_sem]; done)) (TH ?_); simp -implicitDefEqProofs (disch := omega) [go_sem, t2_5e, t3_5e]; refine Ax (by exact As he5e) rfl nbA hK
 refine Am ?_; refine AD (fun (s : (List S89) × AH) tm' H' => ∃ n7 : Nat, Ext H H' ∧ H.next + 4 ≤ H'.next ∧ H.next ≤ n7 ∧ n7 < H'.next ∧ ¬ H.next = n7 ∧ ¬ H.next + 1 = n7 ∧ ¬ H.next + 2 = n7 ∧ ¬ H.next + 3 = n7 ∧ tm' 0 = .v (str a0) ∧ tm' 2 = .p H.next 0 ∧ tm' 3 = .p (H.next + 1) 0 ∧ tm' 4 = .p (H.next + 3) 0 ∧ tm' 5 = .fn (.func 133) [] [.p (H.next + 3) 0] ∧ H'.obj H.next = some (.cells ([.os n7 s.1.length])) ∧ H'.obj (H.next + 1) = some (.cells ([.v (.int .i64 0)])) ∧ H'.obj (H.next + 2) = some (.cells ([.v (str s.2.fs), .v (.int .i64 s.2.fat)])) ∧ H'.obj (H.next + 3) = some (.cells ([.p (H.next + 2) 0])) ∧ H'.obj n7 = some (.row 2 (s.1.map fun x => [.v (str x.fType), .v (str x.Ac)]))) hl5q ?_ ?_
 ·refine UpI.gh (Gh.HA (kb := H.next) (sz := 2) (cs := [.v (.slice none 0 0)]) (cs' := [.os (H.next + 4) 0]) (by omega) (by (simp -implicitDefEqProofs (disch := omega) [go_sem] <;> omega)) (NzL.row NzL.nil)) ?_; refine .same ⟨H.next + 4, by exact As (Ext.refl hw), by (simp -implicitDefEqProofs (disch := omega) [go_sem] <;> omega), by omega, by (simp -implicitDefEqProofs (disch := omega) [go_sem] <;> omega), by omega, by omega, by omega, by omega, ?_, ?_, ?_, ?_, ?_, ?_, ?_, ?_, ?_, ?_⟩ <;> (simp -implicitDefEqProofs (disch := omega) [go_sem] <;> omega)
 rintro I5 hI5 ⟨v6, v8⟩ x5 tm5 H5 ⟨n7, he5, hl5, kP, kQ, hq31, hq32, hq33, hq34, DO, NT, GJ, Ml, KE, NH, Q7, kR, Q8, eS⟩ h hret5
 replace h : Eb a0 v6 v8 = some x5 := h; unfold Eb at h; refine A4 fun cb hc13 => ?_; refine A4 fun cb hc14 => ?_; refine vcK ?_; simp -implicitDefEqProofs (disch := omega) [go_sem, DO]; subst hc14; refine Ad h (by (simp -implicitDefEqProofs (disch := omega) [go_sem] <;> omega)) rfl ?_ ?_
 ·intro c15 h; refine vcK ?_; simp -implicitDefEqProofs only [go_sem]; subst hc13; refine Am ?_; refine A4 fun cb hc16 => ?_; refine KR [] [0, 1, 2, 3, 4, 5] (by kernel_rfl) (by kernel_rfl) (fun _ _ _ _ _ _ ho h => VN (by kernel_rfl) ho h) ?_; simp -implicitDefEqProofs (disch := omega) [go_sem, NT, KE, NH]; obtain ⟨x17, hx17, h⟩ := A6 h; refine Ae.eqA (args' := [.p (H.next + 3) 0]) rfl (W6 v8 (H.next + 3) (H.next + 2) (by assumption) (by assumption) (by omega) hx17 ?_ ?_)
  ·intro ex17 qx17; subst qx17; replace h := GL h; have e5 := Option.some.inj h; subst e5; have e5 := hret5 _ rfl; subst e5; replace h : some ([], 160) = some r := hk5; have er := Option.some.inj h; subst er; simp -implicitDefEqProofs (disch := omega) [go_sem]; refine Q2 ?_; refine BF.eqA (args' := [.p H.next 0, .p (H.next + 1) 0]) (by (simp -implicitDefEqProofs (disch := omega) [go_sem]; done)) (NM H.next (H.next + 1) (.os n7 v6.length) (.v (.int .i64 0)) (by simp -implicitDefEqProofs (disch := omega) [go_sem, NH]) (by simp -implicitDefEqProofs (disch := omega) [go_sem, Q7]) (by omega) ?_); simp -implicitDefEqProofs (disch := omega) [go_sem, NT, GJ]; refine Ar (J := H) (r' := _) (Ext.Cx (by exact As he5)) rfl (.wk _ (.tu [.sl 2 (([] : List S89).map fun x => [.v (str x.fType), .v (str x.Ac)]), .v (.int .i64 160)]) (by repeat (first | exact WkL.nil | refine WkL.cons ?_ ?_ | exact Wk.refl _ | exact Wk.nil _ | refine Wk.tuL ?_)) (by exact nbA)) hK
  intro y18 qx17; subst qx17; replace h := IS h; obtain ⟨g19, h⟩ := Aj.1 h; simp (disch := omega) at g19; simp -implicitDefEqProofs (disch := omega) [go_sem, NT, NH, eS]; subst hc16; refine A4 fun cb hc20 => ?_; refine vcK ?_; simp -implicitDefEqProofs (disch := omega) [go_sem, NT]; refine Ae.eqA (args' := [.v (.bool (decide ((((v6 ++ ([y18.1])).length : Int)) ≤ 16)))]) (by (simp -implicitDefEqProofs (disch := omega) [go_sem] <;> omega)) ?_; by_cases m21 : ¬ ((((v6 ++ ([y18.1])).length : Int)) ≤ 16)
  ·rw [if_neg m21] at h; refine C8  (by simpa using m21) ?_; simp (disch := omega) at m21; have e5 := Option.some.inj h; subst e5; have e5 := hret5 _ rfl; subst e5; replace h : some ([], 160) = some r := hk5; have er := Option.some.inj h; subst er; simp -implicitDefEqProofs (disch := omega) [go_sem]; refine Q2 ?_; refine BF.eqA (args' := [.p H.next 0, .p (H.next + 1) 0]) (by (simp -implicitDefEqProofs (disch := omega) [go_sem]; done)) (NM H.next (H.next + 1) (.os n7 (v6 ++ ([y18.1])).length) (.v (.int .i64 0)) (by simp -implicitDefEqProofs (disch := omega) [go_sem]) (by simp -implicitDefEqProofs (disch := omega) [go_sem, Q7]) (by omega) ?_); simp -implicitDefEqProofs (disch := omega) [go_sem, NT, GJ]; refine Ar (J := H) (r' := _) (Ext.Cx (by exact As he5)) rfl (.wk _ (.tu [.sl 2 (([] : List S89).map fun x => [.v (str x.fType), .v (str x.Ac)]), .v (.int .i64 160)]) (by repeat (first | exact WkL.nil | refine WkL.cons ?_ ?_ | exact Wk.refl _ | exact Wk.nil _ | refine Wk.tuL ?_)) (by exact nbA)) hK
  have m21 := Classical.not_not.1 m21; rw [if_pos m21] at h; refine G2  (by simpa using m21) ?_; simp (disch := omega) at m21; simp -implicitDefEqProofs (disch := omega) [go_sem]; subst hc20; refine A4 fun cb hc22 => ?_; refine A4 fun cb hc23 => ?_; refine vcK ?_; simp -implicitDefEqProofs (disch := omega) [go_sem, Ml, Q8]; obtain ⟨x24, hx24, h⟩ := A6 h; refine Ae.eqA (args' := [.p (H.next + 2) 0]) rfl (Dt y18.2 (H.next + 2) (by simp -implicitDefEqProofs (disch := omega) [go_sem]) hx24 ?_); simp -implicitDefEqProofs (disch := omega) [go_sem]; subst hc23; refine A4 fun cb hc25 => ?_; refine vcK ?_; simp -implicitDefEqProofs (disch := omega) [go_sem]; subst hc25; refine Ad h (by (simp -implicitDefEqProofs (disch := omega) [go_sem] <;> omega)) rfl ?_ ?_
  ·intro c26 h; simp (disch := omega) at c26; refine vcK ?_; simp -implicitDefEqProofs only [go_sem]; have e5 := Option.some.inj h; subst e5; have hy5 := hret5 _ rfl; refine hc5 _ _ ?_; refine .same ⟨n7, (v6 ++ ([y18.1])), y18.2, hy5, by exact As he5, by (simp -implicitDefEqProofs (disch := omega) [go_sem] <;> omega), by with_reducible assumption, by (simp -implicitDefEqProofs (disch := omega) [go_sem] <;> omega), by with_reducible assumption, by with_reducible assumption, by with_reducible assumption, by with_reducible assumption, ?_, ?_, ?_, ?_, ?_, ?_, ?_⟩ <;> (simp -implicitDefEqProofs (disch := omega) [go_sem, NT, GJ, Q7, Q8] <;> omega)
  intro c26 h; simp (disch := omega) at c26; refine vcK ?_; simp -implicitDefEqProofs only [go_sem]; subst hc22; refine vcK ?_; simp -implicitDefEqProofs (disch := omega) [go_sem, Ml, Q8]; have e5 := Option.some.inj h; subst e5; refine Ao hI5 ((v6 ++ ([y18.1]), (⟨y18.2.fs, IntKind.i64.wrap (y18.2.fat + 1)⟩ : AH))) ?_; refine .same ⟨n7, by exact As he5, by (simp -implicitDefEqProofs (disch := omega) [go_sem] <;> omega), by with_reducible assumption, by (simp -implicitDefEqProofs (disch := omega) [go_sem] <;> omega), by with_reducible assumption, by with_reducible assumption, by with_reducible assumption, by with_reducible assumption, ?_, ?_, ?_, ?_, ?_, ?_, ?_, ?_, ?_, ?_⟩ <;> (simp -implicitDefEqProofs (disch := omega) [go_sem, DO, NT, GJ, Ml, KE, Q7, Q8] <;> omega)
 intro c15 h; simp (disch := omega) at c15; refine vcK ?_; simp -implicitDefEqProofs only [go_sem]; have e5 := Option.some.inj h; subst e5; have hy5 := hret5 _ rfl; refine hc5 _ _ ?_; refine .same ⟨n7, v6, v8, hy5, by exact As he5, by with_reducible assumption, by with_reducible assumption, by with_reducible assumption, by with_reducible assumption, by with_reducible assumption, by with_reducible assumption, by with_reducible assumption, ?_, ?_, ?_, ?_, ?_, ?_, ?_⟩ <;> first | with_reducible assumption | (simp -implicitDefEqProofs (disch := omega) [go_sem, NT, GJ] <;> omega)
end Go.Idl
namespace Go.Idl
set_option maxHeartbeats 8000000
set_option pp.deepTerms false
set_option maxRecDepth 60000
open Go Go.Proofs.Tryz
noncomputable def F63 (Ag : List (List UInt8 × S39)) (Ak : List (List UInt8 × (List UInt8))) (Au : Option S33) (a1 : List UInt8) : Option (Bool × (Option S33)) :=
 (F98 a1 ([10]) 4).bind fun (x3 : (List (List UInt8))) => if (x3.length : Int) < 4 then (some (false, Au)) else (gd (2 < x3.length) ((F99 (x3.getD 2 [])).bind fun (x10 : (List S89) × Int) => (F60 x10.1).bind fun (x12 : (List UInt8) × Int) => gd (3 < x3.length) ((F66 (x3.getD 3 [])).bind fun (x15 : (List (List (List UInt8))) × Int) => gd (x15.1.length = 8) (if x10.2 = 0 then (if x12.1 = (x3.getD 2 []) then (if x15.2 = 0 then (gd (0 < x3.length) (gd (1 < x3.length) ((F27 Ag Ak Au (⟨x3.getD 0 [], x3.getD 1 [], x10.1, x15.1⟩ : S33)).bind fun (x20 : Int × (Option S33)) => some ((decide (x20.1 = 0), x20.2))))) else (some (false, Au))) else (some (false, Au))) else (some (false, Au))))))
theorem Zg {H : A2} {K : Aw → A2 → Prop} (Ag : List (List UInt8 × S39)) (Ak : List (List UInt8 × (List UInt8))) (Au : Option S33) (a1 : List UInt8) (ka0 : Nat) (Aa : Nat) (Ab : Nat) (Aq : H.obj ka0 = some (.cells ([.mp Aa, .mp Ab, AY (fun (x : S33) => .v (str x.A7) :: .v (str x.A8) :: .sl 2 (x.fDn.map fun x => [.v (str x.fType), .v (str x.Ac)]) :: (x.A3.map fun x => .sl 1 (x.map fun x => [.v (str x)]))) Au]))) (Ai : H.obj Aa = some (.map (mE (fun (x : S39) => .ag (.v (str x.A7) :: .v (str x.A8) :: (x.A3.map fun x => .sl 1 (x.map fun x => [.v (str x)])))) Ag))) (Al : H.obj Ab = some (.map (mE (fun (x : List UInt8) => .v (str x)) Ak))) (hV : VOK prog H) {r : Bool × (Option S33)} (h : F63 Ag Ak Au a1 = some r) (hK : K (.ret (.v (.bool r.1))) (BE H [(ka0, .cells ([.mp Aa, .mp Ab, AY (fun (x : S33) => .v (str x.A7) :: .v (str x.A8) :: .sl 2 (x.fDn.map fun x => [.v (str x.fType), .v (str x.Ac)]) :: (x.A3.map fun x => .sl 1 (x.map fun x => [.v (str x)]))) r.2]))])) : Ae prog 63 [.p ka0 0, .v (str a1)] H K := by
 refine Ah (N := 63) func63 (by kernel_rfl) rfl (by kernel_rfl) (by kernel_rfl) fun cb hcb hw hbd hnb => ?_; clear hbd hnb; subst hcb; unfold F63 at h; have Df : ka0 < H.next := Nat.lt_of_not_le fun q => by rw [hw _ q] at Aq; cases Aq
 have BI : Aa < H.next := Nat.lt_of_not_le fun q => by rw [hw _ q] at Ai; cases Ai
 have BJ : Ab < H.next := Nat.lt_of_not_le fun q => by rw [hw _ q] at Al; cases Al
 have Cl : ¬ ka0 = Aa := fun q => by rw [q] at Aq; rw [Aq] at Ai; cases Ai
 have GB : ¬ Aa = ka0 := fun q => Cl q.symm; have DP : ¬ ka0 = Ab := fun q => by rw [q] at Aq; rw [Aq] at Al; cases Al
 have La : ¬ Ab = ka0 := fun q => DP q.symm; refine wG ?_; refine A4 fun cb hc2 => ?_; refine vG ?_; obtain ⟨x3, hx3, h⟩ := A6 h; refine Z2 a1 ([10]) 4 (by exact hV.of rfl) hx3 ?_; refine sG ?_; subst hc2; refine A4 fun cb hc4 => ?_; refine wG ?_; refine Ad h eA rfl ?_ ?_
 ·intro c6 h; refine wG ?_; refine vO ?_; obtain rfl := sI h; refine sG ?_; refine Ar (r' := .v (.bool false)) (io1 ka0 (.cells ([.mp Aa, .mp Ab, AY (fun (x : S33) => .v (str x.A7) :: .v (str x.A8) :: .sl 2 (x.fDn.map fun x => [.v (str x.fType), .v (str x.Ac)]) :: (x.A3.map fun x => .sl 1 (x.map fun x => [.v (str x)]))) Au])) (by exact As (Ext.AG (Ext.refl hw) ka0)) (by omega) (by with_reducible assumption) (by exact Bo)) rfl (.same (by exact nbA)) hK
 intro c6 h; simp (disch := omega) at c6; refine vO ?_; subst hc4; refine A4 fun cb hc8 => ?_; obtain ⟨g9, h⟩ := Aj.1 h; refine vG ?_; obtain ⟨x10, hx10, h⟩ := A6 h; refine Ae.eqA eA (Zf (x3.getD 2 []) hx10 ?_); refine sG ?_; subst hc8; refine A4 fun cb hc11 => ?_; refine vG ?_; obtain ⟨x12, hx12, h⟩ := A6 h; refine To x10.1 hx12 ?_; refine sG ?_; subst hc11; refine A4 fun cb hc13 => ?_; obtain ⟨g14, h⟩ := Aj.1 h; refine vG ?_; obtain ⟨x15, hx15, h⟩ := A6 h; refine Ae.eqA eA (U0 (x3.getD 3 []) (by exact hV.of rfl) hx15 ?_); obtain ⟨g16, h⟩ := Aj.1 h; refine sF g16 ?_; subst hc13; refine A4 fun cb hc17 => ?_; refine AQ [] [0, 1, 2, 3, 4, 5, 6, 7, 8, 9, 10, 11, 12, 13, 14, 15, 16, 17, 18, 19, 20, 21, 22, 23, 24, 25, 26, 27] (by kernel_rfl) (by kernel_rfl) (fun _ _ _ _ h => h) ?_; refine sG ?_; refine A9 h rfl ?_ ?_
 ·intro c23 h; refine sG ?_; refine A9 h eA ?_ ?_
  ·intro c22 h; simp (disch := omega) at c22; refine sG ?_; refine A9 h rfl ?_ ?_
   ·intro c21 h; obtain ⟨g18, h⟩ := Aj.1 h; obtain ⟨g19, h⟩ := Aj.1 h; simp -implicitDefEqProofs (disch := omega) [go_sem, bdP, g16]; obtain ⟨x20, hx20, h⟩ := A6 h; refine Ae.eqA (args' := [.p ka0 0, .ag (.v (str (x3.getD 0 [])) :: .v (str (x3.getD 1 [])) :: .sl 2 (x10.1.map fun x => [.v (str x.fType), .v (str x.Ac)]) :: (x15.1.map fun x => .sl 1 (x.map fun x => [.v (str x)])))]) eA (Ae.wkL (args' := [.p ka0 0, .ag (.v (str ((⟨x3.getD 0 [], x3.getD 1 [], x10.1, x15.1⟩ : S33).A7)) :: .v (str ((⟨x3.getD 0 [], x3.getD 1 [], x10.1, x15.1⟩ : S33).A8)) :: .sl 2 (((⟨x3.getD 0 [], x3.getD 1 [], x10.1, x15.1⟩ : S33).fDn).map fun x => [.v (str x.fType), .v (str x.Ac)]) :: (((⟨x3.getD 0 [], x3.getD 1 [], x10.1, x15.1⟩ : S33).A3).map fun x => .sl 1 (x.map fun x => [.v (str x)])))]) (by repeat (first | exact WkL.nil | refine WkL.cons ?_ ?_ | exact Wk.refl _)) (OS Ag Ak Au (⟨x3.getD 0 [], x3.getD 1 [], x10.1, x15.1⟩ : S33) ka0 Aa Ab (eF Aq) (eF Ai) (eF Al) hx20 ?_)); refine sF g16 ?_; subst hc17; refine vO ?_; obtain rfl := sI h; refine sG ?_; refine Ar (r' := .v (.bool (decide (x20.1 = 0)))) (io1 ka0 (.cells ([.mp Aa, .mp Ab, AY (fun (x : S33) => .v (str x.A7) :: .v (str x.A8) :: .sl 2 (x.fDn.map fun x => [.v (str x.fType), .v (str x.Ac)]) :: (x.A3.map fun x => .sl 1 (x.map fun x => [.v (str x)]))) x20.2])) (by exact As (Ext.AG (Ext.refl hw) ka0)) (by omega) (by simp -implicitDefEqProofs (disch := omega) [go_sem]) (by exact Bo)) rfl (.same (by exact nbA)) hK
   intro c21 h; refine sG ?_; subst hc17; refine vO ?_; obtain rfl := sI h; refine sG ?_; refine Ar (r' := .v (.bool false)) (io1 ka0 (.cells ([.mp Aa, .mp Ab, AY (fun (x : S33) => .v (str x.A7) :: .v (str x.A8) :: .sl 2 (x.fDn.map fun x => [.v (str x.fType), .v (str x.Ac)]) :: (x.A3.map fun x => .sl 1 (x.map fun x => [.v (str x)]))) Au])) (by exact As (Ext.AG (Ext.refl hw) ka0)) (by omega) (by simp -implicitDefEqProofs (disch := omega) [go_sem, Aq]) (by exact Bo)) rfl (.same (by exact nbA)) hK
  intro c22 h; simp (disch := omega) at c22; refine sG ?_; subst hc17; refine vO ?_; obtain rfl := sI h; refine sG ?_; refine Ar (r' := .v (.bool false)) (io1 ka0 (.cells ([.mp Aa, .mp Ab, AY (fun (x : S33) => .v (str x.A7) :: .v (str x.A8) :: .sl 2 (x.fDn.map fun x => [.v (str x.fType), .v (str x.Ac)]) :: (x.A3.map fun x => .sl 1 (x.map fun x => [.v (str x)]))) Au])) (by exact As (Ext.AG (Ext.refl hw) ka0)) (by omega) (by simp -implicitDefEqProofs (disch := omega) [go_sem, Aq]) (by exact Bo)) rfl (.same (by exact nbA)) hK
 intro c23 h; refine sG ?_; subst hc17; refine vO ?_; obtain rfl := sI h; refine sG ?_; refine Ar (r' := .v (.bool false)) (io1 ka0 (.cells ([.mp Aa, .mp Ab, AY (fun (x : S33) => .v (str x.A7) :: .v (str x.A8) :: .sl 2 (x.fDn.map fun x => [.v (str x.fType), .v (str x.Ac)]) :: (x.A3.map fun x => .sl 1 (x.map fun x => [.v (str x)]))) Au])) (by exact As (Ext.AG (Ext.refl hw) ka0)) (by omega) (by simp -implicitDefEqProofs (disch := omega) [go_sem, Aq]) (by exact Bo)) rfl (.same (by exact nbA)) hK
noncomputable def MD (v11 : Option S33) (v12 : List (List UInt8 × S39)) (v13 : List (List UInt8 × (List UInt8))) : Option ((Option ((List (List UInt8 × S39)) × (List (List UInt8 × (List UInt8))) × (Option S33))) × Int) :=
 some (some (v12, v13, v11), 0)
noncomputable def Dv (a0 : List S78) (v7 : Int) (v8 : Option S33) (v9 : List (List UInt8 × S39)) (v10 : List (List UInt8 × (List UInt8))) : Option ((Int × (Option S33) × (List (List UInt8 × S39)) × (List (List UInt8 × (List UInt8)))) ⊕ (((Option S33) × (List (List UInt8 × S39)) × (List (List UInt8 × (List UInt8)))) ⊕ ((Option ((List (List UInt8 × S39)) × (List (List UInt8 × (List UInt8))) × (Option S33))) × Int))) :=
 (F64 ((a0.getD v7.toNat S78.zero).CX) ([112])).bind fun (x23 : (List UInt8) × Bool) => (F65 ((a0.getD v7.toNat S78.zero).Ac) ([10])).bind fun (x25 : (List UInt8) × (List UInt8) × Bool) => (F66 x25.2.1).bind fun (x27 : (List (List (List UInt8))) × Int) => gd (x27.1.length = 8) (if ¬ (x23.2 = true) then (some (.inr (.inr (none, 301)))) else (if ¬ (x25.2.2 = true) then (some (.inr (.inr (none, 301)))) else (if ¬ x27.2 = 0 then (some (.inr (.inr (none, 301)))) else ((F29 v9 v10 v8 (⟨x23.1, x25.1, x27.1⟩ : S39)).bind fun (x33 : Int × (List (List UInt8 × S39)) × (List (List UInt8 × (List UInt8)))) => if ¬ x33.1 = 0 then (some (.inr (.inr (none, 301)))) else (some (.inl ((IntKind.i64.wrap (v7 + 1), v8, x33.2.1, x33.2.2))))))))
noncomputable def G7 (a0 : List S78) (v7 : Int) (v8 : Option S33) (v9 : List (List UInt8 × S39)) (v10 : List (List UInt8 × (List UInt8))) : Option ((Int × (Option S33) × (List (List UInt8 × S39)) × (List (List UInt8 × (List UInt8)))) ⊕ (((Option S33) × (List (List UInt8 × S39)) × (List (List UInt8 × (List UInt8)))) ⊕ ((Option ((List (List UInt8 × S39)) × (List (List UInt8 × (List UInt8))) × (Option S33))) × Int))) :=
 if v7 < (a0.length : Int) then (gd (0 ≤ v7 ∧ v7 < a0.length) (if ((a0.getD v7.toNat S78.zero).CX) = ([105]) then (if v8.isNone = true then ((F63 v9 v10 v8 ((a0.getD v7.toNat S78.zero).Ac)).bind fun (x43 : Bool × (Option S33)) => if ¬ (x43.1 = true) then (some (.inr (.inr (none, 301)))) else (some (.inl ((IntKind.i64.wrap (v7 + 1), x43.2, v9, v10))))) else (Dv a0 v7 v8 v9 v10)) else (Dv a0 v7 v8 v9 v10))) else (some (.inr (.inl (v8, v9, v10))))
noncomputable def F35 (a0 : List S78) : Option ((Option ((List (List UInt8 × S39)) × (List (List UInt8 × (List UInt8))) × (Option S33))) × Int) :=
 (F12 ).bind fun (x3 : (List (List UInt8 × S39)) × (List (List UInt8 × (List UInt8))) × (Option S33)) => (AN (fun (s : Int × (Option S33) × (List (List UInt8 × S39)) × (List (List UInt8 × (List UInt8)))) => G7 a0 s.1 s.2.1 s.2.2.1 s.2.2.2) (0, x3.2.2, x3.1, x3.2.1)).bind fun y => Sum.elim (fun (e : (Option S33) × (List (List UInt8 × S39)) × (List (List UInt8 × (List UInt8)))) => MD e.1 e.2.1 e.2.2) (fun (q : (Option ((List (List UInt8 × S39)) × (List (List UInt8 × (List UInt8))) × (Option S33))) × Int) => some q) y
theorem Zh {H : A2} {K : Aw → A2 → Prop} (a0 : List S78) (hV : VOK prog H) {r : (Option ((List (List UInt8 × S39)) × (List (List UInt8 × (List UInt8))) × (Option S33))) × Int} (h : F35 a0 = some r) (hN : r.1 = none → K (.ret (.tu [.v (.pointer none), .v (.int .i64 r.2)])) H) (hS : ∀ v, r.1 = some v → K (.ret (.tu [.p H.next 0, .v (.int .i64 r.2)])) (newL H [.cells ([.mp (H.next + 1), .mp (H.next + 2), AY (fun (x : S33) => .v (str x.A7) :: .v (str x.A8) :: .sl 2 (x.fDn.map fun x => [.v (str x.fType), .v (str x.Ac)]) :: (x.A3.map fun x => .sl 1 (x.map fun x => [.v (str x)]))) v.2.2]), .map (mE (fun (x : S39) => .ag (.v (str x.A7) :: .v (str x.A8) :: (x.A3.map fun x => .sl 1 (x.map fun x => [.v (str x)])))) v.1), .map (mE (fun (x : List UInt8) => .v (str x)) v.2.1)])) : Ae prog 35 [.sl 2 (a0.map fun x => [.v (str x.CX), .v (str x.Ac)])] H K := by
 refine Ah (N := 75) func35 (by kernel_rfl) rfl (by kernel_rfl) (by kernel_rfl) fun cb hcb hw hbd hnb => ?_; clear hbd hnb; subst hcb; unfold F35 at h; refine wG ?_; refine A4 fun cb hc2 => ?_; refine vG ?_; obtain ⟨x3, hx3, h⟩ := A6 h; refine OP  hx3 ?_; refine sG ?_; subst hc2; refine A4 fun cb hc4 => ?_; refine wG ?_; obtain ⟨y6, hl6q, hk6⟩ := A6 h; refine AE (fun tm' H' => ∃ v11 : Option S33, ∃ v12 : List (List UInt8 × S39), ∃ v13 : List (List UInt8 × (List UInt8)), .inl (v11, v12, v13) = y6 ∧ Ext H H' ∧ H.next + 3 ≤ H'.next ∧ tm' 4 = .p H.next 0 ∧ H'.obj H.next = some (.cells ([.mp (H.next + 1), .mp (H.next + 2), AY (fun (x : S33) => .v (str x.A7) :: .v (str x.A8) :: .sl 2 (x.fDn.map fun x => [.v (str x.fType), .v (str x.Ac)]) :: (x.A3.map fun x => .sl 1 (x.map fun x => [.v (str x)]))) v11])) ∧ H'.obj (H.next + 1) = some (.map (mE (fun (x : S39) => .ag (.v (str x.A7) :: .v (str x.A8) :: (x.A3.map fun x => .sl 1 (x.map fun x => [.v (str x)])))) v12)) ∧ H'.obj (H.next + 2) = some (.map (mE (fun (x : List UInt8) => .v (str x)) v13))) ?_ fun cb hc6 => ?_
 ·rintro tm6e H6e ⟨v11, v12, v13, rfl, he6e, hl6e, t4_6e, ob0_6e, ob1_6e, ob2_6e⟩
  have h : MD v11 v12 v13 = some r := hk6; unfold MD at h; simp -implicitDefEqProofs only [go_sem]; subst hc4; refine wF t4_6e ?_; refine vO ?_; obtain rfl := sI h; refine sG ?_; refine OK (r := .tu [.p H.next 0, .v (.int .i64 0)]) (r' := .tu [.p H.next 0, .v (.int .i64 0)]) rfl (JI (As he6e) (ks := [H.next, H.next + 1, H.next + 2]) (os := [.cells ([.mp (H.next + 1), .mp (H.next + 2), AY (fun (x : S33) => .v (str x.A7) :: .v (str x.A8) :: .sl 2 (x.fDn.map fun x => [.v (str x.fType), .v (str x.Ac)]) :: (x.A3.map fun x => .sl 1 (x.map fun x => [.v (str x)]))) v11]), .map (mE (fun (x : S39) => .ag (.v (str x.A7) :: .v (str x.A8) :: (x.A3.map fun x => .sl 1 (x.map fun x => [.v (str x)])))) v12), .map (mE (fun (x : List UInt8) => .v (str x)) v13)]) (.cons (o := .cells ([.mp (H.next + 1), .mp (H.next + 2), AY (fun (x : S33) => .v (str x.A7) :: .v (str x.A8) :: .sl 2 (x.fDn.map fun x => [.v (str x.fType), .v (str x.Ac)]) :: (x.A3.map fun x => .sl 1 (x.map fun x => [.v (str x)]))) v11])) (by omega) (by omega) (eF ob0_6e) (.cells _ _ (.cons (.mpE (k := H.next + 1) (by simp [DD]) (by simp [go_sem])) (.cons (.mpE (k := H.next + 2) (by simp [DD]) (by simp [go_sem])) (.cons (.same _ (by exact nbA)) .nil)))) (.cons (o := .map (mE (fun (x : S39) => .ag (.v (str x.A7) :: .v (str x.A8) :: (x.A3.map fun x => .sl 1 (x.map fun x => [.v (str x)])))) v12)) (by omega) (by omega) (eF ob1_6e) (.same _ (by exact BX)) (.cons (o := .map (mE (fun (x : List UInt8) => .v (str x)) v13)) (by omega) (by omega) (eF ob2_6e) (.same _ (by exact BX)) .nil))) (by simp [List.nodup_cons] <;> omega)) (.tuL (.cons (.pE (k := H.next) (by simp [DD]) (by simp [go_sem])) (.cons (.same _ (by exact nbA)) .nil))) (hS _ rfl)
 refine Am ?_; refine AD (fun (s : Int × (Option S33) × (List (List UInt8 × S39)) × (List (List UInt8 × (List UInt8)))) tm' H' => Ext H H' ∧ H.next + 3 ≤ H'.next ∧ tm' 4 = .p H.next 0 ∧ tm' 15 = .sl 2 (a0.map fun x => [.v (str x.CX), .v (str x.Ac)]) ∧ tm' 16 = .v (.int .i64 (a0.length : Int)) ∧ tm' 17 = .v (.int .i64 s.1) ∧ H'.obj H.next = some (.cells ([.mp (H.next + 1), .mp (H.next + 2), AY (fun (x : S33) => .v (str x.A7) :: .v (str x.A8) :: .sl 2 (x.fDn.map fun x => [.v (str x.fType), .v (str x.Ac)]) :: (x.A3.map fun x => .sl 1 (x.map fun x => [.v (str x)]))) s.2.1])) ∧ H'.obj (H.next + 1) = some (.map (mE (fun (x : S39) => .ag (.v (str x.A7) :: .v (str x.A8) :: (x.A3.map fun x => .sl 1 (x.map fun x => [.v (str x)])))) s.2.2.1)) ∧ H'.obj (H.next + 2) = some (.map (mE (fun (x : List UInt8) => .v (str x)) s.2.2.2))) hl6q ?_ ?_
 ·refine .same ⟨by exact As (Ext.refl hw), by (simp -implicitDefEqProofs (disch := omega) [go_sem] <;> omega), ?_, ?_, ?_, ?_, ?_, ?_, ?_⟩ <;> (simp -implicitDefEqProofs (disch := omega) [go_sem] <;> omega)
 rintro I6 hI6 ⟨v7, v8, v9, v10⟩ x6 tm6 H6 ⟨he6, hl6, NR, Q9, Qa, NU, Lm, Qb, Qc⟩ h hret6
 replace h : G7 a0 v7 v8 v9 v10 = some x6 := h; unfold G7 at h; refine wF (nd Qa NU) ?_; refine A4 fun cb hc16 => ?_; refine Ad h eA rfl ?_ ?_
 ·intro c17 h; refine vO ?_; subst hc16; refine A4 fun cb hc18 => ?_; refine Am ?_; obtain ⟨g20, h⟩ := Aj.1 h; refine wF (nd Q9 NU) ?_; refine C4 (fun tm' H' => Ext H H' ∧ H6.next + 1 ≤ H'.next ∧ tm' 4 = .p H.next 0 ∧ tm' 6 = .p H6.next 0 ∧ tm' 15 = .sl 2 (a0.map fun x => [.v (str x.CX), .v (str x.Ac)]) ∧ tm' 16 = .v (.int .i64 (a0.length : Int)) ∧ tm' 17 = .v (.int .i64 v7) ∧ H'.obj H.next = some (.cells ([.mp (H.next + 1), .mp (H.next + 2), AY (fun (x : S33) => .v (str x.A7) :: .v (str x.A8) :: .sl 2 (x.fDn.map fun x => [.v (str x.fType), .v (str x.Ac)]) :: (x.A3.map fun x => .sl 1 (x.map fun x => [.v (str x)]))) v8])) ∧ H'.obj (H.next + 1) = some (.map (mE (fun (x : S39) => .ag (.v (str x.A7) :: .v (str x.A8) :: (x.A3.map fun x => .sl 1 (x.map fun x => [.v (str x)])))) v9)) ∧ H'.obj (H.next + 2) = some (.map (mE (fun (x : List UInt8) => .v (str x)) v10)) ∧ H'.obj H6.next = some (.cells ([.v (str ((a0.getD v7.toNat S78.zero).CX)), .v (str ((a0.getD v7.toNat S78.zero).Ac))])) ∧ Dv a0 v7 v8 v9 v10 = some x6) ?_ fun cb hc21 => ?_
  ·rintro tm21 H21 ⟨he21, hl21, PT, PU, Zi, Zj, Zk, Ma, Zl, Zm, U6, h⟩
   unfold Dv at h; refine A4 fun cb hc22 => ?_; refine vF (nd PU U6) ?_; obtain ⟨x23, hx23, h⟩ := A6 h; refine Ae.eqA eA (T7 ((a0.getD v7.toNat S78.zero).CX) ([112]) hx23 ?_); refine sG ?_; subst hc22; refine A4 fun cb hc24 => ?_; refine vF (nd PU U6) ?_; obtain ⟨x25, hx25, h⟩ := A6 h; refine Ae.eqA eA (TI ((a0.getD v7.toNat S78.zero).Ac) ([10]) (by exact hV.of (he21).sn) hx25 ?_); refine sG ?_; subst hc24; refine A4 fun cb hc26 => ?_; refine vG ?_; obtain ⟨x27, hx27, h⟩ := A6 h; refine U0 x25.2.1 (by exact hV.of (he21).sn) hx27 ?_; obtain ⟨g28, h⟩ := Aj.1 h; refine sF g28 ?_; subst hc26; refine A4 fun cb hc29 => ?_; refine vG ?_; refine A9 h eA ?_ ?_
   ·intro c38 h; simp (disch := omega) at c38; refine sG ?_; subst hc29; refine An eA rfl ?_; refine wG ?_; refine vO ?_; obtain rfl := sI h; obtain rfl := hret6 _ rfl; replace h : some (none, 301) = some r := hk6; obtain rfl := sI h; refine sG ?_; refine Ax (As he21) rfl nbA (hN rfl)
   intro c38 h; simp (disch := omega) at c38; refine sG ?_; refine A9 h eA ?_ ?_
   ·intro c37 h; simp (disch := omega) at c37; refine sG ?_; subst hc29; refine An eA rfl ?_; refine wG ?_; refine vO ?_; obtain rfl := sI h; obtain rfl := hret6 _ rfl; replace h : some (none, 301) = some r := hk6; obtain rfl := sI h; refine sG ?_; refine Ax (As he21) rfl nbA (hN rfl)
   intro c37 h; simp (disch := omega) at c37; refine sG ?_; refine A9 h eA ?_ ?_
   ·intro c36 h; refine sG ?_; subst hc29; refine An eA rfl ?_; refine wG ?_; refine vO ?_; obtain rfl := sI h; obtain rfl := hret6 _ rfl; replace h : some (none, 301) = some r := hk6; obtain rfl := sI h; refine sG ?_; refine Ax (As he21) rfl nbA (hN rfl)
   intro c36 h; simp (disch := omega) at c36; simp -implicitDefEqProofs (disch := omega) [go_sem, bdP, PT, g28]; obtain ⟨x33, hx33, h⟩ := A6 h; refine Ae.wkL (args' := [.p H.next 0, .ag (.v (str ((⟨x23.1, x25.1, x27.1⟩ : S39).A7)) :: .v (str ((⟨x23.1, x25.1, x27.1⟩ : S39).A8)) :: (((⟨x23.1, x25.1, x27.1⟩ : S39).A3).map fun x => .sl 1 (x.map fun x => [.v (str x)])))]) (by repeat (first | exact WkL.nil | refine WkL.cons ?_ ?_ | exact Wk.refl _)) (M6 v9 v10 v8 (⟨x23.1, x25.1, x27.1⟩ : S39) H.next (H.next + 1) (H.next + 2) (eF Ma) (eF Zl) (eF Zm) (by omega) hx33 ?_); refine sG ?_; subst hc29; refine Ad h eA rfl ?_ ?_
   ·intro c34 h; refine wG ?_; refine vO ?_; obtain rfl := sI h; obtain rfl := hret6 _ rfl; replace h : some (none, 301) = some r := hk6; obtain rfl := sI h; refine sG ?_; refine Ax (As he21) rfl nbA (hN rfl)
   intro c34 h; simp (disch := omega) at c34; refine vO ?_; subst hc18; refine vF Zk ?_; obtain rfl := sI h; refine Ao hI6 ((IntKind.i64.wrap (v7 + 1), v8, x33.2.1, x33.2.2)) ?_; refine .same ⟨by exact As he21, by (simp -implicitDefEqProofs (disch := omega) [go_sem] <;> omega), ?_, ?_, ?_, ?_, ?_, ?_, ?_⟩ <;> (simp -implicitDefEqProofs (disch := omega) [go_sem, PT, Zi, Zj, Ma] <;> omega)
  refine A4 fun cb hc39 => ?_; refine vG ?_; refine A9 h eA ?_ ?_
  ·intro c46 h; simp (disch := omega) at c46; refine sF (nd NR Lm) ?_; subst hc39; refine Ad h eA rfl ?_ ?_
   ·intro c40 h; simp (disch := omega) at c40; refine A4 fun cb hc41 => ?_; refine A4 fun cb hc42 => ?_; refine vF NR ?_; obtain ⟨x43, hx43, h⟩ := A6 h; refine Ae.eqA eA (Zg v9 v10 v8 ((a0.getD v7.toNat S78.zero).Ac) H.next (H.next + 1) (H.next + 2) (eF Lm) (eF Qb) (eF Qc) (by exact hV.of (he6).sn) hx43 ?_); refine sG ?_; subst hc42; refine Ad h eA rfl ?_ ?_
    ·intro c44 h; simp (disch := omega) at c44; refine wG ?_; refine vO ?_; obtain rfl := sI h; obtain rfl := hret6 _ rfl; replace h : some (none, 301) = some r := hk6; obtain rfl := sI h; refine sG ?_; refine Ax (As he6) rfl nbA (hN rfl)
    intro c44 h; simp (disch := omega) at c44; refine vO ?_; subst hc41; refine vO ?_; subst hc18; refine vF NU ?_; obtain rfl := sI h; refine Ao hI6 ((IntKind.i64.wrap (v7 + 1), x43.2, v9, v10)) ?_; refine .same ⟨by exact As he6, by (simp -implicitDefEqProofs (disch := omega) [go_sem] <;> omega), ?_, ?_, ?_, ?_, ?_, ?_, ?_⟩ <;> (simp -implicitDefEqProofs (disch := omega) [go_sem, NR, Q9, Qa, Qb, Qc] <;> omega)
   intro c40 h; simp (disch := omega) at c40; refine vO ?_; refine hc21 _ _ ?_; refine .same ⟨by exact As he6, by (simp -implicitDefEqProofs (disch := omega) [go_sem] <;> omega), ?_, ?_, ?_, ?_, ?_, ?_, ?_, ?_, ?_, h⟩ <;> (simp -implicitDefEqProofs (disch := omega) [go_sem, NR, Q9, Qa, NU, Lm, Qb, Qc] <;> omega)
  intro c46 h; simp (disch := omega) at c46; refine sG ?_; subst hc39; refine Ap eA rfl ?_; refine vO ?_; refine hc21 _ _ ?_; refine .same ⟨by exact As he6, by (simp -implicitDefEqProofs (disch := omega) [go_sem] <;> omega), ?_, ?_, ?_, ?_, ?_, ?_, ?_, ?_, ?_, h⟩ <;> (simp -implicitDefEqProofs (disch := omega) [go_sem, NR, Q9, Qa, NU, Lm, Qb, Qc] <;> omega)
 intro c17 h; simp (disch := omega) at c17; refine vO ?_; obtain rfl := sI h; have hy6 := hret6 _ rfl; refine hc6 _ _ ?_; refine .same ⟨v8, v9, v10, hy6, by exact As he6, by with_reducible assumption, ?_, ?_, ?_, ?_⟩ <;> first | with_reducible assumption | (simp -implicitDefEqProofs (disch := omega) [go_sem, NR] <;> omega)
noncomputable def IX (a0 : List UInt8) (v5 : Int) : Option (Int ⊕ (Unit ⊕ ((List UInt8) × (List UInt8) × Bool))) :=
 if v5 < (a0.length : Int) then (gd (0 ≤ v5 ∧ v5 < a0.length) (if (((a0.getD v5.toNat 0).toNat : Int)) = 10 then (gd (0 ≤ v5) (gd (v5 ≤ a0.length) (gd (0 ≤ (IntKind.i64.wrap (v5 + 1))) (gd (IntKind.i64.wrap (v5 + 1) ≤ a0.length) (some (.inr (.inr (((a0.take v5.toNat), a0.drop (IntKind.i64.wrap (v5 + 1)).toNat, true))))))))) else (some (.inl (IntKind.i64.wrap (v5 + 1)))))) else (some (.inr (.inl ())))
end Go.Idl
namespace Go.Idl
set_option maxHeartbeats 8000000
set_option pp.deepTerms false
set_option maxRecDepth 60000
open Go Go.Proofs.Tryz
end Go.Idl
namespace Go.Idl
set_option maxHeartbeats 8000000
set_option pp.deepTerms false
set_option maxRecDepth 60000
open Go Go.Proofs.Tryz
end Go.Idl
namespace Go.Idl
set_option maxHeartbeats 8000000
set_option pp.deepTerms false
set_option maxRecDepth 60000
open Go Go.Proofs.Tryz
end Go.Idl
namespace Go.Idl
open Go Go.Lib
theorem Ec {c : List (List Str)} (hc : c.length = 8) (h : AM c = true) : (∀ l, l ∈ c → l.length ≤ 8) ∧ (∀ l, l ∈ c → ∀ v, v ∈ l → 1 ≤ v.length ∧ v.length ≤ 200) ∧ (c.getD 0 []).length = 1 := by
 have hi := (HN c hc).1 h; have hv : ∀ l, l ∈ c → l.length ≤ 8 ∧ ∀ v, v ∈ l → 1 ≤ v.length ∧ v.length ≤ 200 := by
  intro l hl; obtain ⟨i, h1, rfl⟩ := List.getElem_of_mem hl; have := hi i h1; unfold BZ BB at this; simp only [Bool.and_eq_true, decide_eq_true_eq, Bool.not_eq_true', List.any_eq_false] at this; refine ⟨?_, fun v hv => ?_⟩
  ·have := this.1.1.1; unfold Fy at this; split at this <;> omega
  ·have := this.1.1.2 v hv; simp [Bb] at this; exact ⟨by have := this.2.1; cases v with | nil => simp at * | cons a b => simp, this.2.2⟩
 refine ⟨fun l hl => (hv l hl).1, fun l hl => (hv l hl).2, ?_⟩; unfold AM at h; simp only [Bool.and_eq_true, decide_eq_true_eq] at h; exact h.2
theorem Ke {c : List (List Str)} (hc : c.length = 8) (h : AM c = true) : S_ c := by
 obtain ⟨h1, h2, _⟩ := Ec hc h; exact ⟨hc, fun l hl => ⟨by have := h1 l hl; omega, fun s hs => by have := h2 l hl s hs; omega⟩⟩
theorem Qd (c : List (List Str)) (hc : c.length = 8) : BW c = FF c 8 0 := by
 match c, hc with
 | [a, b, d, e, f, g, h, i], _ =>
  have hf : ∀ (i : Nat) (l : List Str), Hz i l = CD i l := fun _ _ => rfl; simp [BW, FF, hf, List.zipIdx]
theorem Rp (l : List Str) (h1 : l.length ≤ 8) (h : ∀ s, s ∈ l → s.length ≤ 200) : (l.flatMap My).length ≤ l.length * 403 := by
 clear h1
 induction l with
 | nil => simp
 | cons s l ih =>
  have h1 := h s (by simp); have h2 := ih fun s hs => h s (by simp [hs]); have h3 := G3 s.length 3 (by simp; omega); simp only [List.flatMap_cons, List.length_append, List.length_cons, My, List.length_nil]; omega
theorem Ff (c : List (List Str)) (hc : c.length = 8) (h : AM c = true) : (BW c).length ≤ 100000 := by
 obtain ⟨h1, h2, _⟩ := Ec hc h; have hf : ∀ (i : Nat) (l : List Str), l ∈ c → (CD i l).length ≤ 8000 := fun i l hl => by
  have q1 := h1 l hl; have q2 := Rp l q1 (fun s hs => (h2 l hl s hs).2); have q3 := G3 l.length 3 (by simp; omega); have q4 : (Bq.getD i []).length ≤ 10 := by
   match i with
   | 0 | 1 | 2 | 3 | 4 | 5 | 6 | 7 => simp [Bq]
   | i + 8 => simp [Bq]
  unfold CD; split
  ·simp only [List.nil_append]; omega
  ·simp only [List.length_append, List.length_cons, List.length_nil]; omega
 rw [Qd c hc]
 match c, hc, hf with
 | [a, b, d, e, f, g, h, i], _, hf =>
  have := hf 0 a (by simp); have := hf 1 b (by simp); have := hf 2 d (by simp); have := hf 3 e (by simp); have := hf 4 f (by simp); have := hf 5 g (by simp); have := hf 6 h (by simp); have := hf 7 i (by simp); simp only [FF, List.length_append, List.length_nil, List.getD_cons_zero, List.getD_cons_succ, Nat.zero_add, Nat.reduceAdd]; omega
def eU : Str := [48, 49, 50, 51, 52, 53, 54, 55, 56, 57, 97, 98, 99, 100, 101, 102]
def KI (n : Nat) : UInt8 := eU.getD n 0
def Rq (x : UInt8) : Option Nat := eU.findIdx? fun y => decide (y = x)
def De (x : UInt8) : Bool := decide (x = 44 ∨ x = 43 ∨ x = 34 ∨ x = 92 ∨ x = 60 ∨ x = 62 ∨ x = 59 ∨ x = 61)
def Rr (x : UInt8) : Bool := decide (x.toNat < 32 ∨ 126 < x.toNat)
def KJ (first last : Bool) (x : UInt8) : Str :=
  if Rr x = true then [92, KI (x.toNat / 16), KI (x.toNat % 16)]
  else if (De x || (first && decide (x = 32 ∨ x = 35)) || (last && decide (x = 32))) = true then [92, x] else [x]
def Ca (first : Bool) : Str → Str
  | [] => []
  | x :: r => KJ first r.isEmpty x ++ Ca false r
def Iy : Nat → Str → Str × Str
  | 0, s => ([], s)
  | _ + 1, [] => ([], [])
  | n + 1, 92 :: a :: s =>
    match Rq a with
    | some i => match s with
      | b :: s => let r := Iy n s; (UInt8.ofNat (i * 16 + (Rq b).getD 0) :: r.1, r.2)
      | [] => ([], [])
    | none => let r := Iy n s; (a :: r.1, r.2)
  | n + 1, x :: s => if x = 44 then ([], x :: s) else let r := Iy n s; (x :: r.1, r.2)
set_option maxRecDepth 100000 in
theorem Rs : ∀ i : Fin 16, Rq (KI i.1) = some i.1 := by decide
theorem U7 (i : Nat) (h : i < 16) : Rq (KI i) = some i := Rs ⟨i, h⟩
theorem Rt {x : UInt8} (h : (decide (x = 44 ∨ x = 43 ∨ x = 34 ∨ x = 92 ∨ x = 60 ∨ x = 62 ∨ x = 59 ∨ x = 61) || decide (x = 32 ∨ x = 35)) = true) : Rq x = none := by
 simp only [Bool.or_eq_true, decide_eq_true_eq] at h; rcases h with (h | h | h | h | h | h | h | h) | (h | h) <;> subst h <;> rfl
theorem eV (n : Nat) (first last : Bool) (x : UInt8) (s : Str) : Iy (n + 1) (KJ first last x ++ s) = (x :: (Iy n s).1, (Iy n s).2) := by
 unfold KJ; by_cases h1 : Rr x = true
 ·rw [if_pos h1]; have hx := x.toNat_lt; simp only [List.cons_append, List.nil_append, Iy]; rw [U7 _ (by omega)]; simp only; rw [U7 _ (by omega)]; have e : x.toNat / 16 * 16 + (some (x.toNat % 16)).getD 0 = x.toNat := by simp only [Option.getD_some]; omega
  rw [e]; simp
 ·rw [if_neg h1]; by_cases h2 : (De x || (first && decide (x = 32 ∨ x = 35)) || (last && decide (x = 32))) = true
  ·rw [if_pos h2]; have h3 : Rq x = none := by
    refine Rt ?_; simp only [De, Bool.or_eq_true, Bool.and_eq_true, decide_eq_true_eq] at h2 ⊢; rcases h2 with (h | h) | h
    ·exact .inl h
    ·exact .inr h.2
    ·exact .inr (.inl h.2)
   simp only [List.cons_append, List.nil_append, Iy]; rw [h3]
  ·rw [if_neg h2]; have hs : De x = false := by
    simp only [Bool.not_eq_true, Bool.or_eq_false_iff] at h2; exact h2.1.1
   simp only [De, decide_eq_false_iff_not, not_or] at hs; have e : Iy (n + 1) (x :: s) = if x = 44 then ([], x :: s) else (x :: (Iy n s).1, (Iy n s).2) := by
    rw [Iy.eq_def]; split
    ·rename_i h; cases h
    ·rename_i h; cases h
    ·rename_i h; simp only [List.cons.injEq] at h; exact absurd h.1 hs.2.2.2.1
    ·rename_i a b c d h; simp only [List.cons.injEq] at h; obtain ⟨rfl, rfl⟩ := h; obtain rfl := Nat.succ.inj d; rfl
   rw [List.singleton_append, e, if_neg hs.1]
def BO : List S89 → Str
  | [] => []
  | r :: d => r.fType ++ 61 :: (Ca true r.Ac ++ match d with | [] => [] | _ :: _ => 44 :: BO d)
theorem Ru {s : Str} (h : BY s = true) : (61 : UInt8) ∉ s := by
 intro hm; simp only [BY, Bool.and_eq_true, List.all_eq_true] at h; have := h.2 _ hm; simp [Co, D3] at this
theorem Rv (f l : Bool) (x : UInt8) : (10 : UInt8) ∉ KJ f l x := by
 unfold KJ; have hh : ∀ i, i < 16 → KI i ≠ 10 := fun i hi => by
  have : ∀ i : Fin 16, KI i.1 ≠ 10 := by decide
  exact this ⟨i, hi⟩
 have hx := x.toNat_lt; split
 ·simp only [List.mem_cons, List.not_mem_nil, or_false, not_or]; exact ⟨by decide, (hh _ (by omega)).symm, (hh _ (by omega)).symm⟩
 ·rename_i h; have : x ≠ 10 := by
   rintro rfl
   exact h rfl
  split
  ·simp only [List.mem_cons, List.not_mem_nil, or_false, not_or]; exact ⟨by decide, this.symm⟩
  ·simp only [List.mem_cons, List.not_mem_nil, or_false]; exact this.symm
theorem Ln : ∀ (v : Str) (f : Bool), (10 : UInt8) ∉ Ca f v
  | [], _ => by simp [Ca]
  | x :: v, f => by
    simp only [Ca, List.mem_append, not_or]
    exact ⟨Rv _ _ _, Ln v false⟩
theorem Kf : ∀ {d : List S89}, (∀ x ∈ d, Ci x = true) → (10 : UInt8) ∉ BO d
  | [], _ => by simp [BO]
  | r :: d, h => by
    have hr := h r (by simp)
    simp only [Ci, Bool.and_eq_true, BY, List.all_eq_true] at hr
    have h1 : (10 : UInt8) ∉ r.fType := fun hm => by
      have := hr.1.1.2 _ hm
      simp [Co, D3] at this
    have h2 := Ln r.Ac true
    have h3 := Kf (d := d) fun x hx => h x (by simp [hx])
    cases d with
    | nil => simp [BO, h1, h2]
    | cons a b =>
      simp only [BO] at h3 ⊢
      simp only [List.mem_append, List.mem_cons, not_or] at h3 ⊢
      exact ⟨h1, by decide, h2, by decide, h3⟩
theorem NV (f l : Bool) (x : UInt8) : (KJ f l x).length ≤ 3 := by
 unfold KJ; split
 ·simp
 ·split <;> simp
theorem GV : ∀ (v : Str) (f : Bool), (Ca f v).length ≤ 3 * v.length
  | [], _ => by simp [Ca]
  | x :: v, f => by
    have := NV f v.isEmpty x
    have := GV v false
    simp only [Ca, List.length_append, List.length_cons]
    omega
theorem HP : ∀ {d : List S89}, (∀ x ∈ d, Ci x = true) → (BO d).length ≤ 1000 * d.length
  | [], _ => by simp [BO]
  | r :: d, h => by
    have hr := h r (by simp)
    simp only [Ci, BY, Bool.and_eq_true, decide_eq_true_eq] at hr
    have h2 := GV r.Ac true
    have h3 := HP (d := d) fun x hx => h x (by simp [hx])
    have h4 : (BO (r :: d)).length ≤ r.fType.length + 2 + (Ca true r.Ac).length + (BO d).length := by
      cases d with
      | nil => simp only [BO, List.length_append, List.length_cons, List.append_nil, List.length_nil]; omega
      | cons a b => simp only [BO, List.length_append, List.length_cons]; omega
    simp only [List.length_cons]
    omega
end Go.Idl
namespace Go.Idl
open Go Go.Lib
def HQ : List (Int × Bool) := AS (AS (AS (AS (AS (AS (AS (AS [] 44 true) 43 true) 34 true) 92 true) 60 true) 62 true) 59 true) 61 true
theorem Rw : ∀ n : Fin 256, (AW HQ (n.1 : Int)).getD false = De (UInt8.ofNat n.1) := by decide +kernel
theorem Fg (x : UInt8) : (AW HQ (x.toNat : Int)).getD false = De x := by
 have := Rw ⟨x.toNat, x.toNat_lt⟩; simpa using this
theorem Rx : ∀ n : Fin 256, Ek .u8 (n.1 : Int) 15 = ((n.1 % 16 : Nat) : Int) := by decide +kernel
theorem eW (x : UInt8) : Ek .u8 (x.toNat : Int) 15 = ((x.toNat % 16 : Nat) : Int) := Rx ⟨x.toNat, x.toNat_lt⟩
theorem eX (x : UInt8) : ((x.toNat : Nat) : Int).fdiv 16 = ((x.toNat / 16 : Nat) : Int) := by
 rw [Int.fdiv_eq_ediv_of_nonneg _ (by omega)]; omega
theorem Zn (s out : Str) (i : Nat) (b : Bool) (hi : i < s.length) (hl : s.length ≤ 1000000) (ho : out.length ≤ 10000000) : Cn s (i : Int) out b = some (.inl (out ++ (if b = true then [92, s[i]] else [s[i]]), ((i + 1 : Nat) : Int))) := by
 have hx := s[i].toNat_lt; unfold Cn; rw [Int.toNat_natCast, getD_some hi, B6 (by omega)]; cases b with
 | true =>
  simp only [if_true]; rw [Af (by simp; omega), Af (by omega), Af (by simp; omega)]; simp
 | false =>
  simp only [Bool.false_eq_true, if_false]; rw [Af (by omega), Af (by simp; omega)]; simp
set_option maxRecDepth 20000 in
theorem U8 (s out : Str) (i : Nat) (hi : i < s.length) (hl : s.length ≤ 1000000) (ho : out.length ≤ 10000000) :
    FY s HQ out (i : Int) = some (.inl (out ++ KJ (decide (i = 0)) (decide (i + 1 = s.length)) s[i], ((i + 1 : Nat) : Int))) := by
 have hx := s[i].toNat_lt; have hgd : s.getD i 0 = s[i] := getD_some hi _; have hw : IntKind.i64.wrap ((s.length : Int) - 1) = (s.length : Int) - 1 := wrap_i64 (by omega) (by omega); have hlast : ((i : Int) = (s.length : Int) - 1) ↔ i + 1 = s.length := by omega
 have hk := fun b => Zn s out i b hi hl ho; simp only [FY]; rw [if_pos (by omega), Af (by omega), Int.toNat_natCast, hgd, Fg, eW, eX, hw]; simp only [hk, Int.toNat_natCast, UInt8.ofNat_toNat]; generalize s[i] = x at *; have h16 : x.toNat % 16 < 16 := by omega
 have h16' : x.toNat / 16 < 16 := by omega
 have q1 := (([48, 49, 50, 51, 52, 53, 54, 55, 56, 57, 97, 98, 99, 100, 101, 102] : List UInt8).getD (x.toNat / 16) 0).toNat_lt; have q2 := (([48, 49, 50, 51, 52, 53, 54, 55, 56, 57, 97, 98, 99, 100, 101, 102] : List UInt8).getD (x.toNat % 16) 0).toNat_lt; unfold KJ Rr; by_cases a1 : x.toNat < 32
 ·rw [if_pos (by omega), if_pos (by simp; omega), Af (by simp; omega), Af (by simp; omega), Af (by omega), Af (by omega), Af (by simp; omega), B6 (by omega)]; rfl
 ·rw [if_neg (by omega)]; by_cases a2 : 126 < x.toNat
  ·rw [if_pos (by omega), if_pos (by simp; omega), Af (by simp; omega), Af (by simp; omega), Af (by omega), Af (by omega), Af (by simp; omega), B6 (by omega)]; rfl
  ·rw [if_neg (by omega), if_neg (c := decide (x.toNat < 32 ∨ 126 < x.toNat) = true) (by simp; omega)]; by_cases a3 : De x = true
   ·simp [a3]
   ·have e32 : x = 32 ↔ x.toNat = 32 := by rw [← UInt8.toNat_inj]; rfl
    have e35 : x = 35 ↔ x.toNat = 35 := by rw [← UInt8.toNat_inj]; rfl
    have f32 : ((x.toNat : Int) = 32) ↔ x.toNat = 32 := by omega
    have f35 : ((x.toNat : Int) = 35) ↔ x.toNat = 35 := by omega
    have fi : ((i : Int) = 0) ↔ i = 0 := by omega
    simp only [a3, hlast, e32, e35, f32, f35, fi, Bool.false_eq_true, if_false, Bool.false_or, Bool.or_eq_true, Bool.and_eq_true, decide_eq_true_eq, if_true]; by_cases b1 : i = 0
    ·by_cases b2 : x.toNat = 32
     ·simp [b1, b2]
     ·by_cases b3 : x.toNat = 35
      ·simp [b1, b3]
      ·by_cases b4 : i + 1 = s.length
       ·simp [b1, b2, b3]
       ·simp [b1, b2, b3]
    ·by_cases b4 : i + 1 = s.length
     ·simp [b1, b4]
     ·simp [b1, b4]
theorem NW (s : Str) (hl : s.length ≤ 1000000) : ∀ (k j : Nat) (out : Str), j + k = s.length → out.length ≤ 3 * j →
    AN (fun (v : Str × Int) => FY s HQ v.1 v.2) (out, (j : Int)) = some (out ++ Ca (decide (j = 0)) (s.drop j))
  | 0, j, out, h, ho => by
    refine AR ?_
    simp only [FY]
    rw [if_neg (by omega), List.drop_of_length_le (by omega)]
    simp [Ca]
  | k + 1, j, out, h, ho => by
    have hj : j < s.length := by omega
    rw [Bu (U8 s out j hj hl (by omega)), NW s hl k (j + 1) _ (by omega) (by
      have := NV (decide (j = 0)) (decide (j + 1 = s.length)) s[j]
      rw [List.length_append]; omega)]
    rw [List.drop_eq_getElem_cons hj, Ca, List.append_assoc]
    have e1 : (s.drop (j + 1)).isEmpty = decide (j + 1 = s.length) := by
      by_cases q : j + 1 = s.length
      · rw [decide_eq_true q, List.drop_of_length_le (by omega)]; rfl
      · rw [decide_eq_false q, List.drop_eq_getElem_cons (by omega)]; rfl
    rw [e1]
    simp
theorem Zo (s : Str) (hl : s.length ≤ 1000000) : F91 s = some (Ca true s) := by
 unfold F91; rw [show OV = some HQ from rfl]; simp only [Option.bind_some]; have := NW s hl s.length 0 [] (by omega) (by simp); rw [show ((0 : Nat) : Int) = 0 from rfl] at this; rw [Af (by omega), this]; simp [M8]
def EO (d : List S89) : Str := match d with | [] => [] | _ :: _ => 44 :: BO d
theorem Ed (r : S89) (d : List S89) : BO (r :: d) = r.fType ++ 61 :: (Ca true r.Ac ++ EO d) := rfl
theorem U9 (d : List S89) (i : Nat) (hi : i < d.length) (hl : d.length ≤ 16) (hr : Ci d[i] = true) (out : Str) (ho : out.length ≤ 1000000) : F0 d (i : Int) out = some (.inl (out ++ (d[i].fType ++ 61 :: Ca true d[i].Ac), ((i + 1 : Nat) : Int))) := by
 simp only [Ci, BY, Bool.and_eq_true, decide_eq_true_eq] at hr; have h2 := GV d[i].Ac true; have hg : d.getD i S89.zero = d[i] := getD_some hi _; unfold F0; rw [Int.toNat_natCast, hg, Zo _ (by omega), B6 (by omega)]; simp only [Option.bind_some]; rw [Af (by simp; omega), Af (by simp; omega), Af (by simp; omega)]; simp
theorem NX (d : List S89) (hl : d.length ≤ 16) (h : ∀ x ∈ d, Ci x = true) : ∀ (k j : Nat) (out : Str), j + k = d.length → out.length ≤ 1000 * j →
    AN (fun (s : Str × Int) => E8 d s.1 s.2) (out, (j : Int)) = some (out ++ if j = 0 then BO d else EO (d.drop j))
  | 0, j, out, hk, ho => by
    refine AR ?_
    simp only [E8]
    rw [if_neg (by omega)]
    by_cases h0 : j = 0
    · have : d = [] := List.length_eq_zero_iff.1 (by omega)
      simp [h0, this, BO]
    · rw [if_neg h0, List.drop_of_length_le (by omega)]
      simp [EO]
  | k + 1, j, out, hk, ho => by
    have hj : j < d.length := by omega
    have hm := h _ (List.getElem_mem hj)
    have hr := hm
    simp only [Ci, BY, Bool.and_eq_true, decide_eq_true_eq] at hr
    have h2 := GV d[j].Ac true
    have key : E8 d out (j : Int) = some (.inl ((out ++ if j = 0 then [] else [44]) ++ (d[j].fType ++ 61 :: Ca true d[j].Ac), ((j + 1 : Nat) : Int))) := by
      simp only [E8]
      rw [if_pos (by omega), Af (by omega)]
      by_cases h0 : j = 0
      · rw [if_neg (by omega), if_pos h0, List.append_nil, U9 d j hj hl hm out (by omega)]
      · rw [if_pos (by omega), if_neg h0, Af (by simp; omega), U9 d j hj hl hm _ (by simp; omega)]
    rw [Bu (s' := ((out ++ if j = 0 then [] else [44]) ++ (d[j].fType ++ 61 :: Ca true d[j].Ac), ((j + 1 : Nat) : Int))) key, NX d hl h k (j + 1) _ (by omega) (by
      simp only [List.length_append, List.length_cons]
      have : (if j = 0 then [] else [44] : Str).length ≤ 1 := by split <;> simp
      omega)]
    have hn : ¬ j + 1 = 0 := by omega
    by_cases h0 : j = 0
    · subst h0
      match d, hj with
      | r :: d, _ => simp [Ed]
    · rw [if_neg h0, if_neg h0, if_neg hn, List.drop_eq_getElem_cons hj]
      simp only [EO, Ed]
      simp
theorem Ph (d : List S89) (h : Bz d = true) : F60 d = some (BO d, 0) := by
 have h' := h; simp only [Bz, Bool.and_eq_true, decide_eq_true_eq, List.all_eq_true] at h'
 have hb : Pc d := ⟨by omega, fun x hx => by
   have := h'.2 x hx
   simp only [Ci, BY, Bool.and_eq_true, decide_eq_true_eq] at this
   omega⟩
 unfold F60; rw [TW d hb, if_pos h]; simp only [Option.bind_some]; have := NX d h'.1 h'.2 d.length 0 [] (by omega) (by simp); rw [show ((0 : Nat) : Int) = 0 from rfl] at this; rw [if_neg (by simp), this]; simp [II]
end Go.Idl
namespace Go.Idl
open Go Go.Proofs.Tryz
set_option pp.deepTerms false
def Kg (x : UInt8) : Option Nat := if 48 ≤ x.toNat ∧ x.toNat ≤ 57 then some (x.toNat - 48) else if 97 ≤ x.toNat ∧ x.toNat ≤ 102 then some (x.toNat - 87) else if 65 ≤ x.toNat ∧ x.toNat ≤ 70 then some (x.toNat - 55) else none
def ME (y : UInt8) : Bool := De y || decide (y = 32) || decide (y = 35)
def Fm : Str → Option (UInt8 × Str)
  | [] => none
  | y :: r => if ME y = true then some (y, r) else match r with
    | [] => none
    | z :: r' => (Kg y).bind fun a => (Kg z).bind fun b => some (UInt8.ofNat (16 * a + b), r')
def Kh (first : Bool) (x : UInt8) : Bool := !De x && decide (32 ≤ x.toNat) && decide (x.toNat ≤ 126) && (!first || (decide (¬ x = 32) && decide (¬ x = 35)))
def MF (blank : Bool) (out s : Str) : Option (Str × Str) := if blank = false ∧ 1 ≤ out.length ∧ out.length ≤ 200 then some (out, s) else none
def DS : Nat → Bool → Str → Str → Option (Str × Str)
  | 0, _, _, _ => none
  | n + 1, blank, out, s =>
    match s with
    | [] => MF blank out []
    | x :: r => if x = 44 then MF blank out (x :: r) else if x = 92 then (Fm r).bind fun p => DS n false (out ++ [p.1]) p.2 else if Kh (decide (out = [])) x = true then DS n (decide (x = 32)) (out ++ [x]) r else none
def EP (s : Str) : Option (S89 × Str) :=
  match B7 s 61 with
  | none => none
  | some p => if BY p.1 = true then (DS (p.2.length + 1) false [] p.2).map fun q => (⟨p.1.map C0, q.1⟩, q.2) else none
def DE : Nat → Str → Option (List S89)
  | 0, _ => none
  | n + 1, s => (EP s).bind fun p => match p.2 with | [] => some [p.1] | _ :: r => (DE n r).map (p.1 :: ·)
def ER (s : Str) : Option (List S89) := if s = [] then some [] else DE 16 s
def At (p r : Str) : AH := ⟨p ++ r, (p.length : Int)⟩
theorem Dw {p r : Str} {x : UInt8} (h : (p ++ x :: r).length ≤ 10000000) : (⟨(At p (x :: r)).fs, IntKind.i64.wrap ((At p (x :: r)).fat + 1)⟩ : AH) = At (p ++ [x]) r := by
 simp only [List.length_append, List.length_cons] at h; simp only [At, B6 (show p.length < 9223372036854775807 by omega)]; simp
def hdN : Str → Int × Bool
  | [] => (0, false)
  | x :: _ => ((x.toNat : Int), true)
theorem CK (p r : Str) : Iw (At p r) = some (hdN r) := by
 unfold Iw At hdN; cases r with
 | nil => simp
 | cons x r =>
  simp only [List.length_append, List.length_cons]; rw [if_neg (by omega)]; refine Af ⟨by omega, by omega⟩ |>.trans ?_
  simp [List.getD_eq_getElem?_getD]
theorem Lo : ∀ (r p : Str), (p ++ r).length ≤ 10000000 → AN (fun s : Int × Bool × AH => Du s.1 s.2.1 s.2.2) ((hdN r).1, (hdN r).2, At p r) =
    some (match B7 r 61 with | none => At (p ++ r) [] | some q => At (p ++ q.1) (61 :: q.2))
  | [], p, h => by
    refine AR ?_
    simp [Du, B7, hdN]
  | y :: r, p, h => by
    by_cases hy : y = 61
    · subst hy
      refine AR ?_
      simp [Du, B7, hdN]
    · have hn : ¬ (y.toNat : Int) = 61 := fun e => hy ((Ka 61 rfl).1 e)
      have e1 : Du (y.toNat : Int) true (At p (y :: r)) = some (.inl ((hdN r).1, (hdN r).2, At (p ++ [y]) r)) := by
        unfold Du
        rw [if_pos rfl, if_pos hn, Dw h, CK]
        rfl
      rw [show ((hdN (y :: r)).1, (hdN (y :: r)).2, At p (y :: r)) = ((y.toNat : Int), true, At p (y :: r)) from rfl, Bu e1, Lo r (p ++ [y]) (by simpa using h)]
      have : B7 (y :: r) 61 = (B7 r 61).map fun p => (y :: p.1, p.2) := by rw [B7, if_neg hy]
      rw [this]
      cases B7 r 61 <;> simp
theorem W7 (p r : Str) (h : (p ++ r).length ≤ 1000000) : U1 (At p r) = some (match B7 r 61 with | none => .error () | some q => if BY q.1 = true then .ok (q.1.map C0, At (p ++ q.1 ++ [61]) q.2) else .error ()) := by
 unfold U1; rw [CK, Option.bind_some, Lo r p (by omega), Option.bind_some]; have hlen := h; simp only [List.length_append] at hlen; cases hc : B7 r 61 with
 | none =>
  simp only []; unfold GS; rw [CK, Option.bind_some]; simp only [At, hdN, Bool.false_eq_true, if_false]; rw [Af (by omega), Af (by simp; omega), Af (by simp)]
 | some q =>
  obtain ⟨t, r'⟩ := q; obtain ⟨h1, h2⟩ := Bc.1 hc; subst h1; simp only [List.length_append, List.length_cons] at hlen; simp only []; unfold GS; rw [CK, Option.bind_some]; have e0 : List.drop p.length (List.take (p ++ t).length (p ++ t ++ 61 :: r')) = t := by
   rw [List.take_left, List.drop_left]
  have e1 : ∀ {α : Type} (f g : α), (if true = true then f else g) = f := fun _ _ => rfl; rw [Af (by simp [At]), Af (by simp [At]; omega), Af (by simp [At]; omega)]; simp only [At, hdN, Int.toNat_natCast, e0, e1]; rw [TP t (by omega), Option.bind_some]; cases hn : BY t with
  | false => simp
  | true =>
   simp only [if_true]; rw [TV t (by omega), Option.bind_some, B6 (by simp; omega)]; simp; omega
end Go.Idl
