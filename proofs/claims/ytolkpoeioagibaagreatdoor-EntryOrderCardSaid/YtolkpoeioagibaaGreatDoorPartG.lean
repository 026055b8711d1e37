/- EntryOrder returns true whatever its arguments and leaves them as they were. Part 7. Conditions: none. -/
import Derived.Test.YtolkpoeioagibaaGreatDoorPartF
import Derived.Test.YtolkpoeioagibaaGreatDoorRows
import Derived.Test.YtolkpoeioagibaaGreatDoorTie
import Derived.Test.YtolkpoeioagibaaGreatDoorCards
import Derived.LaidMore
import Derived.Carry
import Derived.Stop.Joined
import Derived.SevenTiedAt
import Derived.SizedLaws
set_option linter.unusedSimpArgs false
set_option linter.unusedVariables false

namespace Go.Proofs.YtolkpoeioagibaaGreatDoor

open Go Go.ChangeShapes Go.WideShapes Go.ChangeAt Go.RowKit Go.Idl

theorem ownNone : ownKnob Tryz.prog.godebug = none := by kernel_rfl

theorem laidOutAll : laidOutB Tryz.prog = true := by kernel_rfl

def laidE : List (String × DataW Unit) := Rows.entryDoesRow.laid

theorem door_met (os : Os) (args : Array Value) : laidMetH Tryz.prog laidE ((World.doorLaid Tryz.prog 400 os).forCall (fun _ _ => 0) ⟨#[], args, []⟩).memory :=
  laidMetH_of_parts3 (fuel := 8) (laidMet_of_run' 8 (by kernel_rfl) (by kernel_rfl)) (by kernel_rfl) (by kernel_rfl)

section

variable {w : World} {Hh : Type} {enc : TypeId × Value → Hh}

theorem rd9 : Rd Tryz.prog w enc 9 fun is => ∃ s : List UInt8, is = [.v (str s)] := Rd_string Tryz.underlying9

theorem rd40 : Rd Tryz.prog w enc 40 fun is => ∃ l : List (List UInt8), is = [.sl 1 (l.map fun x => [.v (str x)])] := by
  have h := Rd_slice (w := w) (enc := enc) (fun s : List UInt8 => [IV.v (str s)]) Tryz.underlying40 (Nat.lt_of_lt_of_eq Nat.one_pos cells9.symm) rd9
  rw [cells9] at h
  exact h

theorem rd51 : Rd Tryz.prog w enc 51 fun is => ∃ x : S50, is = [.v (str x.fName), .sl 1 (x.fValues.map fun x => [.v (str x)])] := by
  intro base spare held fuel cs x h
  obtain ⟨is, ⟨n, l, rfl⟩, h1, h2⟩ := Rd_struct2 (fun s : List UInt8 => IV.v (str s)) (fun l : List (List UInt8) => IV.sl 1 (l.map fun x => [.v (str x)])) Tryz.underlying51 cells51 rfl rfl cells9 cells40 rd9 rd40 base spare held fuel cs x h
  exact ⟨_, ⟨⟨n, l⟩, rfl⟩, h1, h2⟩

theorem rd22 : Rd Tryz.prog w enc 22 fun is => ∃ l : List S50, is = [eS l] := by
  have h := Rd_slice (w := w) (enc := enc) (fun x : S50 => [IV.v (str x.fName), .sl 1 (x.fValues.map fun x => [.v (str x)])]) Tryz.underlying22 (Nat.lt_of_lt_of_eq (by decide : 0 < 2) cells51.symm) rd51
  rw [cells51] at h
  exact h

end

end Go.Proofs.YtolkpoeioagibaaGreatDoor

namespace Go.Proofs.YtolkpoeioagibaaGreatDoor

open Go Go.ChangeShapes Go.WideShapes Go.ChangeAt Go.RowKit Go.Idl

set_option maxRecDepth 100000 in
theorem entryOrder_lifted (os : Os) (started : os.Started) (H : Type) (enc : TypeId × Value → H) :
    ReturnsInHanded {} Tryz.checked os 4 .any (fun w args => (Rows.entryOrderSpec.pre enc Tryz.prog Tryz.f4 [] false w args ∧ laidMetH Tryz.prog laidE w) ∧ sizedMet enc Tryz.prog Tryz.f4 (OpenSpec.ofChange Rows.entryOrderSpec) false w args)
      (Rows.entryOrderSpec.post enc Tryz.prog Tryz.f4 false true false false) := by
  refine returnsInHanded_of_change_and (C := Tryz.checked) (X := fun w _ => laidMetH Tryz.prog laidE w) (fun _ _ _ hh h => h.of_heap hh) ownNone started (by kernel_rfl) Tryz.func4
    (ChangeSpec.witness_shaped (enc := enc) (C := Tryz.checked) (os := os) (X := fun w _ => laidMetH Tryz.prog laidE w) false (World.doorLaid Tryz.prog 400 os) #[.slice none 0 0, .string ⟨#[]⟩] 8 rfl (World.shaped_of_RefB (by kernel_rfl) (by kernel_rfl)) (by kernel_rfl) (by kernel_rfl) (by kernel_rfl) (door_met os _)) ?_
  intro W base args ds gs before hval0 hW _ hwt hL _
  have hval : ∀ (j : Nat) t v, Tryz.f4.params[j]? = some t → args[j]? = some v → Value.okWide Tryz.prog W .any base t v := hval0
  have hW' := hW
  obtain ⟨p, q, hA0, hV, rfl, hfz, hnd⟩ := hW
  have hA : DataW.TrodAll enc Tryz.prog W 0 (fun _ => true) true Tryz.f4.params.toList args.toList ds p := hA0
  rw [Tryz.params4] at hA hval
  obtain ⟨v0, v1, d0, d1, p0, p1, rfl, rfl, rfl, h0, h1⟩ := trodAll_two hA
  obtain ⟨rfl, rfl⟩ := trodVars_none hV
  simp only [List.append_nil] at hW'
  have hlt := hW'.lt
  obtain ⟨a0, len0, cap0, rfl⟩ := okWide_slice Tryz.underlying22 (hval 0 22 v0 rfl rfl)
  obtain ⟨s1, rfl⟩ := okWide_string Tryz.underlying9 (hval 1 9 v1 rfl rfl)
  obtain ⟨i0, ⟨x0, e0⟩, r0⟩ := rd22.one rfl h0
  simp only [List.cons.injEq, and_true] at e0
  subst e0
  obtain ⟨i1, ⟨x1, e1⟩, r1⟩ := rd9.one rfl h1
  simp only [List.cons.injEq, and_true] at e1
  subst e1
  have hcall := (F4_ok (H := H0) (K := fun e _ => e = .ret (.v (.bool true))) x0 x1 (F4_eq x0 x1) rfl).run W g0 #[.slice a0 len0 cap0, .string s1] (sim0 W) ⟨rfl, fun j x i hx hi => by
    match j, hx, hi with
    | 0, hx, hi => simp at hx hi; subst hx; subst hi; exact r0
    | 1, hx, hi => simp at hx hi; subst hx; subst hi; exact r1
    | j + 2, hx, hi => simp at hx⟩
  refine hcall.mono ?_
  rintro e W' ⟨ie, g', H', hm, _, hre, rfl⟩
  have hb := below_of_mono hm
  obtain ⟨rfl⟩ : e = .returned (.bool true) := by
    cases hre with
    | ret x i h => rw [h.v_eq]
  refine ⟨_, rfl, ?_⟩
  refine ⟨_, _, _, [], p0 ++ p1, [], hW', trodAll_mk1 (shut_bool Tryz.underlying4 _), ?_, ?_, hb.frame _, fun h => by cases h⟩
  · have hl0 : ∀ x ∈ p0, x.block < W.heap.size := fun x hx => hlt x (by simp [hx])
    have hl1 : ∀ x ∈ p1, x.block < W.heap.size := fun x hx => hlt x (by simp [hx])
    have k0 := Below.trod laidOutAll (by kernel_rfl) (of_decide_eq_true (by kernel_rfl)) h0 hb hl0
    have k1 := Below.trod laidOutAll (by kernel_rfl) (of_decide_eq_true (by kernel_rfl)) h1 hb hl1
    exact ⟨p0, p1, k0, ⟨p1, [], k1, rfl, by simp⟩, by simp⟩
  · rfl

theorem entryOrder_row : Rows.EntryOrderSaid :=
  OpenClaim.holds_of_wide 4 Tryz.f4 rfl rfl rfl rfl rfl rfl rfl ⟨rfl, rfl, rfl, rfl, rfl⟩ rfl rfl rfl rfl rfl (by kernel_rfl) Tryz.func4 (by kernel_rfl)
    (of_decide_eq_true (by kernel_rfl)) (by unfold Func.isWrapper; first | (rw [if_pos (by decide +kernel)]; kernel_rfl) | (rw [if_neg (by decide +kernel)]; exact ⟨rfl, rfl⟩))
    (fun os started H enc _ => entryOrder_lifted os started H enc)

theorem entryOrder_holds : Rows.EntryOrderCardSaid :=
  Claim7.holds_tied_plain_at .later [] [.data, .data, .data] true (true, "50e4754251813c10f565251bd7064b64b9978502f0b8e6034c86890fe2975e00") true
    entryOrder_row (fun _ h => by cases h) (by kernel_rfl) (fun _ h => by cases h) entryOrder_row_tie rfl ⟨rfl, rfl⟩ (by kernel_rfl) rfl
    (fun f fn hf hfn => by
      obtain rfl : f = 4 := Option.some.inj ((show Tryz.prog.funcNamed "cardcase/cardcaselaw07.EntryOrder" = some 4 by kernel_rfl).symm.trans hf) |>.symm
      obtain rfl : fn = Tryz.f4 := (Option.some.inj (Tryz.func4.symm.trans hfn)).symm
      exact ⟨by kernel_rfl, fun j t ht => by
        rw [Tryz.params4] at ht
        have hm : t ∈ [22, 9] := by simpa using Array.mem_of_getElem? ht
        have hall : ([22, 9].all fun u => !Tryz.prog.wantsStandIn u) = true := by kernel_rfl
        exact (show Tryz.prog.wantsStandIn t = false by simpa using List.all_eq_true.1 hall t hm)⟩)
    (by kernel_rfl)

end Go.Proofs.YtolkpoeioagibaaGreatDoor
