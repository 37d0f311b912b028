/-
  The law FnTexts holds: for every input the given program's laws.FnTexts returns true and leaves its argument as it was; no condition.
  The walk goes by the abstract machine (the texts Abs.. to K29), and Entry leads from it to the model. The frame is as the guide's own program wrote it.
-/
import Derived.Test.YtifiajbjfoigcaaGreatRows
import Derived.WalkKit
import Derived.ProofKit
import Derived.OpenShut
import Derived.ShutString
import Derived.ChangeOld
import Derived.Below
import Derived.Test.YtifiajbjfoigcaaGreatKd
import Derived.Test.YtifiajbjfoigcaaGreatEntry
namespace Go.Proofs.YtifiajbjfoigcaaGreat.fnTexts
open Go.ChangeShapes Go.WideShapes Go.ChangeAt Go.RowKit
open Go.ChangeMaps (open_string shut_string)
set_option linter.unusedVariables false

theorem own : ownKnob Tryz.prog.godebug = none := by kernel_rfl
theorem laidOut : laidOutB Tryz.prog = true := by kernel_rfl

open Go.RowKit (Below)

theorem walk (a0 : Option Addr) (len0 cap0 : Nat) (z0 : List Int) (w : World) (w0 : Go.Abs.InRow w a0 len0 cap0 z0) :
    Calls Tryz.prog 3 #[.slice a0 len0 cap0] w fun e w' => e = .returned (.bool true) ∧ Below w.heap.size w w' :=
  Go.Abs.enter_row (T := Go.Abs.TT) Tryz.checked.mixed (fun _ _ _ _ _ _ h _ => nomatch h) (fun H a l hl => Go.Abs.fnTexts_ret hl) (fun H a n hn => Go.Abs.fnTexts_big hn) w0

/-! ### THE ROW's STEP: WRITTEN OUT: LEAVE IT -/
set_option maxRecDepth 100000 in
theorem lifted (os : Os) (started : os.Started) (H : Type) (enc : TypeId × Value → H) :
    ReturnsInHanded {} Tryz.checked os 3 .any (Rows.fnTextsSpec.pre6 enc Tryz.prog Tryz.f3 Rows.fnTextsRow.domain false) (Rows.fnTextsSpec.post enc Tryz.prog Tryz.f3 false true false false) := by
  refine returnsInHanded_of_change (C := Tryz.checked) own started (by kernel_rfl) Tryz.func3
    (ChangeSpec.witness6 (enc := enc) (C := Tryz.checked) false ⟨#[], #[.slice none 0 0], []⟩ 8 (by kernel_rfl) (by kernel_rfl) (by kernel_rfl) (by kernel_rfl)) ?_
  intro W base args ds gs before hval0 hW hcnd _
  have hval : ∀ (j : Nat) t v, Tryz.f3.params[j]? = some t → args[j]? = some v → Value.okWide Tryz.prog W .any base t v := hval0
  have hW' := hW
  obtain ⟨p, q, hA0, hV, rfl, hfz, hnd⟩ := hW
  have hA : DataW.TrodAll enc Tryz.prog W 0 (fun _ => true) true Tryz.f3.params.toList args.toList ds p := hA0
  rw [Tryz.params3] at hA hval
  obtain ⟨v0, vs0, d0, ds0, p0, q0, hargs, rfl, rfl, h0, r0⟩ := trodAll_cons hA
  obtain ⟨rfl, rfl, rfl⟩ := trodAll_nil r0
  obtain rfl : args = #[v0] := by cases args; simp_all
  obtain ⟨rfl, rfl⟩ := trodVars_none hV
  obtain ⟨a0, len0, cap0, rfl⟩ := okWide_slice Tryz.underlying22 (hval 0 22 v0 rfl rfl)
  have k0 := h0
  have lt0 : ∀ x ∈ p0, x.block < W.heap.size := by obtain ⟨m, hm⟩ := k0; exact DataW.trod_lt m _ _ _ hm
  obtain ⟨z0, w0⟩ : ∃ zs, Go.Abs.InRow W a0 len0 cap0 zs := by
    obtain ⟨fuel, hf⟩ := h0
    rcases open_ints Tryz.underlying22 Tryz.underlying5 (by kernel_rfl) hf with ⟨hcs, _⟩ | ⟨x, l, c, zs, hcs, _, hl, hm, hz, hx, hcell, hwz⟩
    · simp [Value.cells] at hcs
      obtain ⟨rfl, rfl, rfl⟩ := hcs
      exact ⟨[], .inl ⟨rfl, rfl, rfl⟩⟩
    · simp [Value.cells] at hcs
      obtain ⟨rfl, rfl, rfl⟩ := hcs
      have hv := hval 0 22 (.slice (some x) len0 cap0) rfl rfl
      simp only [Value.okWide, Tryz.underlying22, Cell.okWide, Cell.ok, World.has] at hv
      obtain ⟨_, _, _, hspot, row, n, hsh, _⟩ := hv
      obtain ⟨b, off, spot⟩ := x
      simp only at hspot
      subst hspot
      have hp0 : p0 = MemPlace.row ⟨b, off, none⟩ zs.length := (Prod.mk.inj hx).2
      have hz' : zs.length = cap0 := by simpa using hz
      have hadd : ∀ k, (⟨b, off, none⟩ : Addr).add k = ⟨b, off + k, none⟩ := by intro k; unfold Addr.add; split <;> simp_all
      unfold World.shape? at hsh
      simp only at hsh
      cases hb : W.heap[b]? with
      | none => rw [hb] at hsh; cases hsh
      | some ob =>
        rw [hb] at hsh
        cases ob with
        | cells C t f =>
          refine ⟨zs, .inr ⟨b, off, C, t, f, rfl, hl, hz', hb, fun i hi => ?_, fun n hn => ?_, fun i hi => ?_⟩⟩
          · have := hcell i (by omega)
            rw [hadd] at this
            simpa [World.cell?, hb] using this
          · have := bounds_u8 (hwz n hn)
            omega
          · have := hfz b (off + i) (by rw [hp0]; simp [MemPlace.row]; omega)
            simp [World.frozen?, hb] at this
            omega
        | _ => cases hsh
  clear hA0 hval0
  refine (walk a0 len0 cap0 z0 W w0).mono fun e W' ⟨he, bel⟩ => ?_
  subst he
  exact ⟨_, rfl, _, _, _, [], _, [], hW', trodAll_mk1 (shut_bool Tryz.underlying4 _), (trodAll_cons_mk (Below.trod laidOut (by kernel_rfl) (of_decide_eq_true (by kernel_rfl)) k0 bel lt0) trodAll_mk0), rfl, bel.frame _, fun h => by cases h⟩

theorem over : Rows.fnTextsRow.holds Tryz.pinned (OpenSpec.ofChange Rows.fnTextsSpec) :=
  OpenClaim.holds_of_wide 3 Tryz.f3 rfl rfl rfl rfl rfl rfl rfl ⟨rfl, rfl, rfl, rfl, rfl⟩ rfl rfl rfl rfl rfl (by kernel_rfl) Tryz.func3 (by kernel_rfl)
    (of_decide_eq_true (by kernel_rfl)) (by unfold Func.isWrapper; first | (rw [if_pos (by decide +kernel)]; kernel_rfl) | (rw [if_neg (by decide +kernel)]; exact ⟨rfl, rfl⟩))
    (fun os started H enc _ => lifted os started H enc)

/-- ████ THE STATEMENT ████ -/
theorem proved : Rows.FnTextsSaid := over
#print axioms proved
end Go.Proofs.YtifiajbjfoigcaaGreat.fnTexts
