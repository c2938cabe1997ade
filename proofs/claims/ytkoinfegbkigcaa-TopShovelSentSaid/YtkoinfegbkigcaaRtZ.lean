/- TopShovelSent, whole. -/
import Derived.Test.YtkoinfegbkigcaaRtTS
import Derived.Test.YtkoinfegbkigcaaRtY
import Derived.Test.YtkoinfegbkigcaaRows
import Derived.Laws.IdiomArrays
namespace Go.Proofs.Ytkoinfegbkigcaa
open Go.ChangeShapes Go.WideShapes Go.ChangeAt Go.RowKit Go.Rt

theorem Try.own : ownKnob Try.prog.godebug = none := by kernel_rfl
theorem Try.laidOut : laidOutB Try.prog = true := by kernel_rfl

theorem wf_i8 {n : Int} (h : (Lit.int .i8 n).wf = true) : SmpR n := by
  simpa [Lit.wf, IntKind.min, IntKind.max, IntKind.signed, IntKind.bits, SmpR] using h

theorem openD3 {H : Type} {enc : TypeId × Value → H} {w : World} {base : Nat} {spare : Nat → Bool} {held : Bool} : OpenT enc Try.prog w base spare held 31 D3 D3ok := ⟨fun n cs y h hl => by
  have hl' : cs.length = 3 := hl
  match cs, hl' with
  | [c0, c1, c2], _ =>
    obtain ⟨y0, y1, y2, m, _, h0, h1, h2⟩ := trod_array3 Try.underlying31 (by kernel_rfl) h
    obtain ⟨a, e0, _, w0⟩ := DataW.trod_int Try.underlying30 h0
    obtain ⟨b, e1, _, w1⟩ := DataW.trod_int Try.underlying30 h1
    obtain ⟨c, e2, _, w2⟩ := DataW.trod_int Try.underlying30 h2
    simp only [List.cons.injEq, and_true] at e0 e1 e2
    subst e0; subst e1; subst e2
    refine ⟨(a, b, c), ⟨wf_i8 w0, wf_i8 w1, wf_i8 w2⟩, fun i T e => ?_⟩
    match i, e with
    | 0, e => cases e; exact ⟨_, rfl, rfl⟩
    | 1, e => cases e; exact ⟨_, rfl, rfl⟩
    | 2, e => cases e; exact ⟨_, rfl, rfl⟩⟩

set_option maxRecDepth 100000 in
theorem sent_lifted (os : Os) (started : os.Started) (H : Type) (enc : TypeId × Value → H) :
    ReturnsInHanded {} Try.checked os 3 .any (Rows.topShovelSentSpec.pre6 enc Try.prog Try.f3 Rows.topShovelSentRow.domain false) (Rows.topShovelSentSpec.post enc Try.prog Try.f3 false true false false) := by
  refine returnsInHanded_of_change (C := Try.checked) Try.own started (by kernel_rfl) Try.func3
    (ChangeSpec.witness6 (enc := enc) (C := Try.checked) false ⟨#[], #[.slice none 0 0, .int .u16 0], []⟩ 8 (by kernel_rfl) (by kernel_rfl) (by kernel_rfl) (by kernel_rfl)) ?_
  intro W base args ds gs before hval0 hW hcnd _
  have hval : ∀ (j : Nat) t v, Try.f3.params[j]? = some t → args[j]? = some v → Value.okWide Try.prog W .any base t v := hval0
  have hW' := hW
  obtain ⟨p, q, hA0, hV, rfl, hfz, hnd⟩ := hW
  have hA : DataW.TrodAll enc Try.prog W 0 (fun _ => true) true Try.f3.params.toList args.toList ds p := hA0
  have hA1 := hA
  have hpar : Try.f3.params = #[22, 23] := Try.params3
  rw [hpar] at hA hval
  obtain ⟨v0, v1, d0, d1, p0, p1, rfl, rfl, rfl, h0, h1⟩ := trodAll_two hA
  obtain ⟨rfl, rfl⟩ := trodVars_none hV
  obtain ⟨xs, hsl, hxs⟩ := open_sl (α := D3) Try.underlying22 (by kernel_rfl) openD3 (hval 0 22 v0 rfl rfl) h0
  obtain ⟨L, rfl, rfl, rfl, wL⟩ := open_int Try.underlying23 (hval 1 23 v1 rfl rfl) h1
  have hL : 0 ≤ L ∧ L ≤ 65535 := by simpa [Lit.wf, IntKind.min, IntKind.max, IntKind.signed, IntKind.bits] using wL
  obtain ⟨l, rfl⟩ : ∃ l : Nat, L = l := ⟨L.toNat, by omega⟩
  simp only [List.append_nil] at hW' hA1
  refine (FnS.calls (topSent_fn xs l (by omega) hxs) (W := W) (args := #[v0, .int .u16 l]) ?_).mono ?_
  · refine ⟨rfl, fun i A e => ?_⟩
    match i, e with
    | 0, e => cases e; exact hsl
    | 1, e => cases e; rfl
  · rintro e W' ⟨v, V', rfl, hev, hv⟩
    have hv' : v = .bool true := hv
    subst hv'
    refine ⟨_, rfl, post_true Try.laidOut ?_ (by kernel_rfl) Try.underlying4 rfl rfl hA1 hW' hev⟩
    intro t ht
    rw [hpar] at ht
    simp only [List.mem_cons, List.not_mem_nil, or_false] at ht
    rcases ht with rfl | rfl
    · exact ⟨by kernel_rfl, of_decide_eq_true (by kernel_rfl)⟩
    · exact ⟨by kernel_rfl, of_decide_eq_true (by kernel_rfl)⟩

theorem sent_holds : Rows.TopShovelSentSaid :=
  OpenClaim.holds_of_wide 3 Try.f3 rfl rfl rfl rfl rfl rfl rfl ⟨rfl, rfl, rfl, rfl, rfl⟩ rfl rfl rfl rfl rfl (by kernel_rfl) Try.func3 (by kernel_rfl)
    (of_decide_eq_true (by kernel_rfl)) (by unfold Func.isWrapper; first | (rw [if_pos (by decide +kernel)]; kernel_rfl) | (rw [if_neg (by decide +kernel)]; exact ⟨rfl, rfl⟩))
    (fun os started H enc _ => sent_lifted os started H enc)
end Go.Proofs.Ytkoinfegbkigcaa
