/- NodeShakes: the plugs of the law's run. -/
import Derived.Test.YtbkeeghkpkfeiaaGreatDoorNnF
namespace Go.Proofs.YtbkeeghkpkfeiaaGreatDoor
set_option linter.unusedVariables false
set_option linter.unusedSimpArgs false
open Go.RowKit Go.Maps
namespace Ev
/-- Any port. -/
def prng : AV := .iface 16777217 (.agg [.int .u16 0, .int .u16 65535])
def isArg : AV := .agg [.int .u32 0, .int .u64 0, .int .u8 0, .int .u8 0, .int .u8 0, .int .u8 0, .int .u8 0, .int .u8 0, .int .u8 0, .int .u8 0, .int .u8 0, .int .u8 0, .int .u8 0, .int .u8 0, .int .u8 0, .int .u8 0, .int .u8 0, .int .u8 0, prng]
noncomputable def isP (xs : List AV) (h : H) : E := bi (sameL xs [isArg]) (.ok (.bool false) h) (run fnT plug4 100 21 xs h)
theorem run4_ok (f : FuncId) : OneOk Tryz.prog f (run fnT plug4 100 f) := fun B W fit ι h w xs vs r h' rel hv e => by
  rw [fnT_eq] at e
  exact run_ok env ext_ok mixed fn_ok (fun f p e => plug4_ok f p e B W fit) 100 ι h w f xs vs r h' rel hv e
theorem VL.uncons {c : Cx} {a : AV} {l : List AV} {vs : List Value} (h : VL c (a :: l) vs) : ∃ v us, vs = v :: us ∧ V c a v ∧ VL c l us := by
  cases h with
  | cons h1 h2 => exact ⟨_, _, rfl, h1, h2⟩
theorem VL.empty {c : Cx} {vs : List Value} (h : VL c [] vs) : vs = [] := by cases h; rfl
theorem isP_ok : OneOk Tryz.prog 21 isP := by
  intro B W fit ι h w xs vs r h' rel hv e
  cases hs : sameL xs [isArg] with
  | false =>
    have e : bi (sameL xs [isArg]) (.ok (.bool false) h) (run fnT plug4 100 21 xs h) = .ok r h' := e
    rw [hs] at e
    exact run4_ok _ B W fit ι h w xs vs r h' rel hv e
  | true =>
    have e : bi (sameL xs [isArg]) (.ok (.bool false) h) (run fnT plug4 100 21 xs h) = .ok r h' := e
    rw [hs] at e
    obtain ⟨e1, e2⟩ := okE (show E.ok (.bool false) h = _ from e)
    subst e1 e2
    have hx := sameL_eq _ _ hs
    subst hx
    obtain ⟨v, us, rfl, h1, h2⟩ := hv.uncons
    have := h2.empty
    subst this
    have h1 : V (cx ι h w) (.agg [.int .u32 0, .int .u64 0, .int .u8 0, .int .u8 0, .int .u8 0, .int .u8 0, .int .u8 0, .int .u8 0, .int .u8 0, .int .u8 0, .int .u8 0, .int .u8 0, .int .u8 0, .int .u8 0, .int .u8 0, .int .u8 0, .int .u8 0, .int .u8 0, prng]) v := h1
    obtain ⟨us, rfl, h3, _⟩ := h1.agg_inv
    obtain ⟨a0, l0, rfl, b0, c0⟩ := h3.uncons
    obtain ⟨a1, l1, rfl, b1, c1⟩ := c0.uncons
    obtain ⟨a2, l2, rfl, b2, c2⟩ := c1.uncons
    obtain ⟨a3, l3, rfl, b3, c3⟩ := c2.uncons
    obtain ⟨a4, l4, rfl, b4, c4⟩ := c3.uncons
    obtain ⟨a5, l5, rfl, b5, c5⟩ := c4.uncons
    obtain ⟨a6, l6, rfl, b6, c6⟩ := c5.uncons
    obtain ⟨a7, l7, rfl, b7, c7⟩ := c6.uncons
    obtain ⟨a8, l8, rfl, b8, c8⟩ := c7.uncons
    obtain ⟨a9, l9, rfl, b9, c9⟩ := c8.uncons
    obtain ⟨a10, l10, rfl, b10, c10⟩ := c9.uncons
    obtain ⟨a11, l11, rfl, b11, c11⟩ := c10.uncons
    obtain ⟨a12, l12, rfl, b12, c12⟩ := c11.uncons
    obtain ⟨a13, l13, rfl, b13, c13⟩ := c12.uncons
    obtain ⟨a14, l14, rfl, b14, c14⟩ := c13.uncons
    obtain ⟨a15, l15, rfl, b15, c15⟩ := c14.uncons
    obtain ⟨a16, l16, rfl, b16, c16⟩ := c15.uncons
    obtain ⟨a17, l17, rfl, b17, c17⟩ := c16.uncons
    obtain ⟨a18, l18, rfl, b18, c18⟩ := c17.uncons
    have hn := c18.empty
    subst hn
    obtain ⟨n, rfl, _, _⟩ := rng_inv b18
    have b0 := b0.int_inv
    have b1 := b1.int_inv
    have b2 := b2.int_inv
    have b3 := b3.int_inv
    have b4 := b4.int_inv
    have b5 := b5.int_inv
    have b6 := b6.int_inv
    have b7 := b7.int_inv
    have b8 := b8.int_inv
    have b9 := b9.int_inv
    have b10 := b10.int_inv
    have b11 := b11.int_inv
    have b12 := b12.int_inv
    have b13 := b13.int_inv
    have b14 := b14.int_inv
    have b15 := b15.int_inv
    have b16 := b16.int_inv
    have b17 := b17.int_inv
    subst b0 b1 b2 b3 b4 b5 b6 b7 b8 b9 b10 b11 b12 b13 b14 b15 b16 b17
    refine ⟨fun w0 => enters_of Tryz.func21 (by kernel_rfl) rfl _ w0, (is_calls n w).mono ?_⟩
    rintro e w' ⟨rfl, hb⟩
    obtain ⟨s1, s2⟩ := rel.later hb
    exact ⟨_, ι, rfl, s1, s2, .bool _⟩
noncomputable def plug5 : FuncId → Option (List AV → H → E) := fun f => bi (Nat.beq f 21) (some isP) (plug4 f)
theorem plug5_ok : ∀ f p, plug5 f = some p → OneOk Tryz.prog f p := fun f p e => by
  unfold plug5 at e
  rcases bi_beq e with ⟨rfl, e⟩ | e
  · cases e; exact isP_ok
  exact plug4_ok f p e
end Ev
end Go.Proofs.YtbkeeghkpkfeiaaGreatDoor
