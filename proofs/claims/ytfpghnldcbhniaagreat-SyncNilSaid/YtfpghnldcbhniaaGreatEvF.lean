/- Operations that only reckon, on: slice expressions, literals, comparisons, lengths. -/
import Derived.Test.YtfpghnldcbhniaaGreatEvE
namespace Go.Proofs.YtfpghnldcbhniaaGreat
set_option linter.unusedVariables false
set_option linter.unusedSimpArgs false
open Go.RowKit Go.Maps
namespace Ev

section
variable {P : Program} {c : Cx} {fr : Fr} {h h' : H} {x y z : Opd} {vx vy vz : Value} {r : AV}
/-- Operands that may lack. -/
inductive OO (c : Cx) (fr : Fr) : Option Opd → Option Value → Prop
  | none : OO c fr none none
  | some {x : Opd} {v : Value} : V c (x fr) v → OO c fr (some x) (some v)
inductive ON : Option Nat → Option Value → Prop
  | none : ON none none
  | some (k : IntKind) (n : Nat) : ON (some n) (some (.int k (n : Int)))
theorem opt_ok {o : Option Opd} {v : Option Value} {f : Option Nat → E} (ho : OO c fr o v) (e : optN o fr .no f = .ok r h') : ∃ m, ON m v ∧ f m = .ok r h' := by
  cases ho with
  | none => exact ⟨_, .none, e⟩
  | some hx =>
    obtain ⟨k, n, ex, e⟩ := nat_ok (show AV.nat? _ E.no _ = _ from e)
    rw [ex] at hx
    rw [nat_val hx]
    exact ⟨_, .some k n, e⟩
theorem s_bounds (b : Bool) {len cap' : Nat} {cap lo hi mx : Option Nat} {vlo vhi vmx : Option Value} {f : Nat → Nat → Option Nat → E} (hcap : ∀ k, cap = some k → cap' = k) (hlen : len ≤ cap') (hlo : ON lo vlo) (hhi : ON hi vhi) (hmx : ON mx vmx)
    (e : sliceM len cap lo hi mx f = .ok r h') :
    ∃ l u m m', f l u m = .ok r h' ∧ (∀ w, (Instr.sliceBounds b len cap' vlo vhi vmx).run P w = .ok (l, u, m') w) ∧ l ≤ u ∧ u ≤ m' ∧ m' ≤ cap' ∧ (∀ k, m = some k → m' = k) ∧ (m = none → m' = cap') := by
  have inner : ∀ {cap : Option Nat} {cap' : Nat} {hi : Option Nat}, (∀ k, cap = some k → cap' = k) → (cap = none → len ≤ cap') → sliceB len cap lo hi f = .ok r h' →
      ∃ l u, f l u cap = .ok r h' ∧ l = lo.getD 0 ∧ u = hi.getD len ∧ l ≤ u ∧ u ≤ cap' := by
    intro cap cap' hi hc hlc e
    obtain ⟨h1, e⟩ := biE (show bi _ (bi _ _ _) _ = _ from e)
    obtain ⟨h2, e⟩ := biE e
    have h1' := Nat.le_of_ble_eq_true h1
    have h2' := Nat.le_of_ble_eq_true h2
    refine ⟨_, _, e, by cases lo <;> rfl, by cases hi <;> rfl, h2', Nat.le_trans h1' ?_⟩
    cases cap with
    | none => exact hlc rfl
    | some k => rw [hc k rfl]; exact Nat.le_refl _
  cases hmx with
  | none =>
    obtain ⟨l, u, h1, rfl, rfl, h2, h3⟩ := inner hcap (fun _ => hlen) (show sliceB len cap lo hi f = _ from e)
    refine ⟨_, _, cap, cap', h1, fun w => ?_, h2, h3, Nat.le_refl _, hcap, fun _ => rfl⟩
    cases hhi with
    | none =>
      cases hlo with
      | none => simp [Instr.sliceBounds]
      | some k n =>
        simp only [Option.getD] at h2 h3 ⊢
        simp [Instr.sliceBounds, run_sliceBound _ _ _ _ _ (Int.natCast_nonneg n) (Int.ofNat_le.2 h2)]
    | some k n =>
      simp only [Option.getD] at h2 h3 ⊢
      cases hlo with
      | none => simp [Instr.sliceBounds, run_sliceBound _ _ _ _ _ (Int.natCast_nonneg n) (Int.ofNat_le.2 h3)]
      | some k' n' =>
        simp only at h2
        simp [Instr.sliceBounds, run_sliceBound _ _ _ _ _ (Int.natCast_nonneg n) (Int.ofNat_le.2 h3), run_sliceBound _ _ _ _ _ (Int.natCast_nonneg n') (Int.ofNat_le.2 h2)]
  | some km m =>
    cases hhi with
    | none => cases e
    | some k n =>
      obtain ⟨h0, e⟩ := biE (show bi _ (sliceB len (some m) lo (some n) f) E.no = _ from e)
      have h0' := Nat.le_of_ble_eq_true h0
      have hm : m ≤ cap' := by
        refine Nat.le_trans h0' ?_
        cases cap with
        | none => exact hlen
        | some k => rw [hcap k rfl]; exact Nat.le_refl _
      obtain ⟨l, u, h1, hl, hu, h2, h3⟩ := inner (cap := some m) (cap' := m) (fun k hk => by cases hk; rfl) (fun hk => by cases hk) e
      have hu' : u = n := hu
      subst hu'
      refine ⟨l, u, some m, m, h1, fun w => ?_, h2, h3, hm, fun k hk => by cases hk; rfl, fun hk => by cases hk⟩
      cases hlo with
      | none =>
        have hl' : l = 0 := hl
        subst hl'
        simp [Instr.sliceBounds, run_sliceBound _ _ _ _ _ (Int.natCast_nonneg u) (Int.ofNat_le.2 h3), run_sliceBound _ _ _ _ _ (Int.natCast_nonneg m) (Int.ofNat_le.2 hm)]
      | some k' n' =>
        have hl' : l = n' := hl
        subst hl'
        simp [Instr.sliceBounds, run_sliceBound _ _ _ _ _ (Int.natCast_nonneg u) (Int.ofNat_le.2 h3), run_sliceBound _ _ _ _ _ (Int.natCast_nonneg l) (Int.ofNat_le.2 h2), run_sliceBound _ _ _ _ _ (Int.natCast_nonneg m) (Int.ofNat_le.2 hm)]
theorem cut_V {b : Pos} {o o' sz q c' l u m' : Nat} {m : Option Nat} (h1 : b.num < c.nx) (h4 : c.lv b → c.ι b = some q ∧ (o' = o ∨ c' = 0) ∧ o' + c' * sz ≤ c.bs q) (hlu : l ≤ u) (hum : u ≤ m') (hmc : m' ≤ c') (hm : ∀ k, m = some k → m' = k) :
    V c (cutTo b o sz l u m) (.slice (some (if m' = l then (⟨q, o', none⟩ : Addr) else (⟨q, o', none⟩ : Addr).add (l * sz))) (u - l) (m' - l)) := by
  have hmul : l * sz + (m' - l) * sz = m' * sz := by rw [← Nat.add_mul]; congr 1; omega
  have hle : m' * sz ≤ c' * sz := Nat.mul_le_mul_right _ hmc
  have same : m' = l → V c (.slice b o (u - l) (some (m' - l)) sz) (.slice (some (⟨q, o', none⟩ : Addr)) (u - l) (m' - l)) := fun e =>
    .slice b o _ _ sz q o' _ h1 (by omega) (fun k hk => by cases hk; rfl) fun hl => by
      obtain ⟨h5, h6, h7⟩ := h4 hl
      refine ⟨h5, .inr (by omega), ?_⟩
      rw [show m' - l = 0 by omega]
      omega
  have away : ∀ cap : Option Nat, (∀ k, cap = some k → m' - l = k) → V c (.slice b (o + l * sz) (u - l) cap sz) (.slice (some (if m' = l then (⟨q, o', none⟩ : Addr) else (⟨q, o', none⟩ : Addr).add (l * sz))) (u - l) (m' - l)) := by
    intro cap hcap
    by_cases e : m' = l
    · rw [if_pos e]
      refine .slice b _ _ _ sz q o' _ h1 (by omega) hcap fun hl => ?_
      obtain ⟨h5, h6, h7⟩ := h4 hl
      refine ⟨h5, .inr (by omega), ?_⟩
      rw [show m' - l = 0 by omega]
      omega
    · rw [if_neg e, Addr.add_lit]
      refine .slice b _ _ _ sz q _ _ h1 (by omega) hcap fun hl => ?_
      obtain ⟨h5, h6, h7⟩ := h4 hl
      exact ⟨h5, .inl (by rcases h6 with h6 | h6 <;> omega), by omega⟩
  cases m with
  | none => exact away none (fun k hk => by cases hk)
  | some k =>
    have hk := hm k rfl
    subst hk
    show V c (bi (Nat.beq m' l) _ _) _
    by_cases e : m' = l
    · have hb : Nat.beq m' l = true := by simpa using e
      rw [hb, if_pos e]
      exact same e
    · have hb : Nat.beq m' l = false := by rw [Bool.eq_false_iff]; simpa using e
      rw [hb]
      exact away _ (fun k hk => by cases hk; rfl)
theorem s_slc {t e : TypeId} {sz : Nat} {lo hi mx : Option Opd} {vlo vhi vmx : Option Value} (hu : P.underlying t = some (.slice e)) (hs : ∀ w, (sizeOf e).run P w = .ok sz w) (hlo : OO c fr lo vlo) (hhi : OO c fr hi vhi) (hmx : OO c fr mx vmx)
    (hx : V c (x fr) vx) (he : xSlc sz x lo hi mx fr h = .ok r h') : h' = h ∧ ∃ u, V c r u ∧ ∀ w, (Instr.sliceAt t vx vlo vhi vmx).run P w = .ok u w := by
  obtain ⟨lo', g1, he⟩ := opt_ok hlo he
  obtain ⟨hi', g2, he⟩ := opt_ok hhi he
  obtain ⟨mx', g3, he⟩ := opt_ok hmx he
  rcases slice_ok' he with ⟨ex, he⟩ | ⟨b, o, n, k, s, ex, he⟩
  · rw [ex] at hx
    obtain ⟨l, u, m, m', h1, h2, h3, h4, h5, h6, h7⟩ := s_bounds (P := P) (cap' := 0) true (fun k hk => by cases hk; rfl) (Nat.le_refl _) g1 g2 g3 he
    obtain ⟨e1, e2⟩ := okE h1
    subst e1
    cases hx
    have : m' = 0 ∧ u = 0 ∧ l = 0 := by omega
    obtain ⟨rfl, rfl, rfl⟩ := this
    exact ⟨e2.symm, _, .nils, fun w => by simp [Instr.sliceAt, run_underlying hu, Instr.slice, h2, hs]⟩
  · rw [ex] at hx
    obtain ⟨hsz, he⟩ := biE he
    have hsz := Nat.eq_of_beq_eq_true hsz
    subst hsz
    obtain ⟨q, o', c', rfl, g4, g5, g6, g7⟩ := hx.slice_inv
    obtain ⟨l, u, m, m', h1, h2, h3, h4, h5, h6, h7⟩ := s_bounds (P := P) true g6 g5 g1 g2 g3 he
    obtain ⟨e1, e2⟩ := okE h1
    subst e1
    refine ⟨e2.symm, _, cut_V g4 g7 h3 h4 h5 h6, fun w => ?_⟩
    simp only [Instr.sliceAt, Sem.run_bind, run_underlying hu, Result.andThen_ok, Instr.slice, h2, hs, Sem.run_pure]
    by_cases e : m' = l <;> simp [e]
theorem s_slstr {t : TypeId} {lo hi : Option Opd} {vlo vhi : Option Value} (hu : P.underlying t = some .string) (hlo : OO c fr lo vlo) (hhi : OO c fr hi vhi)
    (hx : V c (x fr) vx) (he : xSlstr x lo hi fr h = .ok r h') : h' = h ∧ ∃ u, V c r u ∧ ∀ w, (Instr.sliceAt t vx vlo vhi none).run P w = .ok u w := by
  obtain ⟨lo', g1, he⟩ := opt_ok hlo he
  obtain ⟨hi', g2, he⟩ := opt_ok hhi he
  obtain ⟨s, ex, he⟩ := str_ok he
  rw [ex] at hx
  rw [hx.str_inv]
  obtain ⟨l, u, m, m', h1, h2, h3, h4, h5, h6, h7⟩ := s_bounds (P := P) (cap' := s.length) false (fun k hk => by cases hk; rfl) (Nat.le_refl _) g1 g2 .none he
  obtain ⟨e1, e2⟩ := okE h1
  subst e1
  refine ⟨e2.symm, _, .str _, fun w => ?_⟩
  have hs : (ByteArray.mk s.toArray).size = s.length := by simp [ByteArray.size]
  simp only [Instr.sliceAt, Sem.run_bind, run_underlying hu, Result.andThen_ok, Instr.slice, hs, h2, Sem.run_pure]
  have : (ByteArray.mk s.toArray).extract l u = ⟨((s.drop l).take (u - l)).toArray⟩ := by
    apply ByteArray.ext
    simp [List.take_drop]
  simp [h2, this]
theorem s_slarr {B : Nat} {W w0 : World} {ι : Pos → Option Nat} {t e : TypeId} {n sz : Nat} {lo hi mx : Option Opd} {vlo vhi vmx : Option Value} (rel : Rel P B W ι h w0) (hc : c = cx ι h w0)
    (hu : P.underlying t = some (.array n e)) (hs : ∀ w, (sizeOf e).run P w = .ok sz w) (hlo : OO c fr lo vlo) (hhi : OO c fr hi vhi) (hmx : OO c fr mx vmx)
    (hx : V c (x fr) vx) (he : xSlarr n sz x lo hi mx fr h = .ok r h') : h' = h ∧ ∃ u, V c r u ∧ ∀ w, (Instr.sliceAt t vx vlo vhi vmx).run P w = .ok u w := by
  obtain ⟨lo', g1, he⟩ := opt_ok hlo he
  obtain ⟨hi', g2, he⟩ := opt_ok hhi he
  obtain ⟨mx', g3, he⟩ := opt_ok hmx he
  obtain ⟨b, o, ex, he⟩ := ptr_ok he
  obtain ⟨ob0, hob, he⟩ := obE (show ob (h.obj b) E.no _ = _ from he)
  cases ob0 with
  | map => cases he
  | iter => cases he
  | cells cs ty fz =>
  obtain ⟨hb, he⟩ := biE (show bi _ _ _ = _ from he)
  rw [ex] at hx
  obtain ⟨q, o', rfl, g4, g5⟩ := hx.ptr_inv
  obtain ⟨l, u, m, m', h1, h2, h3, h4, h5, h6, h7⟩ := s_bounds (P := P) (cap' := n) false (fun k hk => by cases hk; rfl) (Nat.le_refl _) g1 g2 g3 he
  obtain ⟨e1, e2⟩ := okE h1
  subst e1
  have hv := cut_V (o := o) (o' := o') (q := q) (sz := sz) g4 (fun hl => ⟨(g5 hl).1, .inl (g5 hl).2, by
    obtain ⟨h8, h9⟩ := g5 hl
    subst hc
    obtain ⟨c', lo2, hi2, k1, k2, _⟩ := rel.ob b _ q hob h8
    have : bsz w0 q = c'.size := by simp [bsz, k1]
    show o' + n * sz ≤ bsz w0 q
    rw [this, h9]
    have := Nat.le_of_ble_eq_true hb
    rw [llen_eq] at this
    omega⟩) h3 h4 h5 h6
  refine ⟨e2.symm, _, hv, fun w => ?_⟩
  simp only [Instr.sliceAt, Sem.run_bind, run_underlying hu, Result.andThen_ok, Instr.sureAddr, h2, hs, Sem.run_pure]

/-! Literals. -/
/-- Parts as the model has them, beside the run's. -/
inductive PL (c : Cx) (fr : Fr) (place : Nat → Option (Nat × Nat)) : List (Nat × Nat × Opd) → List (Nat × Value) → Prop
  | nil : PL c fr place [] []
  | cons {off n i : Nat} {x : Opd} {v : Value} {ps : List (Nat × Nat × Opd)} {qs : List (Nat × Value)} : place i = some (off, n) → V c (x fr) v → PL c fr place ps qs → PL c fr place ((off, n, x) :: ps) ((i, v) :: qs)
theorem cells_some {β : Type} {v : AV} {f : List AV → Option β} {r : β} (e : v.cells? none f = some r) : (∃ cs, v = .agg cs ∧ f cs = some r) ∨ (v.one = true ∧ f [v] = some r) := by
  cases v <;> first | exact .inl ⟨_, rfl, e⟩ | exact .inr ⟨rfl, e⟩ | cases e
theorem V.one_cell {a : AV} {v : Value} (h : V c a v) (h1 : a.one = true) : v.oneCell' = true := by
  cases h with
  | any j v hq hb => exact hq
  | _ => first | rfl | cases h1
theorem V.cells_eq {a : AV} {v : Value} (h : V c a v) (h1 : a.one = true) : v.cells = #[v] := by
  cases h with
  | any j v hq hb => cases v <;> first | rfl | cases hq
  | _ => first | rfl | cases h1
/-- The cells of a value. -/
theorem cells_V {a : AV} {v : Value} (h : V c a v) : (∀ cs, a = .agg cs → VL c cs v.cells.toList) ∧ (a.one = true → VL c [a] v.cells.toList) := by
  refine ⟨fun cs e => ?_, fun e => ?_⟩
  · subst e
    obtain ⟨vs, rfl, hv, _⟩ := h.agg_inv
    simpa [Value.cells] using hv
  · rw [h.cells_eq e]
    exact VL.one h
theorem foldl_set : ∀ (l : List Value) (off j : Nat) (cs : Array Value), off + j + l.length ≤ cs.size →
    ((l.zipIdx j).foldl (fun (cs : Array Value) (p : Value × Nat) => cs.setIfInBounds (off + p.2) p.1) cs).toList = cs.toList.take (off + j) ++ l ++ cs.toList.drop (off + j + l.length)
  | [], off, j, cs, _ => by simp
  | a :: l, off, j, cs, h => by
    simp only [List.length_cons] at h
    rw [List.zipIdx_cons, List.foldl_cons, foldl_set l off (j + 1) _ (by simp; omega)]
    have hlt : off + j < cs.toList.length := by simp; omega
    simp only [Array.toList_setIfInBounds, List.length_cons]
    rw [← Nat.add_assoc, List.take_set, List.take_succ_eq_append_getElem hlt, List.drop_set_of_lt (by omega)]
    rw [List.set_append_right _ _ (by simp; omega)]
    have h0 : min (off + j) cs.toList.length = off + j := by omega
    simp only [List.length_take, h0, Nat.sub_self, List.set_cons_zero, List.append_assoc, List.cons_append, List.nil_append, List.singleton_append]
    rw [show off + j + 1 + l.length = off + j + (l.length + 1) by omega]
theorem s_fill {place : Nat → Option (Nat × Nat)} : ∀ {ps : List (Nat × Nat × Opd)} {qs : List (Nat × Value)} {z z' : List AV} {vz : Array Value}, PL c fr place ps qs → VL c z vz.toList → (∀ a ∈ z, a.one = true) → fills ps fr z = some z' →
    ∃ vz' : Array Value, Instr.fill place vz qs = some vz' ∧ VL c z' vz'.toList ∧ ∀ a ∈ z', a.one = true
  | _, _, z, z', vz, .nil, hz, hone, e => by
    cases e
    exact ⟨vz, rfl, hz, hone⟩
  | _, _, z, z', vz, .cons (off := off) (n := n) (i := i) (x := x) (v := v) (ps := ps) (qs := qs) hp hx hrest, hz, hone, e => by
    have step : ∀ cs : List AV, VL c cs v.cells.toList → (∀ a ∈ cs, a.one = true) → bi (Nat.beq (llen cs) n) (ob (lput cs off z) none (fills ps fr)) none = some z' →
        ∃ vz' : Array Value, Instr.fill place vz ((i, v) :: qs) = some vz' ∧ VL c z' vz'.toList ∧ ∀ a ∈ z', a.one = true := by
      intro cs hcs h1 e
      obtain ⟨hb, e⟩ := bi_some (by simp) e
      obtain ⟨z1, e1, e2⟩ := ob_some (by simp) e
      obtain ⟨h2, rfl⟩ := lput_some e1
      rw [llen_eq] at hb
      have hn : cs.length = n := Nat.eq_of_beq_eq_true hb
      have hl := hcs.length
      have hzl := hz.length
      have hsz : v.cells.size = n := by rw [← hn, ← hl]; simp
      have hroom : off + 0 + v.cells.toList.length ≤ vz.size := by
        have : vz.size = z.length := by rw [← hzl]; simp
        rw [hl]; omega
      have hf := foldl_set v.cells.toList off 0 vz hroom
      have hv1 : VL c (z.take off ++ cs ++ z.drop (off + cs.length)) ((v.cells.zipIdx.foldl (fun (cs : Array Value) (p : Value × Nat) => cs.setIfInBounds (off + p.2) p.1) vz)).toList := by
        rw [← Array.foldl_toList, Array.toList_zipIdx, hf]
        simp only [Nat.add_zero]
        rw [← hl]
        exact ((hz.take off).append hcs).append (by rw [hl]; exact hz.drop _)
      obtain ⟨vz', h3, h4, h5⟩ := s_fill hrest hv1 (fun a ha => by
        rcases List.mem_append.1 ha with ha | ha
        · rcases List.mem_append.1 ha with ha | ha
          · exact hone a (List.mem_of_mem_take ha)
          · exact h1 a ha
        · exact hone a (List.mem_of_mem_drop ha)) e2
      refine ⟨vz', ?_, h4, h5⟩
      have hno : ¬ (off + v.cells.size > vz.size) := by
        have : v.cells.toList.length = v.cells.size := by simp
        omega
      have hne : (decide (v.cells.size ≠ n) || decide (off + v.cells.size > vz.size)) = false := by
        simp [hsz]
        omega
      unfold Instr.fill
      simp only [hp]
      rw [if_neg (by simp only [Bool.not_eq_true]; exact hne)]
      exact h3
    rcases cells_some (show (x fr).cells? none (fun cs => bi (Nat.beq (llen cs) n) (ob (lput cs off z) none (fills ps fr)) none) = some z' from e) with ⟨cs, ex, e⟩ | ⟨h1, e⟩
    · exact step cs ((cells_V hx).1 cs ex) (by rw [ex] at hx; obtain ⟨_, _, _, h1a⟩ := hx.agg_inv; exact h1a) e
    · exact step [x fr] ((cells_V hx).2 h1) (fun a ha => by rw [List.mem_singleton.1 ha]; exact h1) e

/-- The zero of a type, as the run has it. -/
def Zero (P : Program) (t : TypeId) (cs : List AV) : Prop := ∃ z : Value, (∀ w, (zeroValue t).run P w = .ok z w) ∧ (∀ c : Cx, VL c cs z.cells.toList) ∧ ∀ a ∈ cs, a.one = true
theorem s_build {t : TypeId} {place : Nat → Option (Nat × Nat)} {zs : List AV} {ps : List (Nat × Nat × Opd)} {qs : List (Nat × Value)} (hz : Zero P t zs) (hp : PL c fr place ps qs)
    (hb : ∀ (w : World) (z : Value) (cells : Array Value), (zeroValue t).run P w = .ok z w → Instr.fill place z.cells qs = some cells → (Instr.build t qs.toArray).run P w = .ok (.agg cells) w)
    (e : xBuild zs ps fr h = .ok r h') : h' = h ∧ ∃ u, V c r u ∧ ∀ w, (Instr.build t qs.toArray).run P w = .ok u w := by
  obtain ⟨cs, e1, e2⟩ := obE (show ob (fills ps fr zs) E.no _ = _ from e)
  obtain ⟨e3, e4⟩ := okE e2
  subst e3
  obtain ⟨z, h1, h2, h3⟩ := hz
  obtain ⟨vz', h4, h5, h6⟩ := s_fill hp (h2 c) h3 e1
  refine ⟨e4.symm, .agg vz', ?_, fun w => hb w z vz' (h1 w) h4⟩
  have := V.agg _ _ h5 h6
  simpa using this
theorem build_struct {t : TypeId} {fs : Array Field} {place : Nat → Option (Nat × Nat)} (hu : P.underlying t = some (.struct fs)) (hpl : ∀ w, ∃ places : Array (Nat × Nat), (fs.mapM fun f => do pure (f.offset, ← sizeOf f.type) : Sem (Array (Nat × Nat))).run P w = .ok places w ∧ ∀ i p, place i = some p → places[i]? = some p)
    {qs : List (Nat × Value)} (hq : ∀ q ∈ qs, (place q.1).isSome = true) (w : World) (z : Value) (cells : Array Value) (hz : (zeroValue t).run P w = .ok z w) (hf : Instr.fill place z.cells qs = some cells) : (Instr.build t qs.toArray).run P w = .ok (.agg cells) w := by
  obtain ⟨places, h1, h2⟩ := hpl w
  have hfill : ∀ (qs : List (Nat × Value)) (z : Array Value), (∀ q ∈ qs, (place q.1).isSome = true) → Instr.fill (places[·]?) z qs = Instr.fill place z qs := by
    intro qs
    induction qs with
    | nil => intro z _; rfl
    | cons q qs ih =>
      intro z hq
      obtain ⟨i, v⟩ := q
      obtain ⟨p, hp⟩ := Option.isSome_iff_exists.1 (hq _ List.mem_cons_self)
      unfold Instr.fill
      rw [hp, h2 i p hp]
      simp only
      split
      · rfl
      · exact ih _ fun q hq' => hq q (List.mem_cons_of_mem _ hq')
  simp only [Instr.build, Sem.run_bind, hz, Result.andThen_ok, run_underlying hu, h1, hfill qs z.cells hq, hf]
  rfl
theorem build_array {t e : TypeId} {n sz : Nat} {place : Nat → Option (Nat × Nat)} (hu : P.underlying t = some (.array n e)) (hs : ∀ w, (sizeOf e).run P w = .ok sz w) (hpl : place = fun i => some (i * sz, sz))
    {qs : List (Nat × Value)} (w : World) (z : Value) (cells : Array Value) (hz : (zeroValue t).run P w = .ok z w) (hf : Instr.fill place z.cells qs = some cells) : (Instr.build t qs.toArray).run P w = .ok (.agg cells) w := by
  subst hpl
  simp only [Instr.build, Sem.run_bind, hz, Result.andThen_ok, run_underlying hu, hs, hf]
  rfl
end
end Ev
end Go.Proofs.YtfpghnldcbhniaaGreat
