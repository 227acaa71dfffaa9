/- Operations that read, make and write memory. -/
import Derived.Test.YtfpghnldcbhniaaGreatEvH
import Derived.Deep.AppendSrc
namespace Go.Proofs.YtfpghnldcbhniaaGreat
set_option linter.unusedVariables false
set_option linter.unusedSimpArgs false
open Go.RowKit Go.Maps
namespace Ev

theorem at_cells {h h' : H} {b : Pos} {r : AV} {f : List AV → TypeId → Nat → E} (e : cellsAt h b .no f = .ok r h') : ∃ cs t fz, h.obj b = some (.cells cs t fz) ∧ f cs t fz = .ok r h' := by
  obtain ⟨o, ho, e⟩ := obE (show ob (h.obj b) E.no _ = _ from e)
  cases o with
  | cells cs t fz => exact ⟨cs, t, fz, ho, e⟩
  | map => cases e
  | iter => cases e
theorem at_map {h h' : H} {b : Pos} {r : AV} {f : TypeId → List (AV × AV × Nat) → Nat → E} (e : mapAt h b .no f = .ok r h') : ∃ t es c, h.obj b = some (.map t es c) ∧ f t es c = .ok r h' := by
  obtain ⟨o, ho, e⟩ := obE (show ob (h.obj b) E.no _ = _ from e)
  cases o with
  | cells => cases e
  | map t es c => exact ⟨t, es, c, ho, e⟩
  | iter => cases e

section
variable {P : Program} {B : Nat} {W : World} {ι : Pos → Option Nat} {h h' : H} {w w' : World} {fr : Fr} {x y z : Opd} {vx vy vz : Value} {r : AV}

/-- The cells of a live block. -/
theorem block_cells (rel : Rel P B W ι h w) {b : Pos} {cs : List AV} {t : TypeId} {fz : Nat} {q : Nat} (hb : h.obj b = some (.cells cs t fz)) (hq : ι b = some q) :
    ∃ c' lo hi, w.heap[q]? = some (.cells c' t (lo, hi)) ∧ cs.length ≤ c'.size ∧ VL (cx ι h w) cs (c'.toList.take cs.length) ∧ (∀ a ∈ cs, a.one = true) ∧ ∀ i, lo ≤ i → i < hi → i < c'.size → i < fz := rel.ob b _ q hb hq
theorem range_of_block {q : Nat} {c' : Array Value} {t : TypeId} {f : Nat × Nat} (hw : w.heap[q]? = some (.cells c' t f)) (o n : Nat) (hn : o + n ≤ c'.size) : w.rangeAt q o ((c'.toList.drop o).take n) := by
  intro j v hj
  have hjn : j < n := by
    have := (List.getElem?_eq_some_iff.1 hj).1
    simp at this
    omega
  rw [List.getElem?_take_of_lt hjn, List.getElem?_drop] at hj
  simp only [World.cell?, hw]
  simpa using hj
theorem r_ld {t : TypeId} (rel : Rel P B W ι h w) (ha : ∀ w, (isAgg t).run P w = .ok false w) (hx : V (cx ι h w) (x fr) vx) (e : xLd x fr h = .ok r h') :
    h' = h ∧ ∃ u, V (cx ι h w) r u ∧ (Instr.loadAt t vx).run P w = .ok u w := by
  obtain ⟨b, o, ex, e⟩ := ptr_ok e
  obtain ⟨cs, ty, fz, hb, e⟩ := at_cells e
  obtain ⟨e1, e2⟩ := eoE e
  rw [ex] at hx
  obtain ⟨q, o', rfl, g1, g2⟩ := hx.ptr_inv
  obtain ⟨hq, rfl⟩ := g2 ⟨_, hb⟩
  obtain ⟨c', lo, hi, k1, k2, k3, k4, k5⟩ := block_cells rel hb hq
  rw [lget_eq] at e1
  obtain ⟨u, hu, hv⟩ := k3.get o' e1
  have hlt : o' < cs.length := (List.getElem?_eq_some_iff.1 e1).1
  rw [List.getElem?_take_of_lt hlt] at hu
  have hc : w.cell? ⟨q, o', none⟩ = some u := by
    simp only [World.cell?, k1]
    simpa using hu
  exact ⟨e2.symm, u, hv, by simp [Instr.loadAt, Instr.sureAddr, loadVar, ha, hc]⟩
theorem r_ldn {t : TypeId} {n : Nat} {d : TypeDesc} (rel : Rel P B W ι h w) (hu : P.underlying t = some d) (hd : d.isRow = true) (hi : (P.info? t).map (·.size) = some n) (hx : V (cx ι h w) (x fr) vx) (e : xLdn n x fr h = .ok r h') :
    h' = h ∧ ∃ u, V (cx ι h w) r u ∧ (Instr.loadAt t vx).run P w = .ok u w := by
  obtain ⟨b, o, ex, e⟩ := ptr_ok e
  obtain ⟨cs, ty, fz, hb, e⟩ := at_cells e
  obtain ⟨v, e1, e⟩ := obE e
  obtain ⟨e2, e3⟩ := okE e
  rw [ex] at hx
  obtain ⟨q, o', rfl, g1, g2⟩ := hx.ptr_inv
  obtain ⟨hq, rfl⟩ := g2 ⟨_, hb⟩
  obtain ⟨c', lo, hi', k1, k2, k3, k4, k5⟩ := block_cells rel hb hq
  obtain ⟨h1, rfl⟩ := lrange_some e1
  subst e2
  have hv := (k3.drop o').take n
  have hl : ((c'.toList.take cs.length).drop o').take n = (c'.toList.drop o').take n := by
    rw [List.drop_take, List.take_take]
    congr 1
    omega
  rw [hl] at hv
  have hlen : ((c'.toList.drop o').take n).length = n := by simp; omega
  refine ⟨e3.symm, _, .agg _ _ hv (fun a ha => k4 a (List.mem_of_mem_drop (List.mem_of_mem_take ha))), ?_⟩
  exact run_loadAt_mid w q o' t _ d (range_of_block k1 o' n (by omega)) hu hd (by rw [hi, hlen])
theorem r_lenM {t k q : TypeId} (ty : TypeId) (ts : Array TypeId) (rel : Rel P B W ι h w) (ht : ts[0]? = some t) (hu : P.underlying t = some (.map k q)) (hx : V (cx ι h w) (x fr) vx) (e : xLenM x fr h = .ok r h') :
    h' = h ∧ ∃ u, V (cx ι h w) r u ∧ (Builtin.len_ ts ty #[vx]).run P w = .ok u w := by
  rcases map_ok e with ⟨e1, e⟩ | ⟨b, e1, e⟩
  · obtain ⟨e3, e4⟩ := okE e
    rw [e1] at hx
    cases hx
    subst e3
    exact ⟨e4.symm, _, .int _ _, by simp [Builtin.len_, ht, run_underlying hu, goInt]⟩
  · obtain ⟨kt, es, c, hb, e⟩ := at_map e
    obtain ⟨e3, e4⟩ := okE e
    rw [e1] at hx
    obtain ⟨q, rfl, g1, g2⟩ := hx.map_inv
    have hq := g2 ⟨_, hb⟩
    obtain ⟨es', k1, k2⟩ := rel.ob b _ q hb hq
    subst e3
    have hl : es'.size = es.length := by
      have : ∀ {es : List (AV × AV × Nat)} {fs : List MapEntry}, ML P kt (cx ι h w) es fs → fs.length = es.length := by
        intro es fs hm
        induction hm with
        | nil => rfl
        | cons _ _ _ _ _ _ _ ih => simp [ih]
      simpa using this k2
    refine ⟨e4.symm, _, .int _ _, ?_⟩
    simp [Builtin.len_, ht, run_underlying hu, goInt, getObj, Sem.run, k1, hl]

/-! What is made. -/
theorem wnew_alloc (w : World) (o : Obj) : WNew w (w.alloc o) o := ⟨rfl, rfl, rfl, rfl⟩
theorem heap_new {w w' : World} {o : Obj} (u : WNew w w' o) : w'.heap[w.heap.size]? = some o := by rw [u.heap]; simp
/-- A made row of cells, as the run has it. -/
theorem cells_R {c : Cx} {cs : List AV} {c' : Array Value} {t : TypeId} {u : World} {q : Nat} (hq : u.heap[q]? = some (.cells c' t (0, 0))) (hv : VL c cs c'.toList) (h1 : ∀ a ∈ cs, a.one = true) : ObjR P c u q (.cells cs t 0) := by
  have hl := hv.length
  have hs : c'.size = cs.length := by rw [← hl]; simp
  refine ⟨c', 0, 0, hq, by omega, ?_, h1, fun i _ hi => by omega⟩
  rw [List.take_of_length_le (by rw [hl]; exact Nat.le_refl _)]
  exact hv
def objSize : Obj → Nat
  | .cells c _ _ => c.size
  | _ => 0
/-- What is made by an operation that makes one block, wherever it lies. -/
def Mk (P : Program) (c : Cx) (sem : Sem Value) (b : Pos) (r : AV) (o : AObj) : Prop :=
  ∃ (obj : Obj) (mk : Nat → Value), (∀ w, sem.run P w = .ok (mk w.heap.size) (w.alloc obj)) ∧ (∀ u q, u.heap[q]? = some obj → ObjR P c u q o) ∧
    ∀ (d : Cx) q, b.num < d.nx → (d.lv b → d.ι b = some q) → d.bs q = objSize obj → V d r (mk q)
theorem Mk.rel {sem : Sem Value} {o : AObj} (m : Mk P (cx ι h w) sem h.nx r o) (rel : Rel P B W ι h w) :
    ∃ u w', sem.run P w = .ok u w' ∧ Rel P B W (upd ι h.nx w.heap.size) (h.new o) w' ∧ Ext ι h w (upd ι h.nx w.heap.size) (h.new o) w' ∧ V (cx (upd ι h.nx w.heap.size) (h.new o) w') r u := by
  obtain ⟨obj, mk, h1, h2, h3⟩ := m
  have hn := heap_new (wnew_alloc w obj)
  obtain ⟨k1, k2⟩ := rel.new (wnew_alloc w obj) (h2 _ _ hn)
  refine ⟨mk w.heap.size, w.alloc obj, h1 w, k1, k2, h3 _ _ ?_ (fun _ => upd_same _ _ _) ?_⟩
  · show h.nx.num < (h.new _).nx.num
    rw [nx_new]; omega
  · show bsz (w.alloc obj) w.heap.size = objSize obj
    unfold bsz
    rw [hn]
    cases obj <;> rfl
theorem m_cells {c : Cx} {cs : List AV} {t : TypeId} {c' : Array Value} (hv : VL c cs c'.toList) (h1 : ∀ a ∈ cs, a.one = true) : ∀ u q, u.heap[q]? = some (.cells c' t (0, 0)) → ObjR P c u q (.cells cs t 0) :=
  fun _ _ hq => cells_R hq hv h1
theorem m_box {c : Cx} {t : TypeId} (hx : V c (x fr) vx) (e : xBox t x fr h = .ok r h') : ∃ o, h' = h.new o ∧ Mk P c (Instr.box t vx) h.nx r o := by
  have main : ∀ cs, VL c cs vx.cells.toList → (∀ a ∈ cs, a.one = true) → E.ok (.ptr h.nx 0) (h.new (.cells cs t 0)) = .ok r h' → ∃ o, h' = h.new o ∧ Mk P c (Instr.box t vx) h.nx r o := fun cs hv h1 e => by
    obtain ⟨rfl, rfl⟩ := okE e
    exact ⟨_, rfl, .cells vx.cells t, fun q => .pointer (some ⟨q, 0, none⟩), fun w => rfl, m_cells hv h1, fun d q g1 g2 _ => .ptr _ _ _ _ g1 fun hl => ⟨g2 hl, rfl⟩⟩
  rcases cells_ok e with ⟨cs, ex, e⟩ | ⟨h1, e⟩
  · refine main cs ((cells_V hx).1 cs ex) ?_ e
    rw [ex] at hx
    obtain ⟨_, _, _, h2⟩ := hx.agg_inv
    exact h2
  · exact main [x fr] ((cells_V hx).2 h1) (fun a ha => by rw [List.mem_singleton.1 ha]; exact h1) e
theorem m_zero {c : Cx} {t : TypeId} {zs : List AV} {old : Value} (hz : Zero P t zs) (e : xZero t zs fr h = .ok r h') : ∃ o, h' = h.new o ∧ Mk P c (Instr.alloc t true old) h.nx r o := by
  obtain ⟨z, z1, z2, z3⟩ := hz
  obtain ⟨rfl, rfl⟩ := okE e
  refine ⟨_, rfl, .cells z.cells t, fun q => .pointer (some ⟨q, 0, none⟩), fun w => ?_, m_cells (z2 c) z3, fun d q g1 g2 _ => .ptr _ _ _ _ g1 fun hl => ⟨g2 hl, rfl⟩⟩
  simp only [Instr.alloc, Sem.run_bind, z1, Result.andThen_ok]
  rfl
theorem m_mkmap {c : Cx} {t kt : TypeId} (e : xMkmap kt fr h = .ok r h') : ∃ o, h' = h.new o ∧ Mk P c (Instr.makeMap t none) h.nx r o := by
  obtain ⟨rfl, rfl⟩ := okE e
  exact ⟨_, rfl, .map #[] 0, fun q => .map (some q), fun w => rfl, fun u q hq => ⟨#[], hq, .nil⟩, fun d q g1 g2 _ => .map _ _ g1 g2⟩
theorem rep_eq (z : List AV) : ∀ n, rep z n = (List.replicate n z).flatten
  | 0 => rfl
  | n + 1 => by
    show lapp z (rep z n) = _
    rw [lapp_eq, rep_eq z n]
    simp [List.replicate_succ]
theorem VL.rep {c : Cx} {z : List AV} {vz : List Value} (h : VL c z vz) : ∀ n, VL c (rep z n) (List.replicate n vz).flatten
  | 0 => .nil
  | n + 1 => by
    show VL c (lapp z (Ev.rep z n)) _
    rw [lapp_eq]
    simp only [List.replicate_succ, List.flatten_cons]
    exact h.append (VL.rep h n)
theorem rep_one {z : List AV} (h : ∀ a ∈ z, a.one = true) (n : Nat) : ∀ a ∈ rep z n, a.one = true := by
  rw [rep_eq]
  intro a ha
  obtain ⟨l, hl, ha⟩ := List.mem_flatten.1 ha
  rw [List.eq_of_mem_replicate hl] at ha
  exact h a ha
/-- A row of zeros, as the model makes it. -/
theorem zeros_list (z : Array Value) (hz : 0 < z.size) (n : Nat) : ((Array.range (n * z.size)).map (z[· % z.size]!)).toList = (List.replicate n z.toList).flatten := by
  apply List.ext_getElem?
  intro i
  simp only [Array.toList_map, Array.toList_range, List.getElem?_map]
  by_cases hi : i < n * z.size
  · rw [List.getElem?_range hi]
    simp only [Option.map_some]
    rw [Array.getElem!_eq_getD, Array.getD_eq_getD_getElem?, Array.getElem?_eq_getElem (Nat.mod_lt _ hz)]
    have hflat : ∀ (n i : Nat), i < n * z.size → ((List.replicate n z.toList).flatten)[i]? = some (z[i % z.size]'(Nat.mod_lt _ hz)) := by
      intro n
      induction n with
      | zero => intro i hi; omega
      | succ n ih =>
        intro i hi
        rw [List.replicate_succ, List.flatten_cons]
        by_cases hlt : i < z.size
        · rw [List.getElem?_append_left (by simpa using hlt)]
          simp only [Nat.mod_eq_of_lt hlt]
          simp [hlt]
        · rw [List.getElem?_append_right (by simp; omega)]
          have hm : (i - z.toList.length) % z.size = i % z.size := by
            simp only [Array.length_toList]
            rw [← Nat.mod_eq_sub_mod (by omega)]
          rw [ih (i - z.toList.length) (by simp only [Array.length_toList]; rw [Nat.add_mul] at hi; omega)]
          simp only [hm]
    rw [hflat n i hi]
    rfl
  · rw [List.getElem?_eq_none (by simpa using hi), List.getElem?_eq_none]
    · rfl
    · rw [List.length_flatten]
      simp only [List.map_replicate, List.sum_replicate_nat, Array.length_toList]
      omega

theorem Zero.len {t : TypeId} {zs : List AV} (hz : Zero P t zs) : ∃ z : Value, (∀ w, (zeroValue t).run P w = .ok z w) ∧ (∀ c : Cx, VL c zs z.cells.toList) ∧ (∀ a ∈ zs, a.one = true) ∧ z.cells.size = zs.length := by
  obtain ⟨z, z1, z2, z3⟩ := hz
  refine ⟨z, z1, z2, z3, ?_⟩
  have := (z2 ⟨fun _ => none, fun _ => False, 0, fun _ => 0⟩).length
  simpa using this
theorem m_buildS {c : Cx} {t e : TypeId} {sz n : Nat} {zs : List AV} {ps : List (Nat × Nat × Opd)} {qs : List (Nat × Value)} (hu : P.underlying t = some (.slice e)) (hs : ∀ w, (sizeOf e).run P w = .ok sz w) (h0 : 0 < sz) (hz : Zero P e zs) (hl : zs.length = sz) (h24 : n * sz ≤ 16777216)
    (hp : PL c fr (fun i => some (i * sz, sz)) ps qs) (he : xBuildS e sz n (rep zs n) ps fr h = .ok r h') : ∃ o, h' = h.new o ∧ Mk P c (Instr.buildSlice t n qs.toArray) h.nx r o := by
  obtain ⟨cs, e1, e2⟩ := obE (show ob (fills ps fr (rep zs n)) E.no _ = _ from he)
  obtain ⟨e3, e4⟩ := okE e2
  subst e3 e4
  obtain ⟨z, z1, z2, z3, z4⟩ := hz.len
  have hzl := zeros_list z.cells (by rw [z4, hl]; exact h0) n
  have hlen : n * sz = n * z.cells.size := by rw [z4, hl]
  obtain ⟨vz', f1, f2, f3⟩ := s_fill (vz := (Array.range (n * sz)).map (z.cells[· % z.cells.size]!)) hp (by rw [hlen, hzl]; exact (z2 c).rep n) (rep_one z3 n) e1
  refine ⟨_, rfl, .cells vz' e, fun q => .slice (some ⟨q, 0, none⟩) n n, fun w => ?_, m_cells f2 f3, fun d q g1 g2 g3 => .slice _ _ _ _ _ _ _ _ g1 (Nat.le_refl _) (fun k hk => by cases hk; rfl) fun hl' => ⟨g2 hl', .inl rfl, ?_⟩⟩
  · have hn24 : ¬ (n * sz > 2 ^ 24) := by
      have : (2 : Nat) ^ 24 = 16777216 := by decide
      omega
    by_cases hn : n * sz = 0
    · have hrange : Array.map (fun i => (#[] : Array Value)[i % (#[] : Array Value).size]!) (Array.range (n * sz)) = Array.map (z.cells[· % z.cells.size]!) (Array.range (n * sz)) := by
        rw [hn]; simp
      simp only [Instr.buildSlice, Sem.run_bind, run_underlying hu, Result.andThen_ok, hs, if_neg hn24, if_pos hn, Sem.run_pure, hrange, f1]
      rfl
    · simp only [Instr.buildSlice, Sem.run_bind, run_underlying hu, Result.andThen_ok, hs, if_neg hn24, if_neg hn, Sem.run_pure, z1, f1]
      rfl
  · rw [g3]
    show 0 + n * sz ≤ vz'.size
    have h1 := f2.length
    obtain ⟨h2, _⟩ : cs.length = n * sz ∧ True := by
      refine ⟨?_, trivial⟩
      have : ∀ {ps : List (Nat × Nat × Opd)} {z z' : List AV}, fills ps fr z = some z' → z'.length = z.length := by
        intro ps
        induction ps with
        | nil => intro z z' e; cases e; rfl
        | cons p ps ih =>
          intro z z' e
          have step : ∀ cs : List AV, bi (Nat.beq (llen cs) p.2.1) (ob (lput cs p.1 z) none (fills ps fr)) none = some z' → z'.length = z.length := fun cs e => by
            obtain ⟨_, e⟩ := bi_some (by simp) e
            obtain ⟨z1, e1, e2⟩ := ob_some (by simp) e
            obtain ⟨h2, rfl⟩ := lput_some e1
            rw [ih e2]
            simp
            omega
          rcases cells_some (show (p.2.2 fr).cells? none (fun cs => bi (Nat.beq (llen cs) p.2.1) (ob (lput cs p.1 z) none (fills ps fr)) none) = some z' from e) with ⟨cs, _, e⟩ | ⟨_, e⟩
          · exact step cs e
          · exact step _ e
      rw [this e1, rep_eq]
      simp [hl]
    simp at h1
    omega
theorem m_mksl {c : Cx} {t e : TypeId} {i : TypeInfo} {zs : List AV} {l k : Opd} {vl vk : Value} (hu : P.underlying t = some (.slice e)) (hi : P.info? e = some i) (h0 : 0 < i.size) (hz : Zero P e zs) (hl : zs.length = i.size)
    (hx : V c (l fr) vl) (hy : V c (k fr) vk) (he : xMksl e i.size i.bytes zs l k fr h = .ok r h') : ∃ o, h' = h.new o ∧ Mk P c (Instr.makeSlice t vl vk) h.nx r o := by
  obtain ⟨q1, n, ex, he⟩ := nat_ok he
  obtain ⟨q2, m, ey, he⟩ := nat_ok he
  obtain ⟨g1, he⟩ := biE he
  obtain ⟨g2, he⟩ := biE he
  obtain ⟨g3, he⟩ := biE he
  obtain ⟨e3, e4⟩ := okE he
  subst e3 e4
  rw [ex] at hx
  rw [ey] at hy
  rw [nat_val hx, nat_val hy]
  have g1 := Nat.le_of_ble_eq_true g1
  rw [blt_eq] at g2 g3
  have g2 := of_decide_eq_true g2
  have g3 := of_decide_eq_true g3
  obtain ⟨z, z1, z2, z3, z4⟩ := hz.len
  have hzl := zeros_list z.cells (by rw [z4, hl]; exact h0) m
  have hlen : m * i.size = m * z.cells.size := by rw [z4, hl]
  have wn : IntKind.i64.wrap (n : Int) = n := by
    rw [← wrp_eq]
    have : digs .i64 (n : Int) = n := Nat.mod_eq_of_lt (by show n < 18446744073709551616; omega)
    rw [wrp, this]
    have h2 : Nat.blt n (half .i64) = true := by rw [blt_eq]; exact decide_eq_true (by show n < 9223372036854775808; omega)
    simp only [h2]; rfl
  have wm : IntKind.i64.wrap (m : Int) = m := by
    rw [← wrp_eq]
    have : digs .i64 (m : Int) = m := Nat.mod_eq_of_lt (by show m < 18446744073709551616; omega)
    rw [wrp, this]
    have h2 : Nat.blt m (half .i64) = true := by rw [blt_eq]; exact decide_eq_true (by show m < 9223372036854775808; omega)
    simp only [h2]; rfl
  refine ⟨_, rfl, .cells ((Array.range (m * i.size)).map (z.cells[· % z.cells.size]!)) e, fun q => .slice (some ⟨q, 0, none⟩) n m, fun w => ?_, m_cells (by rw [hlen, hzl]; exact (z2 c).rep m) (rep_one z3 m), fun d q g1' g2' g3' => .slice _ _ _ _ _ _ _ _ g1' g1 (fun k hk => by cases hk; rfl) fun hl' => ⟨g2' hl', .inl rfl, ?_⟩⟩
  · have hbig : (decide ((m : Int) < 0) || decide ((i.bytes : Int) * (m : Int) > 2 ^ 48)) = false := by
      have h1 : ((i.bytes : Int) * (m : Int)) = ((m * i.bytes : Nat) : Int) := by rw [Int.natCast_mul]; exact Int.mul_comm _ _
      rw [h1]
      simp
      omega
    have hn0 : ¬ ((n : Int) < 0) := by omega
    have hnm : ¬ ((n : Int) > (m : Int)) := by omega
    simp only [Instr.makeSlice, Sem.run_bind, run_underlying hu, Result.andThen_ok, asInt, asIntOf, Sem.run_pure, typeInfo, run_program, hi, wn, wm, hbig, hn0, hnm, decide_false, Bool.or_false, Bool.false_eq_true, if_false, or_false, false_or, Int.toNat_natCast, run_askRoom, sizeOf]
    by_cases hn : m * i.size = 0
    · have hrange : Array.map (fun i => (#[] : Array Value)[i % (#[] : Array Value).size]!) (Array.range (m * i.size)) = Array.map (z.cells[· % z.cells.size]!) (Array.range (m * i.size)) := by
        rw [hn]; simp
      simp only [if_pos hn, Sem.run_bind, Sem.run_pure, Result.andThen_ok, hrange]
      rfl
    · simp only [if_neg hn, Sem.run_bind, z1, Sem.run_pure, Result.andThen_ok]
      rfl
  · rw [g3']
    show 0 + m * i.size ≤ ((Array.range (m * i.size)).map (z.cells[· % z.cells.size]!)).size
    simp
end
end Ev
end Go.Proofs.YtfpghnldcbhniaaGreat
