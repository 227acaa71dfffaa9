/- Stores, appends, copies, texts out of bytes and bytes out of texts. -/
import Derived.Test.YtfpghnldcbhniaaGreatEvI
import Derived.Laws.BytesString
import Derived.Laws.IdiomStrings
namespace Go.Proofs.YtfpghnldcbhniaaGreat
set_option linter.unusedVariables false
set_option linter.unusedSimpArgs false
open Go.RowKit Go.Maps
namespace Ev

theorem wup_setCell (w : World) (b o : Nat) (v : Value) : WUp w (w.setCell ⟨b, o, none⟩ v) b :=
  ⟨rfl, rfl, rfl, by simp [World.setCell], fun y hy => by simp [World.setCell, Array.getElem?_modify, Ne.symm hy]⟩
theorem WUp.trans {w w' w'' : World} {x : Nat} (h : WUp w w' x) (k : WUp w' w'' x) : WUp w w'' x :=
  ⟨k.os.trans h.os, k.tape.trans h.tape, k.output.trans h.output, k.size.trans h.size, fun y hy => (k.other y hy).trans (h.other y hy)⟩
theorem WUp.refl (w : World) (x : Nat) : WUp w w x := ⟨rfl, rfl, rfl, rfl, fun _ _ => rfl⟩
theorem wup_setCells (b : Nat) : ∀ (vs : List Value) (o : Nat) (w : World), WUp w (w.setCells b o vs) b
  | [], o, w => WUp.refl w b
  | v :: vs, o, w => (wup_setCell w b o v).trans (wup_setCells b vs (o + 1) _)
theorem heap_setCells (b : Nat) (t : TypeId) (f : Nat × Nat) : ∀ (vs : List Value) (o : Nat) (w : World) (c : Array Value), w.heap[b]? = some (.cells c t f) → o + vs.length ≤ c.size →
    ∃ c', (w.setCells b o vs).heap[b]? = some (.cells c' t f) ∧ c'.size = c.size ∧ c'.toList = c.toList.take o ++ vs ++ c.toList.drop (o + vs.length)
  | [], o, w, c, h, _ => ⟨c, h, rfl, by simp⟩
  | v :: vs, o, w, c, h, hl => by
    simp only [List.length_cons] at hl
    have h1 : (w.setCell ⟨b, o, none⟩ v).heap[b]? = some (.cells (c.setIfInBounds o v) t f) := by simp [World.setCell, Array.getElem?_modify, h]
    obtain ⟨c', h2, h3, h4⟩ := heap_setCells b t f vs (o + 1) _ _ h1 (by simp; omega)
    refine ⟨c', h2, by rw [h3]; simp, ?_⟩
    rw [h4]
    have hlt : o < c.toList.length := by simp; omega
    simp only [Array.toList_setIfInBounds]
    rw [List.take_set, List.take_succ_eq_append_getElem hlt, List.drop_set_of_lt (by omega), List.set_append_right _ _ (by simp; omega)]
    simp only [List.length_take, Nat.min_eq_left (Nat.le_of_lt hlt), Nat.sub_self, List.set_cons_zero, List.append_assoc, List.cons_append, List.nil_append, List.length_cons]
    rw [show o + 1 + vs.length = o + (vs.length + 1) by omega]

section
variable {P : Program} {B : Nat} {W : World} {ι : Pos → Option Nat} {h h' : H} {w w' : World} {fr : Fr} {x y z : Opd} {vx vy vz : Value} {r : AV}
/-- Cells are stored into a live block. -/
theorem store_block (rel : Rel P B W ι h w) {b : Pos} {q o fz : Nat} {cs v cs' : List AV} {t : TypeId} {vs : List Value} (hb : h.obj b = some (.cells cs t fz)) (hq : ι b = some q) (hfz : fz ≤ o) (hv : VL (cx ι h w) v vs) (h1 : ∀ a ∈ v, a.one = true)
    (hp : lput v o cs = some cs') : (storeCells ⟨q, o, none⟩ vs).run P w = .ok () (w.setCells q o vs) ∧ Rel P B W ι (h.put b (.cells cs' t fz)) (w.setCells q o vs) ∧ Ext ι h w ι (h.put b (.cells cs' t fz)) (w.setCells q o vs) := by
  obtain ⟨c', lo, hi, k1, k2, k3, k4, k5⟩ := block_cells rel hb hq
  obtain ⟨g1, rfl⟩ := lput_some hp
  have hl := hv.length
  have hone : ∀ u ∈ vs, u.oneCell' = true := by
    have : ∀ {v : List AV} {vs : List Value}, VL (cx ι h w) v vs → (∀ a ∈ v, a.one = true) → ∀ u ∈ vs, u.oneCell' = true := by
      intro v vs hv
      induction vs generalizing v with
      | nil => intro _ u hu; cases hu
      | cons u us ih =>
        intro h1 u' hu'
        cases hv with
        | cons a1 a2 =>
          rcases List.mem_cons.1 hu' with rfl | hu'
          · exact a1.one_cell (h1 _ List.mem_cons_self)
          · exact ih a2 (fun a ha => h1 a (List.mem_cons_of_mem _ ha)) u' hu'
    exact this hv h1
  have hst := run_storeCells_cells (P := P) q o vs 0 w (fun j hj => by
    simp only [World.cell?, k1, Nat.add_zero]
    simp
    omega) (fun j hj => by
    simp only [World.frozen?, k1, Nat.add_zero]
    rw [Bool.and_eq_false_iff]
    by_cases hlo : lo ≤ o + j
    · right
      rw [decide_eq_false_iff_not]
      intro hhi
      have := k5 (o + j) hlo hhi (by omega)
      omega
    · left
      exact decide_eq_false hlo) hone
  simp only [Nat.add_zero] at hst
  obtain ⟨c2, e1, e2, e3⟩ := heap_setCells q t (lo, hi) vs o w c' k1 (by omega)
  have hup := wup_setCells q vs o w
  have hbs : bsz (w.setCells q o vs) q = bsz w q := by simp [bsz, e1, k1, e2]
  refine ⟨hst, rel.put hb hq hup hbs ⟨c2, lo, hi, e1, ?_, ?_, ?_, ?_⟩⟩
  · rw [e2]; simp; omega
  · have hlen : (cs.take o ++ v ++ cs.drop (o + v.length)).length = cs.length := by simp; omega
    rw [hlen, e3]
    have : (c'.toList.take o ++ vs ++ c'.toList.drop (o + vs.length)).take cs.length = (c'.toList.take cs.length).take o ++ vs ++ (c'.toList.take cs.length).drop (o + v.length) := by
      rw [List.take_append, List.take_append, List.take_take, List.drop_take, hl]
      simp only [List.length_append, List.length_take, Array.length_toList]
      rw [show min cs.length o = o by omega, List.take_take, show min o cs.length = o by omega, List.take_of_length_le (by omega : vs.length ≤ cs.length - min o c'.size)]
      congr 2
      omega
    rw [this]
    exact ((k3.take o).append hv).append (k3.drop _)
  · intro a ha
    rcases List.mem_append.1 ha with ha | ha
    · rcases List.mem_append.1 ha with ha | ha
      · exact k4 a (List.mem_of_mem_take ha)
      · exact h1 a ha
    · exact k4 a (List.mem_of_mem_drop ha)
  · intro i a1 a2 a3
    exact k5 i a1 a2 (by omega)
theorem e_st {t : TypeId} {n : Nat} (rel : Rel P B W ι h w) (hs : ∀ w, (sizeOf t).run P w = .ok n w) (hx : V (cx ι h w) (x fr) vx) (hy : V (cx ι h w) (y fr) vy) (e : xSt n x y fr h = .ok r h') :
    ∃ w', r = .undef ∧ (Instr.storeAt t vx vy).run P w = .ok () w' ∧ Rel P B W ι h' w' ∧ Ext ι h w ι h' w' := by
  obtain ⟨b, o, ex, e⟩ := ptr_ok e
  obtain ⟨cs, ty, fz, hb, e⟩ := at_cells e
  rw [ex] at hx
  obtain ⟨q, o', rfl, g1, g2⟩ := hx.ptr_inv
  obtain ⟨hq, rfl⟩ := g2 ⟨_, hb⟩
  have main : ∀ v, VL (cx ι h w) v vy.cells.toList → (∀ a ∈ v, a.one = true) → bi (Nat.beq (llen v) n) (stTo h b o' cs ty fz v) E.no = .ok r h' →
      ∃ w', r = .undef ∧ (Instr.storeAt t (.pointer (some ⟨q, o', none⟩)) vy).run P w = .ok () w' ∧ Rel P B W ι h' w' ∧ Ext ι h w ι h' w' := by
    intro v hv h1 e
    obtain ⟨hn, e⟩ := biE e
    obtain ⟨hf, e⟩ := biE (show bi _ _ _ = _ from e)
    obtain ⟨cs', e1, e⟩ := obE e
    obtain ⟨e2, e3⟩ := okE e
    subst e2 e3
    rw [llen_eq] at hn
    have hn := Nat.eq_of_beq_eq_true hn
    obtain ⟨s1, s2, s3⟩ := store_block rel hb hq (Nat.le_of_ble_eq_true hf) hv h1 e1
    refine ⟨_, rfl, ?_, s2, s3⟩
    have hsz : vy.cells.size = n := by
      have := hv.length
      simp at this
      omega
    simp only [Instr.storeAt, Instr.sureAddr, Sem.run_bind, Sem.run_pure, Result.andThen_ok, storeVar, hs, hsz, ne_eq, not_true, if_false]
    exact s1
  rcases cells_ok e with ⟨v, ey, e⟩ | ⟨h1, e⟩
  · refine main v ((cells_V hy).1 v ey) ?_ e
    rw [ey] at hy
    obtain ⟨_, _, _, h2⟩ := hy.agg_inv
    exact h2
  · exact main [y fr] ((cells_V hy).2 h1) (fun a ha => by rw [List.mem_singleton.1 ha]; exact h1) e
theorem ofBytes_VL (c : Cx) : ∀ s : List UInt8, VL c (ofBytes s) (s.map fun b => Value.int .u8 b.toNat)
  | [] => .nil
  | b :: s => .cons (.int .u8 b.toNat) (ofBytes_VL c s)
theorem ofBytes_one : ∀ s : List UInt8, ∀ a ∈ ofBytes s, a.one = true
  | [], a, h => by cases h
  | b :: s, a, h => by
    rcases List.mem_cons.1 (show a ∈ (AV.int .u8 (.ofNat b.toNat)) :: ofBytes s from h) with rfl | h
    · rfl
    · exact ofBytes_one s a h
theorem ofBytes_length : ∀ s : List UInt8, (ofBytes s).length = s.length
  | [] => rfl
  | b :: s => congrArg (· + 1) (ofBytes_length s)
theorem bytesOf_VL {c : Cx} : ∀ {cs : List AV} {vs : List Value} {s : List UInt8}, VL c cs vs → bytesOf cs = some s → ∃ ns : List Nat, vs = ns.map (fun (n : Nat) => Value.int .u8 (n : Int)) ∧ s = ns.map UInt8.ofNat
  | _, _, s, .nil, e => by cases e; exact ⟨[], rfl, rfl⟩
  | _, _, s, .cons (a := a) (al := al) h1 h2, e => by
    cases a with
    | int k n =>
      obtain ⟨hk, e⟩ := bi_some (by simp) (show bi (eqK k .u8) (Int.cas n (fun m => ob (bytesOf al) none fun r => some (UInt8.ofNat m :: r)) fun _ => none) none = some s from e)
      cases eqK_eq hk
      cases n with
      | negSucc n => cases e
      | ofNat n =>
        obtain ⟨r, e1, e2⟩ := ob_some (by simp) (show ob (bytesOf al) none (fun r => some (UInt8.ofNat n :: r)) = some s from e)
        cases e2
        obtain ⟨ns, rfl, rfl⟩ := bytesOf_VL h2 e1
        rw [h1.int_inv]
        exact ⟨n :: ns, rfl, rfl⟩
    | _ => cases e
theorem r_b2s {s d q : TypeId} (rel : Rel P B W ι h w) (hs : P.underlying s = some (.slice q)) (hq : P.underlying q = some (.int .u8)) (hd : P.underlying d = some .string) (hx : V (cx ι h w) (x fr) vx) (e : xB2s x fr h = .ok r h') :
    h' = h ∧ ∃ u, V (cx ι h w) r u ∧ (Go.convert s d vx).run P w = .ok u w := by
  rcases slice_ok' e with ⟨ex, e⟩ | ⟨b, o, n, k, sz, ex, e⟩
  · obtain ⟨e1, e2⟩ := okE e
    rw [ex] at hx
    cases hx
    subst e1
    refine ⟨e2.symm, _, .str [], ?_⟩
    simp only [Go.convert, Sem.run_bind, run_underlying hs, run_underlying hd, Result.andThen_ok, run_underlying hq, Conv.bytesToString]
    rfl
  · obtain ⟨cs, ty, fz, hb, e⟩ := at_cells e
    obtain ⟨v, e1, e⟩ := obE e
    obtain ⟨l, e2, e⟩ := obE e
    obtain ⟨e3, e4⟩ := okE e
    rw [ex] at hx
    obtain ⟨y, o', c', rfl, g1, g2, g3, g4⟩ := hx.slice_inv
    obtain ⟨hy, h6, h7⟩ := g4 ⟨_, hb⟩
    subst e3
    obtain ⟨c2, lo, hi, k1, k2, k3, k4, k5⟩ := block_cells rel hb hy
    obtain ⟨j1, rfl⟩ := lrange_some e1
    have hv := (k3.drop o).take n
    have hl : ((c2.toList.take cs.length).drop o).take n = (c2.toList.drop o).take n := by
      rw [List.drop_take, List.take_take]
      congr 1
      omega
    rw [hl] at hv
    obtain ⟨ns, m1, rfl⟩ := bytesOf_VL hv e2
    refine ⟨e4.symm, _, .str _, ?_⟩
    have hlen : ns.length = n := by
      have := congrArg List.length m1
      simp at this
      omega
    have hload : (loadCells ⟨y, o', none⟩ n).run P w = .ok ((ns.map (fun (n : Nat) => (n : Int))).map (Value.int .u8)).toArray w := by
      by_cases hn : n = 0
      · subst hn
        have : ns = [] := List.eq_nil_of_length_eq_zero hlen
        subst this
        rfl
      · have ho : o' = o := by
          rcases h6 with h6 | h6
          · exact h6
          · omega
        subst ho
        have h := run_loadCells_list (P := P) w ⟨y, o', none⟩ ((ns.map (fun (n : Nat) => (n : Int))).map (Value.int .u8)) (fun j v hj => by
          rw [Addr.add_mid]
          have hr := range_of_block k1 o' n (by omega)
          refine hr j v ?_
          rw [m1]
          simpa using hj)
        simpa [hlen] using h
    have hb2 := run_bytesToString (P := P) w ⟨y, o', none⟩ n c' _ hload
    rw [run_convert_bytes_string w s d q _ n c' hs hq hd, hb2]
    congr 2
    have hf : ∀ (l : List Nat) (r : ByteArray), (l.map (fun (n : Nat) => (n : Int))).foldl (fun r n => r.push (UInt8.ofNat n.toNat)) r = ⟨r.data ++ (l.map UInt8.ofNat).toArray⟩ := by
      intro l
      induction l with
      | nil => intro r; simp
      | cons a l ih =>
        intro r
        simp only [List.map_cons, List.foldl_cons]
        rw [ih]
        simp [ByteArray.push]
    rw [hf]
    show (⟨#[] ++ (ns.map UInt8.ofNat).toArray⟩ : ByteArray) = _
    simp
theorem wnew_drew (w : World) (o : Obj) : WNew w (w.drew.alloc o) o := ⟨rfl, rfl, rfl, rfl⟩
theorem grown_le (w : World) (need old : Nat) (e : TypeId) : need ≤ grownCap w need old e := by
  unfold grownCap Question.cut
  exact Nat.le_add_right _ _
/-- A made row, whose first cells are known. -/
theorem row_R {c : Cx} {cs : List AV} {c' : Array Value} {t : TypeId} {u : World} {q : Nat} {f : Nat × Nat} (hq : u.heap[q]? = some (.cells c' t f)) (hl : cs.length ≤ c'.size) (hv : VL c cs (c'.toList.take cs.length)) (h1 : ∀ a ∈ cs, a.one = true) (hf : ∀ i, f.1 ≤ i → i < f.2 → i < c'.size → False) (fz : Nat) : ObjR P c u q (.cells cs t fz) :=
  ⟨c', f.1, f.2, hq, hl, hv, h1, fun i a b c => (hf i a b c).elim⟩
theorem e_s2b {s d q : TypeId} (rel : Rel P B W ι h w) (hs : P.underlying s = some .string) (hd : P.underlying d = some (.slice q)) (hq : P.underlying q = some (.int .u8)) (hx : V (cx ι h w) (x fr) vx) (e : xS2b q x fr h = .ok r h') :
    ∃ ι' w' u, (Go.convert s d vx).run P w = .ok u w' ∧ Rel P B W ι' h' w' ∧ Ext ι h w ι' h' w' ∧ V (cx ι' h' w') r u := by
  obtain ⟨l, ex, e⟩ := str_ok e
  obtain ⟨e1, e2⟩ := okE e
  subst e1 e2
  rw [ex] at hx
  rw [hx.str_inv]
  have hsz : (ByteArray.mk l.toArray).size = l.length := by simp [ByteArray.size]
  have hrun := run_bytes_of_string w s d q ⟨l.toArray⟩ hs hd hq
  have hge := grown_le w l.length 0 q
  rw [hsz] at hrun
  have hrow : (bytesRow ⟨l.toArray⟩ (grownCap w l.length 0 q)).toList = (l.map fun b => Value.int .u8 (b.toNat : Int)) ++ List.replicate (grownCap w l.length 0 q - l.length) (.int .u8 0) := by
    unfold bytesRow
    rw [hsz]
    simp
  have hrs : (bytesRow ⟨l.toArray⟩ (grownCap w l.length 0 q)).size = grownCap w l.length 0 q := by
    have := congrArg List.length hrow
    simp at this
    omega
  obtain ⟨k1, k2⟩ := rel.new (o := .cells (ofBytes l) q 0) (wnew_drew w _) (row_R (heap_new (wnew_drew w (.cells (bytesRow ⟨l.toArray⟩ (grownCap w l.length 0 q)) q ((bytesRow ⟨l.toArray⟩ (grownCap w l.length 0 q)).size, (bytesRow ⟨l.toArray⟩ (grownCap w l.length 0 q)).size + 1))))
    (by rw [ofBytes_length, hrs]; exact hge) (by
      rw [hrow, List.take_left' (by rw [ofBytes_length]; simp)]
      exact ofBytes_VL _ l) (ofBytes_one l) (fun i a b c => by omega) 0)
  refine ⟨_, _, _, hrun, k1, k2, .slice _ _ _ _ _ _ _ _ ?_ hge (fun k hk => by cases hk) fun _ => ⟨upd_same _ _ _, .inl rfl, ?_⟩⟩
  · show h.nx.num < (h.new _).nx.num
    rw [nx_new]; omega
  · show 0 + grownCap w l.length 0 q * 1 ≤ bsz _ w.heap.size
    unfold bsz
    rw [heap_new (wnew_drew w _)]
    show _ ≤ (bytesRow ⟨l.toArray⟩ (grownCap w l.length 0 q)).size
    omega
end
end Ev
end Go.Proofs.YtfpghnldcbhniaaGreat
