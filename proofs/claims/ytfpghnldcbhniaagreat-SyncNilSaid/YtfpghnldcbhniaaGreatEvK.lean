/- Appends and copies. -/
import Derived.Test.YtfpghnldcbhniaaGreatEvJ
import Derived.Deep.Upon
namespace Go.Proofs.YtfpghnldcbhniaaGreat
set_option linter.unusedVariables false
set_option linter.unusedSimpArgs false
open Go.RowKit Go.Maps
namespace Ev

section
variable {P : Program} {B : Nat} {W : World} {ι : Pos → Option Nat} {h h' : H} {w w' : World} {fr : Fr} {x y z : Opd} {a : AV} {vx vy vz : Value} {r : AV}
theorem VL.ones {c : Cx} {v : List AV} {vs : List Value} (hv : VL c v vs) (h1 : ∀ a ∈ v, a.one = true) : ∀ u ∈ vs, u.oneCell' = true := by
  induction vs generalizing v with
  | nil => intro u hu; cases hu
  | cons u us ih =>
    intro u' hu'
    cases hv with
    | cons a1 a2 =>
      rcases List.mem_cons.1 hu' with rfl | hu'
      · exact a1.one_cell (h1 _ List.mem_cons_self)
      · exact ih a2 (fun a ha => h1 a (List.mem_cons_of_mem _ ha)) u' hu'
/-- The cells of a slice. -/
theorem slice_cells (rel : Rel P B W ι h w) {b : Pos} {o n : Nat} {cap : Option Nat} {sz q o' c' : Nat} {cs vs : List AV} {t : TypeId} {fz : Nat} (hb : h.obj b = some (.cells cs t fz)) (hq : ι b = some q) (ho : n * sz = 0 ∨ o' = o) (hr : lrange cs (n * sz) o = some vs) :
    ∃ us : List Value, us.length = n * sz ∧ VL (cx ι h w) vs us ∧ (∀ a ∈ vs, a.one = true) ∧ ∀ j u, us[j]? = some u → w.cell? ((⟨q, o', none⟩ : Addr).add j) = some u := by
  obtain ⟨c2, lo, hi, k1, k2, k3, k4, k5⟩ := block_cells rel hb hq
  obtain ⟨j1, rfl⟩ := lrange_some hr
  have hv := (k3.drop o).take (n * sz)
  have hl : ((c2.toList.take cs.length).drop o).take (n * sz) = (c2.toList.drop o).take (n * sz) := by
    rw [List.drop_take, List.take_take]
    congr 1
    omega
  rw [hl] at hv
  refine ⟨_, by simp; omega, hv, fun a ha => k4 a (List.mem_of_mem_drop (List.mem_of_mem_take ha)), fun j u hj => ?_⟩
  rw [Addr.add_mid]
  rcases ho with ho | ho
  · rw [ho] at hj; simp at hj
  · subst ho
    exact range_of_block k1 o' (n * sz) (by omega) j u hj
theorem srcL_ok {sz : Nat} {tx e' : TypeId} {f : Nat → List AV → E} (rel : Rel P B W ι h w) (hk : P.underlying tx = some (.slice e')) (hx : V (cx ι h w) a vx) (e : srcL sz a h f = .ok r h') (hsz : 0 < sz) :
    ∃ n vs news, f n vs = .ok r h' ∧ VL (cx ι h w) vs news ∧ (∀ a ∈ vs, a.one = true) ∧ Src P sz tx vx n news w := by
  rcases slice_ok' e with ⟨rfl, e⟩ | ⟨b, o, n, k, s, rfl, e⟩
  · cases hx
    exact ⟨0, [], [], e, .nil, (fun _ h => by cases h), Src.ofNil w hk 0⟩
  · obtain ⟨cs, ty, fz, hb, e⟩ := at_cells e
    obtain ⟨vs, e1, e⟩ := obE e
    obtain ⟨q, o', c', rfl, g1, g2, g3, g4⟩ := hx.slice_inv
    obtain ⟨hq, h6, h7⟩ := g4 ⟨_, hb⟩
    obtain ⟨us, u1, u2, u3, u4⟩ := slice_cells (cap := k) (c' := c') rel hb hq (o' := o') (by
      rcases h6 with h6 | h6
      · exact .inr h6
      · left; have : n = 0 := by omega
        rw [this]; omega) e1
    exact ⟨n, vs, us, e, u2, u3, Src.ofSlice w hk _ n c' us u1 u4 (u2.ones u3)⟩
theorem srcS_ok {tx : TypeId} {f : Nat → List AV → E} {c : Cx} (hk : P.underlying tx = some .string) (hx : V c a vx) (e : srcS a f = .ok r h') :
    ∃ n vs news, f n vs = .ok r h' ∧ VL c vs news ∧ (∀ a ∈ vs, a.one = true) ∧ Src P 1 tx vx n news w := by
  obtain ⟨s, rfl, e⟩ := str_ok e
  rw [hx.str_inv]
  have hsz : (ByteArray.mk s.toArray).size = s.length := by simp [ByteArray.size]
  have h1 := Src.ofString (P := P) w hk ⟨s.toArray⟩
  rw [hsz] at h1
  refine ⟨s.length, ofBytes s, _, e, ?_, ofBytes_one s, h1⟩
  have := ofBytes_VL c s
  simpa [byteCells] using this
theorem small_ok {n bytes : Nat} {E0 : E} (e : small n bytes E0 = .ok r h') : n * bytes < 1000000000 ∧ n < 1000000000 ∧ E0 = .ok r h' := by
  obtain ⟨h1, e⟩ := biE (show bi _ (bi _ _ _) _ = _ from e)
  obtain ⟨h2, e⟩ := biE e
  rw [blt_eq] at h1 h2
  exact ⟨of_decide_eq_true h1, of_decide_eq_true h2, e⟩
theorem zeroCells_size (z : Array Value) (n : Nat) : (Builtin.zeroCells z n).size = n * z.size := by simp [Builtin.zeroCells]
/-- A grown row. -/
theorem grow_ok {t tx ty e : TypeId} {i : TypeInfo} {z : Value} {cs : List AV} {base : Option Addr} {sLen sCap n : Nat} {olds news : List Value} (rel : Rel P B W ι h w) (ht : P.underlying t = some (.slice e)) (hi : P.info? e = some i) (hz : i.zero = some z) (hzs : z.cells.size = i.size)
    (hold : (Builtin.firstCells i.size sLen (.slice base sLen sCap)).run P w.drew = .ok olds.toArray w.drew) (hol : olds.length = sLen * i.size) (hs : Src P i.size tx vy n news w) (hg : sCap < sLen + n) (hb : (sLen + n) * i.bytes < 1000000000) (h9 : sLen + n < 1000000000)
    (hv : VL (cx ι h w) cs (olds ++ news)) (h1 : ∀ a ∈ cs, a.one = true) (fz : Nat) :
    ∃ ι' w' u, (Builtin.append_ #[t, tx] ty #[.slice base sLen sCap, vy]).run P w = .ok u w' ∧ Rel P B W ι' (h.new (.cells cs e fz)) w' ∧ Ext ι h w ι' (h.new (.cells cs e fz)) w' ∧ V (cx ι' (h.new (.cells cs e fz)) w') (.slice h.nx 0 (sLen + n) none i.size) u := by
  have hrun := run_append_grow_src (P := P) w t tx ty e i z ht hi hz base sLen sCap olds hold vy n news hs hg (by omega) (growslice_fits hg (by omega))
  have hge := grown_le w (sLen + n) sCap e
  have hcsl : cs.length = (sLen + n) * i.size := by
    rw [← hv.length, List.length_append, hol, hs.newsLen, Nat.add_mul]
  have hsize : ((olds ++ news).toArray ++ Builtin.zeroCells z.cells (grownCap w (sLen + n) sCap e - (sLen + n))).size = grownCap w (sLen + n) sCap e * i.size := by
    rw [Array.size_append, zeroCells_size, hzs]
    simp only [List.size_toArray, List.length_append, hol, hs.newsLen]
    rw [← Nat.add_mul, ← Nat.add_mul]
    congr 1
    omega
  obtain ⟨k1, k2⟩ := rel.new (o := .cells cs e fz) (wnew_drew w _) (row_R (heap_new (wnew_drew w (.cells ((olds ++ news).toArray ++ Builtin.zeroCells z.cells (grownCap w (sLen + n) sCap e - (sLen + n))) e)))
    (by rw [hsize, hcsl]; exact Nat.mul_le_mul_right _ hge) (by
      rw [← hv.length]
      simp only [Array.toList_append, List.take_left]
      exact hv) h1 (fun i a b c => by cases b) fz)
  refine ⟨_, _, _, hrun, k1, k2, .slice _ _ _ _ _ _ _ _ ?_ hge (fun k hk => by cases hk) fun _ => ⟨upd_same _ _ _, .inl rfl, ?_⟩⟩
  · show h.nx.num < (h.new _).nx.num
    rw [nx_new]; omega
  · show 0 + grownCap w (sLen + n) sCap e * i.size ≤ bsz _ w.heap.size
    unfold bsz
    rw [heap_new (wnew_drew w _)]
    show _ ≤ ((olds ++ news).toArray ++ Builtin.zeroCells z.cells (grownCap w (sLen + n) sCap e - (sLen + n))).size
    omega
theorem e_appTo {t tx ty e : TypeId} {i : TypeInfo} {z : Value} {n : Nat} {vs : List AV} {news : List Value} (rel : Rel P B W ι h w) (ht : P.underlying t = some (.slice e)) (hi : P.info? e = some i) (hz : i.zero = some z) (hzs : z.cells.size = i.size) (h0 : 0 < i.size)
    (hx : V (cx ι h w) a vx) (hs : Src P i.size tx vy n news w) (hv : VL (cx ι h w) vs news) (h1 : ∀ a ∈ vs, a.one = true) (he : appTo e i.size i.bytes a h n vs = .ok r h') :
    ∃ ι' w' u, (Builtin.append_ #[t, tx] ty #[vx, vy]).run P w = .ok u w' ∧ Rel P B W ι' h' w' ∧ Ext ι h w ι' h' w' ∧ V (cx ι' h' w') r u := by
  have hnl := hs.newsLen
  rcases slice_ok' he with ⟨rfl, he⟩ | ⟨b, o, len, k, s, rfl, he⟩
  · cases hx
    cases n with
    | zero =>
      obtain ⟨e1, e2⟩ := okE (show E.ok .nils h = .ok r h' from he)
      subst e1 e2
      have hnil : news = [] := List.eq_nil_of_length_eq_zero (by omega)
      subst hnil
      exact ⟨ι, w, _, run_append_nothing w t tx ty e i ht hi none 0 0 (Nat.le_refl _) vy hs, rel, Ext.refl _ _ _, .nils⟩
    | succ n =>
      obtain ⟨h2, h3, he⟩ := small_ok (show small (n + 1) i.bytes _ = _ from he)
      obtain ⟨e1, e2⟩ := okE he
      subst e1 e2
      have := grow_ok (ty := ty) (base := none) (sLen := 0) (sCap := 0) (olds := []) (n := n + 1) rel ht hi hz hzs (run_firstCells_none w.drew i.size 0 0 0) (by simp) hs (by omega) (by simpa using h2) (by omega) (by simpa using hv) h1 0
      simpa using this
  · obtain ⟨hsz, hf⟩ := biE he
    clear he
    have hsz := Nat.eq_of_beq_eq_true hsz
    subst hsz
    obtain ⟨q, o', c', rfl, g1, g2, g3, g4⟩ := hx.slice_inv
    cases n with
    | zero =>
      obtain ⟨e1, e2⟩ := okE (show E.ok (.slice b o len k i.size) h = .ok r h' from hf)
      subst e1 e2
      have hnil : news = [] := List.eq_nil_of_length_eq_zero (by omega)
      subst hnil
      exact ⟨ι, w, _, run_append_nothing w t tx ty e i ht hi _ len c' g2 vy hs, rel, Ext.refl _ _ _, hx⟩
    | succ n =>
      obtain ⟨cs, t', fz, hb, he⟩ := at_cells (show cellsAt h b E.no (fun cs t fz => small (len + (n + 1)) i.bytes (ob k (appUnk e i.size h b o len (n + 1) cs t fz vs) fun c => appKn e i.size h b o len c (n + 1) cs t fz vs)) = E.ok r h' from hf)
      clear hf
      obtain ⟨h2, h3, hf⟩ := small_ok he
      clear he
      obtain ⟨hq, h6, h7⟩ := g4 ⟨_, hb⟩
      obtain ⟨c2, lo, hi', k1, k2, k3, k4, k5⟩ := block_cells rel hb hq
      have hbs : bsz w q = c2.size := by simp [bsz, k1]
      have h7 : o' + c' * i.size ≤ c2.size := by rw [← hbs]; exact h7
      -- there is room: the cells are stored
      have room : len + (n + 1) ≤ c' → fz ≤ o + len * i.size → o' = o ∧ (Builtin.append_ #[t, tx] ty #[.slice (some ⟨q, o', none⟩) len c', vy]).run P w = .ok (.slice (some ⟨q, o', none⟩) (len + (n + 1)) c') (w.setCells q (o' + len * i.size) news) ∧ o' + len * i.size + news.length ≤ c2.size := by
        intro hle hfz
        have ho : o' = o := by
          rcases h6 with h6 | h6
          · exact h6
          · omega
        have hm : (len + (n + 1)) * i.size ≤ c' * i.size := Nat.mul_le_mul_right _ hle
        rw [Nat.add_mul] at hm
        have hroom : o' + len * i.size + news.length ≤ c2.size := by omega
        refine ⟨ho, run_append_room_src w t tx ty e i ht hi q o' len c' vy (n + 1) news hs hle (fun j hj => ?_) (fun j hj => ?_), hroom⟩
        · simp only [World.cell?, k1]
          simp
          omega
        · simp only [World.frozen?, k1]
          rw [Bool.and_eq_false_iff]
          by_cases hlo : lo ≤ o' + len * i.size + j
          · right
            rw [decide_eq_false_iff_not]
            intro hhi
            have := k5 _ hlo hhi (by omega)
            omega
          · left
            exact decide_eq_false hlo
      -- there is none
      have oldsOf : ∀ old, lrange cs (len * i.size) o = some old → ∃ olds : List Value, olds.length = len * i.size ∧ VL (cx ι h w) old olds ∧ (∀ a ∈ old, a.one = true) ∧ (Builtin.firstCells i.size len (.slice (some ⟨q, o', none⟩) len c')).run P w.drew = .ok olds.toArray w.drew := by
        intro old hold
        obtain ⟨us, u1, u2, u3, u4⟩ := slice_cells (cap := k) (c' := c') rel hb hq (o' := o') (n := len) (sz := i.size) (by
          rcases h6 with h6 | h6
          · exact .inr h6
          · left; have : len = 0 := by omega
            rw [this]; omega) hold
        exact ⟨us, u1, u2, u3, run_firstCells_some w.drew i.size len ⟨q, o', none⟩ len c' us u1 (fun j v hj => by
          have := u4 j v hj
          simpa using this)⟩
      cases k with
      | some c =>
        have hc := g3 c rfl
        subst hc
        by_cases hle : len + (n + 1) ≤ c'
        · have hble : Nat.ble (len + (n + 1)) c' = true := Nat.ble_eq_true_of_le hle
          have he : bi (Nat.ble fz (o + len * i.size)) (ob (lput vs (o + len * i.size) cs) E.no fun cs' => E.ok (.slice b o (len + (n + 1)) (some c') i.size) (h.put b (.cells cs' t' fz))) E.no = E.ok r h' := by
            have he' : appKn e i.size h b o len c' (n + 1) cs t' fz vs = .ok r h' := hf
            unfold appKn at he'
            rw [hble] at he'
            exact he'
          obtain ⟨hff, he⟩ := biE he
          obtain ⟨cs', e1, he⟩ := obE he
          obtain ⟨e2, e3⟩ := okE he
          subst e2 e3
          obtain ⟨ho, hrun, _⟩ := room hle (Nat.le_of_ble_eq_true hff)
          subst ho
          obtain ⟨s1, s2, s3⟩ := store_block rel hb hq (Nat.le_of_ble_eq_true hff) hv h1 e1
          exact ⟨ι, _, _, hrun, s2, s3, (V.slice b o' (len + (n + 1)) (some c') i.size q o' c' g1 hle (fun k hk => by cases hk; rfl) fun hl => ⟨hq, .inl rfl, by rw [show (cx ι h w).bs q = c2.size from hbs]; exact h7⟩).mono (s3.le rel)⟩
        · have hble : Nat.ble (len + (n + 1)) c' = false := by rw [Bool.eq_false_iff]; intro hb; exact hle (Nat.le_of_ble_eq_true hb)
          have he : (ob (lrange cs (len * i.size) o) E.no fun old => E.ok (.slice h.nx 0 (len + (n + 1)) none i.size) (h.new (.cells (lapp old vs) e 0))) = E.ok r h' := by
            have he' : appKn e i.size h b o len c' (n + 1) cs t' fz vs = .ok r h' := hf
            unfold appKn at he'
            rw [hble] at he'
            exact he'
          obtain ⟨old, e1, he⟩ := obE he
          obtain ⟨e2, e3⟩ := okE he
          subst e2 e3
          obtain ⟨olds, u1, u2, u3, u4⟩ := oldsOf old e1
          rw [lapp_eq]
          exact grow_ok rel ht hi hz hzs u4 u1 hs (by omega) h2 h3 (u2.append hv) (fun a ha => (List.mem_append.1 ha).elim (u3 a) (h1 a)) 0
      | none =>
        have he' : appUnk e i.size h b o len (n + 1) cs t' fz vs = .ok r h' := hf
        obtain ⟨q1, he⟩ := biE (show bi _ (bi _ (bi _ _ _) _) _ = _ from he')
        obtain ⟨q2, he⟩ := biE he
        obtain ⟨q3, he⟩ := biE he
        obtain ⟨q4, he⟩ := biE he
        obtain ⟨e2, e3⟩ := okE he
        have q1 := Nat.eq_of_beq_eq_true q1
        have q2 := Nat.eq_of_beq_eq_true q2
        rw [llen_eq] at q3
        have q3 := Nat.eq_of_beq_eq_true q3
        have q4 := Nat.le_of_ble_eq_true q4
        subst q1 q2 e2 e3
        rw [lapp_eq]
        by_cases hle : len + (n + 1) ≤ c'
        · obtain ⟨ho, hrun, hroom⟩ := room hle (by omega)
          subst ho
          obtain ⟨c3, m1, m2, m3⟩ := heap_setCells q e (lo, hi') news (0 + len * i.size) w c2 k1 hroom
          have hup := wup_setCells q news (0 + len * i.size) w
          have hbs2 : bsz (w.setCells q (0 + len * i.size) news) q = bsz w q := by unfold bsz; rw [m1, k1]; exact m2
          have hvl : vs.length = news.length := hv.length.symm
          obtain ⟨s2, s3⟩ := rel.renew (o := .cells (cs ++ vs) e fz) hb hq hup hbs2 ⟨c3, lo, hi', m1, by rw [m2]; simp; omega, by
            rw [m3]
            have : (c2.toList.take (0 + len * i.size) ++ news ++ c2.toList.drop (0 + len * i.size + news.length)).take (cs ++ vs).length = c2.toList.take cs.length ++ news := by
              rw [List.length_append, q3, hvl, Nat.zero_add, List.take_append_of_le_length (by simp; omega), List.take_of_length_le (by simp; omega)]
            rw [this]
            exact k3.append hv, fun a ha => (List.mem_append.1 ha).elim (k4 a) (h1 a), fun i a1 a2 a3 => k5 i a1 a2 (by omega)⟩
          refine ⟨_, _, _, hrun, s2, s3, .slice _ _ _ _ _ _ _ _ ?_ hle (fun k hk => by cases hk) fun _ => ⟨upd_same _ _ _, .inl rfl, ?_⟩⟩
          · show h.nx.num < ((h.kill b).new _).nx.num
            rw [nx_new]; exact Nat.lt_succ_self _
          · show 0 + c' * i.size ≤ bsz _ q
            rw [hbs2, hbs]
            exact h7
        · obtain ⟨olds, u1, u2, u3, u4⟩ := oldsOf cs (by
            have : ∀ (l : List AV), lrange l l.length 0 = some l := by
              intro l
              induction l with
              | nil => rfl
              | cons a l ih => show ob (ltake l l.length) none _ = _; rw [show ltake l l.length = some l from ih]; rfl
            rw [← q3]
            exact this cs)
          obtain ⟨r1, r2⟩ := rel.kill b
          have hle2 := r2.le rel
          obtain ⟨ι', w', u, h5, h8, h9, h10⟩ := grow_ok (ty := ty) (fz := fz) (cs := cs ++ vs) r1 ht hi hz hzs u4 u1 hs (by omega) h2 h3 ((u2.append hv).mono hle2) (fun a ha => (List.mem_append.1 ha).elim (u3 a) (h1 a))
          exact ⟨ι', w', u, h5, h8, r2.trans rel h9, h10⟩

theorem e_app {t tx ty e e' : TypeId} {i : TypeInfo} {z : Value} (rel : Rel P B W ι h w) (ht : P.underlying t = some (.slice e)) (hk : P.underlying tx = some (.slice e')) (hi : P.info? e = some i) (hz : i.zero = some z) (hzs : z.cells.size = i.size) (h0 : 0 < i.size)
    (hx : V (cx ι h w) (x fr) vx) (hy : V (cx ι h w) (y fr) vy) (he : xApp e i.size i.bytes x y fr h = .ok r h') :
    ∃ ι' w' u, (Builtin.append_ #[t, tx] ty #[vx, vy]).run P w = .ok u w' ∧ Rel P B W ι' h' w' ∧ Ext ι h w ι' h' w' ∧ V (cx ι' h' w') r u := by
  obtain ⟨n, vs, news, e1, e2, e3, e4⟩ := srcL_ok rel hk hy (show srcL i.size (y fr) h _ = _ from he) h0
  exact e_appTo rel ht hi hz hzs h0 hx e4 e2 e3 e1
theorem e_appS {t tx ty e : TypeId} {i : TypeInfo} {z : Value} (rel : Rel P B W ι h w) (ht : P.underlying t = some (.slice e)) (hk : P.underlying tx = some .string) (hi : P.info? e = some i) (hz : i.zero = some z) (hzs : z.cells.size = i.size) (h0 : i.size = 1)
    (hx : V (cx ι h w) (x fr) vx) (hy : V (cx ι h w) (y fr) vy) (he : xAppS e i.bytes x y fr h = .ok r h') :
    ∃ ι' w' u, (Builtin.append_ #[t, tx] ty #[vx, vy]).run P w = .ok u w' ∧ Rel P B W ι' h' w' ∧ Ext ι h w ι' h' w' ∧ V (cx ι' h' w') r u := by
  obtain ⟨n, vs, news, e1, e2, e3, e4⟩ := srcS_ok (w := w) hk hy (show srcS (y fr) _ = _ from he)
  rw [← h0] at e4 e1
  exact e_appTo rel ht hi hz hzs (by omega) hx e4 e2 e3 e1
end
end Ev
end Go.Proofs.YtfpghnldcbhniaaGreat
