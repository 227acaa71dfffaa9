/- Sealed texts are opened, others are not; a nil keeper: the law, walked. -/
import Derived.Test.YtoaimjielnempaaGreatDoorRkA
namespace Go.Proofs.YtoaimjielnempaaGreatDoor
set_option linter.unusedVariables false
set_option linter.unusedSimpArgs false
open Go.RowKit Go.Maps
namespace Rk
open Sh
/-- The first four bytes of the sum of the sum. -/
def tail4 (s : ByteArray) : ByteArray := ⟨((shaB (shaB s.data.toList)).take 4).toArray⟩
theorem sealB_tail (s : ByteArray) : sealB s = s ++ tail4 s := rfl
theorem tail4_size (s : ByteArray) : (tail4 s).size = 4 := by
  show ((shaB (shaB s.data.toList)).take 4).toArray.size = 4
  simp [shaB, stB_len]
theorem sealB_pre (s : ByteArray) : (sealB s).extract 0 ((sealB s).size - 4) = s := by
  rw [sealB_size]
  exact ByteArray.extract_append_eq_left (by omega)
theorem sealB_iff (s : ByteArray) (h : 4 ≤ s.size) : sealB (s.extract 0 (s.size - 4)) = s ↔ tail4 (s.extract 0 (s.size - 4)) = s.extract (s.size - 4) s.size := by
  have e : s.extract 0 (s.size - 4) ++ s.extract (s.size - 4) s.size = s := by
    rw [ByteArray.extract_append_extract]
    simp
  rw [sealB_tail]
  constructor
  · intro h1
    exact (ByteArray.append_right_inj _).1 (h1.trans e.symm)
  · intro h1
    rw [h1, e]
theorem unseal_own (s : ByteArray) (hs : s.size ≤ 140737488351232) (w : World) :
    Calls Tryz.prog 6 #[.string (sealB s)] w fun e w' => e = .returned (.tuple #[.string s, .bool true]) ∧ w.grownBy w' none := by
  have h := unseal_any (sealB s) (by rw [sealB_size]; omega) w
  rw [if_pos ⟨by rw [sealB_size]; omega, by rw [sealB_pre]⟩, sealB_pre] at h
  exact h
theorem fits_grown {w w' : World} (fit : Ev.Fits Tryz.prog w.heap.size w) (h : w.grownBy w' none) : Ev.Fits Tryz.prog w'.heap.size w' := by
  obtain ⟨ev, h1, h2, h3⟩ := fit
  exact ⟨ev, h.cell h1 (by simp), h2, Nat.lt_of_lt_of_le h3 h.size⟩
/-- The four bytes out of the cells. -/
theorem conv4 {W : World} {g : Nat} {s : ByteArray} (h : Whole W g 23 (bvs (shaB (shaB s.data.toList))).toArray) :
    ∀ n, (convert 34 9 (.slice (some ⟨g, 0, none⟩) 4 32)).run Tryz.prog (W.drewN n) = .ok (.string (tail4 s)) (W.drewN n) := fun n => by
  have h := run_convert_bytes_back (P := Tryz.prog) (W.drewN n) 34 9 5 ⟨g, 0, none⟩ 32 ((shaB (shaB s.data.toList)).take 4) Tryz.underlying34 Tryz.underlying5 Tryz.underlying9 (fun i hi => by
    rw [Addr.add_mid, (h.drewN n).cell]
    have hi' : i < 4 := by rw [List.length_take] at hi; omega
    simp [bvs, List.getElem?_eq_getElem (show i < (shaB (shaB s.data.toList)).length by simp [shaB, stB_len]; omega)])
  rw [show ((shaB (shaB s.data.toList)).take 4).length = 4 by simp [shaB, stB_len]] at h
  exact h
theorem conv4_at {W : World} {g : Nat} {s : ByteArray} (h : Whole W g 23 (bvs (shaB (shaB s.data.toList))).toArray) :
    (convert 34 9 (.slice (some ⟨g, 0, none⟩) 4 32)).run Tryz.prog W = .ok (.string (tail4 s)) W := conv4 h 0
theorem below_grown {w w' : World} (h : Below w.heap.size w w') : w.grownBy w' none := ⟨h.os, h.tape, h.output, h.size, fun k hk _ => h.block k hk⟩
theorem size68 : (Tryz.prog.info? 26).map (·.size) = some 68 := by kernel_rfl
theorem size69 : (Tryz.prog.info? 29).map (·.size) = some 69 := by kernel_rfl
theorem range_of {W : World} {g t : Nat} {cs : Array Value} (h : Whole W g t cs) (n : Nat) : W.rangeAt g 0 (cs.toList.take n) := fun j v hv => by
  have hj : j < n := by
    rcases Nat.lt_or_ge j n with h1 | h1
    · exact h1
    · rw [List.getElem?_eq_none (by rw [List.length_take]; omega)] at hv
      cases hv
  rw [List.getElem?_take_of_lt hj, Array.getElem?_toList] at hv
  rw [Nat.zero_add, h.cell]
  exact hv
/-- A load under a guard that holds. -/
theorem load_guarded {ops : Array Oper} {rest : List Oper} {op : Oper} {a : Act} {w : World} {Q : Exit → Act → World → Prop} (hw : Region.wanted op (yielded ops a.tmps) = true) (ty : TypeId) (x : Operand) (ho : op.op = .load ty x)
    (b o : Nat) (hx : a.eval x = .pointer (some ⟨b, o, none⟩)) (cs : List Value) (d : TypeDesc) (hc : w.rangeAt b o cs) (hu : Tryz.prog.underlying ty = some d) (hd : d.isRow = true) (hi : (Tryz.prog.info? ty).map (·.size) = some cs.length)
    (h : wpList Tryz.prog ops Q rest (a.put op.dst (.agg cs.toArray)) w) : wpList Tryz.prog ops Q (op :: rest) a w := by
  refine BigFrame.wpList_want hw fun K hK => ?_
  exact wp_load_mid ty x ho b o hx cs d hc hu hd hi (hK _ _ h)
/-- What stands all the way. -/
structure Kept (w0 : World) (nh : Nat) (v u R : Array Value) (W : World) : Prop where
  b : Whole W w0.heap.size 29 v
  i : Whole W (w0.heap.size + 1) 24 u
  h : Whole W nh 23 R
  g : w0.grownBy W none
  fit : Ev.Fits Tryz.prog W.heap.size W
theorem Kept.grown {w0 W W' : World} {nh : Nat} {v u R : Array Value} (k : Kept w0 nh v u R W) (hg : W.grownBy W' none) : Kept w0 nh v u R W' :=
  ⟨k.b.grown hg (by simp), k.i.grown hg (by simp), k.h.grown hg (by simp), k.g.trans hg, fits_grown k.fit hg⟩
theorem take_self (c : Array Value) : c.toList = c.toList.take c.size := by rw [← Array.length_toList, List.take_length]
/-- A whole value that is loaded. -/
theorem load_arr {ops : Array Oper} {rest : List Oper} {op : Oper} {a : Act} {w : World} {Q : Exit → Act → World → Prop} (hw : Region.wanted op (yielded ops a.tmps) = true) (ty : TypeId) (x : Operand) (ho : op.op = .load ty x)
    (b : Nat) (hx : a.eval x = .pointer (some ⟨b, 0, none⟩)) (cs : Array Value) (d : TypeDesc) {t : TypeId} {all : Array Value} (hc : Whole w b t all) (hp : cs.toList = all.toList.take cs.size) (hu : Tryz.prog.underlying ty = some d) (hd : d.isRow = true) (hi : (Tryz.prog.info? ty).map (·.size) = some cs.size)
    (h : wpList Tryz.prog ops Q rest (a.put op.dst (.agg cs)) w) : wpList Tryz.prog ops Q (op :: rest) a w := by
  refine load_guarded hw ty x ho b 0 hx cs.toList d ?_ hu hd (by simpa using hi) (by simpa using h)
  rw [hp]
  exact range_of hc _
theorem neqZ (x y : Operand) (W : World) : (do eqGuard .neq 38 x y (.agg zeroR) (.agg zeroR); binOp .neq 38 (.agg zeroR) (.agg zeroR)).run Tryz.prog W = .ok (.bool false) W := by kernel_rfl
theorem eqlH (x y : Operand) (W : World) : (do eqGuard .eql 24 x y (.agg zero32) (.agg zero32); binOp .eql 24 (.agg zero32) (.agg zero32)).run Tryz.prog W = .ok (.bool true) W := by kernel_rfl
/-- A comparison whose answer is known. -/
theorem cmp_known {ops : Array Oper} {rest : List Oper} {op : Oper} {a : Act} {w : World} {Q : Exit → Act → World → Prop} (hw : Region.wanted op (yielded ops a.tmps) = true) (bo : BinOp) (t t' : TypeId) (x y : Operand) (ho : op.op = .binOp bo t x y t')
    (X Y v : Value) (hx : a.eval x = X) (hy : a.eval y = Y) (hr : (do eqGuard bo t x y X Y; binOp bo t X Y).run Tryz.prog w = .ok v w)
    (h : wpList Tryz.prog ops Q rest (a.put op.dst v) w) : wpList Tryz.prog ops Q (op :: rest) a w := by
  refine BigFrame.wpList_want hw fun K hK => ?_
  have hr' := hr
  rw [← hx, ← hy] at hr'
  unfold Oper.wp execOp
  rw [ho]
  have e : ∀ (k : Value → Sem Next), (do let v ← (do eqGuard bo t x y (a.eval x) (a.eval y); binOp bo t (a.eval x) (a.eval y)); k v).run Tryz.prog w = (k v).run Tryz.prog w := fun k => by
    rw [Sem.run_bind, hr']
    rfl
  have e2 := e fun v => pure (.value v)
  simp only [Sem.run_bind, Sem.run_pure] at e2 ⊢
  rw [e2]
  exact hK _ _ h
theorem sizeRn : (Tryz.prog.info? 38).map (·.size) = some 70 := by kernel_rfl
set_option maxHeartbeats 4000000
set_option maxRecDepth 100000
theorem zr_one : Tryz.zeroCells38.all (·.oneCell') = true := by rw [← zeroR_eq]; decide +kernel
theorem zr_size : Tryz.zeroCells38.size = 70 := by rw [← zeroR_eq]; rfl
theorem law_short (s : ByteArray) (hs : s.size < 4) (v u : Array Value) (hv : v.size = 69) (hu : u.size = 32) (w : World) (fit : Ev.Fits Tryz.prog w.heap.size w) :
    Calls Tryz.prog 3 #[.string s, .agg v, .agg u] w fun e w' => e = .returned (.bool true) ∧ w.grownBy w' none := by
  have x0 : Whole ((w.alloc (.cells v 29)).alloc (.cells u 24)) w.heap.size 29 v := (Whole.fresh _ _ _).alloc _
  have y0 : Whole ((w.alloc (.cells v 29)).alloc (.cells u 24)) (w.heap.size + 1) 24 u := Whole.fresh_at _ _ _ (by simp)
  have g0 : w.grownBy ((w.alloc (.cells v 29)).alloc (.cells u 24)) none := grown_alloc (grown_alloc (grown_refl _ _) _) _
  obtain ⟨R, hR⟩ : ∃ R, R = (bvs (shaB (shaB s.data.toList))).toArray := ⟨_, rfl⟩
  have HSZ := Lib.hid (show R.size = 32 by rw [hR]; exact sha_size _)
  have HON := Lib.hid (show R.all (·.oneCell') = true by rw [hR]; exact bvs_one _)
  have HR := Lib.hid hR
  have HS := Lib.hid hs
  have HV := Lib.hid hv
  have HU := Lib.hid hu
  clear hR hv hu
  go_enter Tryz.func3, Tryz.ntmps3
  go_wp2_with (go_at_call 4; refine (rtwice_any s (by omega) _).mono ?_)
  rw [← HR.out]
  rintro e w1 ⟨rfl, g1⟩
  have x1 := (x0.grown g1 (by simp)).alloc (.cells zero32 23)
  have y1 := (y0.grown g1 (by simp)).alloc (.cells zero32 23)
  have gg1 := grown_alloc (g0.trans g1) (.cells zero32 23)
  have h1 := Whole.fresh w1 23 zero32
  have n1 : w.heap.size + 1 < w1.heap.size := (y0.grown g1 (by simp)).lt
  have ge1 := (g0.trans g1).size
  clear x0 y0 g0 g1
  unfold zero32 at x1 y1 gg1 h1
  go_wp2_with (refine store_whole (cs' := R) rfl _ _ rfl rfl rfl (by rw [HSZ.out]; exact size32u) h1 (by rw [HSZ.out]; rfl) HON.out ?_
               have K2 : Kept w w1.heap.size v u R (World.setRow _ w1.heap.size R) := ⟨x1.row_aside (by omega) R, y1.row_aside (by omega) R, h1.rowAt R, grown_row gg1 (.inr ge1) R, fits_grown fit (grown_row gg1 (.inr ge1) R)⟩
               clear x1 y1 gg1 h1
               generalize World.setRow _ _ _ = w2 at K2 ⊢
               generalize w1.heap.size = nh at K2 n1 ge1 ⊢)
  refine (sealed_any s (by omega) _).mono ?_
  rintro e w3 ⟨rfl, g3⟩
  have K3 := K2.grown g3
  clear K2 g3
  go_wp2_with fail
  refine (unseal_own s (by omega) _).mono ?_
  rintro e w4 ⟨rfl, g4⟩
  have K4 := K3.grown g4
  clear K3 g4
  go_wp2_with fail
  have HUN := unseal_any s (by omega) w4
  rw [if_neg (fun h => by omega)] at HUN
  refine HUN.mono ?_
  rintro e w5 ⟨rfl, g5⟩
  have K5 := K4.grown g5
  clear K4 g5 HUN
  have e4 : ((4 : Int) ≤ (s.size : Int)) = False := eq_false (by omega)
  have hq : ((sealB s).toList == (s ++ tail4 s).toList) = true := beq_self_eq_true _
  have hsz : (9223372036854775807 < s.size + (tail4 s).size) = False := eq_false (by rw [tail4_size]; omega)
  go_wp2_with (go_at_call 7; refine (Ev.awake_any _ K5.fit).mono ?_; rintro e w6 ⟨rfl, b6⟩; have K6 := K5.grown (below_grown b6); have hcv := conv4_at (s := s) (HR.out ▸ K6.h); clear K5 b6)
  refine (open_nil _ K6.fit).mono ?_
  rintro e w7 ⟨rfl, b7⟩
  have K7 := K6.grown (below_grown b7)
  clear K6 b7 hcv hq hsz e4
  have n7 := K7.h.lt
  have o8 := Whole.fresh w7 38 Tryz.zeroCells38
  obtain ⟨hd, hhd⟩ : ∃ hd : Array Value, hd.toList = v.toList.take hd.size ∧ hd.size = 68 := ⟨(v.toList.take 68).toArray, by simp [HV.out], by simp [HV.out]⟩
  go_wp2_with (first
    | (refine store_whole rfl _ _ rfl rfl rfl (by rw [zr_size]; exact sizeRn) o8 rfl zr_one ?_
       have o9 := o8.rowAt Tryz.zeroCells38
       have K9 := K7.grown (grown_row (g := w7.heap.size) (grown_alloc (grown_refl w7 none) (.cells Tryz.zeroCells38 38)) (.inr (Nat.le_refl _)) Tryz.zeroCells38)
       clear o8 K7
       generalize World.setRow _ w7.heap.size _ = w9 at o9 K9 ⊢
       generalize w7.heap.size = nr at o9 ⊢)
    | (refine load_arr (by rfl) _ _ rfl nr rfl Tryz.zeroCells38 _ o9 (take_self _) Tryz.underlying38 rfl (by rw [zr_size]; exact sizeRn) ?_)
    | (refine cmp_known (by rfl) .neq _ _ _ _ rfl _ _ (.bool false) rfl rfl (by rw [← zeroR_eq]; exact neqZ _ _ _) ?_)
    | (refine load_arr (by rfl) _ _ rfl w.heap.size rfl hd _ K9.b hhd.1 Tryz.underlying26 rfl (by rw [hhd.2]; exact size68) ?_)
    | (go_at_call 9; refine (header_nil _ _ _).mono ?_; rintro e w10 ⟨rfl, g10⟩; have K10 := K9.grown g10; clear K9 g10)
    | (refine load_arr (by rfl) _ _ rfl w.heap.size rfl v _ K10.b (take_self v) Tryz.underlying29 rfl (by rw [HV.out]; exact size69) ?_)
    | (go_at_call 10; refine (block_nil _ _ _).mono ?_; rintro e w11 ⟨rfl, g11⟩; have K11 := K10.grown g11; clear K10 g11)
    | (refine load_arr (by rfl) _ _ rfl (w.heap.size + 1) rfl u _ K11.i (take_self u) Tryz.underlying24 rfl (by rw [HU.out]; exact size32) ?_)
    | (go_at_call 11; refine (inval_nil _ _).mono ?_; rintro e w12 ⟨rfl, g12⟩; have K12 := K11.grown g12; clear K11 g12)
    | (go_at_call 12; refine (get_nil _ _).mono ?_; rintro e w' ⟨rfl, rfl⟩)
    | (go_at_call 13; refine (tip_nil _ K12.fit).mono ?_; rintro e w13 ⟨rfl, b13⟩; have K13 := K12.grown (below_grown b13); have o14 := Whole.fresh w13 24 zero32; have g14 := grown_alloc (grown_refl w13 none) (.cells zero32 24); unfold zero32 at o14 g14; clear K12 b13)
    | (refine store_whole (cs' := zero32) rfl _ _ rfl rfl rfl size32 o14 rfl zero32_one ?_; have o15 := o14.rowAt zero32; have K15 := K13.grown (grown_row (g := w13.heap.size) g14 (.inr (Nat.le_refl _)) zero32); clear K13 g14 o14; generalize World.setRow _ w13.heap.size _ = w15 at o15 K15 ⊢; generalize w13.heap.size = nt at o15 ⊢)
    | (go_at_call 14; refine (flush_nil _).mono ?_; rintro e w' ⟨rfl, rfl⟩)
    | (go_at_call 15; refine (put_nil _ _ _).mono ?_; rintro e w' ⟨rfl, rfl⟩)
    | (go_at_call 16; refine (chain_nil _).mono ?_; rintro e w' ⟨rfl, rfl⟩)
    | (go_at_call 17; refine (dead_nil _).mono ?_; rintro e w' ⟨rfl, rfl⟩)
    | (go_at_call 18; refine (size_nil _).mono ?_; rintro e w' ⟨rfl, rfl⟩)
    | (refine load_arr (by rfl) _ _ rfl nt rfl zero32 _ o15 (take_self _) Tryz.underlying24 rfl size32 ?_)
    | (refine cmp_known (by rfl) .eql _ _ _ _ rfl _ _ (.bool true) rfl rfl (eqlH _ _ _) ?_))
  go_ret
  exact ⟨rfl, K15.g⟩
end Rk
end Go.Proofs.YtoaimjielnempaaGreatDoor
