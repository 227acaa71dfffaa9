/- strings.Builder in the run: copyCheck and String. -/
import Derived.Test.YtfpghnldcbhniaaGreatEvY
import Derived.Lib.Builder
import Derived.Lib.UnsafeStr
import Derived.RegionTactic
namespace Go.Proofs.YtfpghnldcbhniaaGreat
set_option linter.unusedVariables false
set_option linter.unusedSimpArgs false
open Go.RowKit Go.Maps
namespace Ev
noncomputable def one1 {α β : Type} (l : List α) (d : β) (f : α → β) : β := List.rec (motive := fun _ => β) d (fun x l _ => List.rec (motive := fun _ => β) (f x) (fun _ _ _ => d) l) l
theorem one1_ok {α : Type} {l : List α} {f : α → E} {r : AV} {h' : H} (e : one1 l .no f = .ok r h') : ∃ x, l = [x] ∧ f x = .ok r h' := by
  cases l with
  | nil => cases e
  | cons x l =>
    cases l with
    | nil => exact ⟨x, rfl, e⟩
    | cons _ _ => cases e
/-- Types of blocks at whose front a Builder lies. -/
def bldT (t : Nat) : Bool := Nat.beq t 277 || Nat.beq t 275
noncomputable def chkB (xs : List AV) (h : H) : E :=
  one1 xs .no fun x => x.ptr? .no fun b o => bi (Nat.beq o 0) (cellsAt h b .no fun cs t fz => bi (bldT t) (bi (Nat.beq fz 0) (bi (Nat.ble 2 (llen cs))
    (ob (lget cs 0) .no fun a => bi (sameAV .nilp a) (ob (lput [.ptr b 0] 0 cs) .no fun cs' => .ok (.tuple []) (h.put b (.cells cs' t fz))) (bi (sameAV (.ptr b 0) a) (.ok (.tuple []) h) .no)) .no) .no) .no) .no
noncomputable def bytesOk (l : List AV) : Bool := List.rec (motive := fun _ => Bool) true (fun a _ r => a.int? false fun k n => Int.cas n (fun m => and' (Nat.blt m 256) r) fun _ => false) l
noncomputable def strB (xs : List AV) (h : H) : E :=
  one1 xs .no fun x => x.ptr? .no fun b o => bi (Nat.beq o 0) (cellsAt h b .no fun cs t fz => ob (lget cs 1) .no fun s => s.slice? .no (.ok (.str []) h) fun g o' n cap sz => bi (and' (Nat.beq o' 0) (and' (Nat.beq sz 1) (and' (Nat.blt 0 n) (Nat.blt n 1000000000))))
    (cellsAt h g .no fun ds t fz => bi (Nat.beq t 5) (ob (ltake ds n) .no fun l => ob (bytesOf l) .no fun bs => bi (bytesOk l) (.ok (.str bs) (h.kill g)) .no) .no) .no) .no
theorem sizeBld : (Tryz.prog.info? 275).map (fun x => x.size) = some 2 := by kernel_rfl
theorem undPBld : Tryz.prog.underlying 273 = some (.pointer 275) := by kernel_rfl
theorem undUnsafe : Tryz.prog.underlying 344 = some .unsafePointer := by kernel_rfl
theorem undPByte : Tryz.prog.underlying 316 = some (.pointer 5) := by kernel_rfl
theorem cellsByte : Tryz.prog.cellsOf 5 = 1 := by kernel_rfl
theorem cellsW : Tryz.prog.cellsOf 277 = 2 := by kernel_rfl
theorem cellsB : Tryz.prog.cellsOf 275 = 2 := by kernel_rfl
theorem liesW : ∀ n, liesAt Tryz.prog Tryz.prog.depth 277 (Nat.succ n) 0 275 1 = true := by intro n; kernel_rfl
theorem liesB : ∀ n, liesAt Tryz.prog Tryz.prog.depth 275 (Nat.succ n) 0 275 1 = true := by intro n; kernel_rfl
theorem lies_bld {t n : Nat} (ht : bldT t = true) (hn : 2 ≤ n) : liesAt Tryz.prog Tryz.prog.depth t (n / Tryz.prog.cellsOf t) 0 275 1 = true := by
  obtain ⟨m, hm⟩ : ∃ m, n / 2 = Nat.succ m := ⟨n / 2 - 1, by omega⟩
  unfold bldT at ht
  rw [Bool.or_eq_true] at ht
  rcases ht with ht | ht
  · have ht := Nat.eq_of_beq_eq_true ht
    subst ht
    rw [cellsW, hm]
    exact liesW m
  · have ht := Nat.eq_of_beq_eq_true ht
    subst ht
    rw [cellsB, hm]
    exact liesB m
abbrev pq (b : Nat) : Value := .pointer (some ⟨b, 0, none⟩)
set_option maxHeartbeats 1000000 in
set_option maxRecDepth 100000 in
theorem check_used (b : Nat) (w : World) (h0 : w.cell? ⟨b, 0, none⟩ = some (pq b)) : Calls Tryz.prog 211 #[pq b] w fun e w' => e = .returned (.tuple #[]) ∧ w' = w := by
  obtain ⟨j, hj, _⟩ := Option.map_eq_some_iff.1 sizeBld
  go_enter Tryz.func211, Tryz.ntmps211
  go_wp2
  rw [Lib.run_neq_ptr_same w _ Tryz.underlying273 hj]
  go_wp2
  go_end0
  exact ⟨rfl, rfl⟩
set_option maxHeartbeats 1000000 in
set_option maxRecDepth 100000 in
theorem check_fresh (b t n : Nat) (w : World) (h0 : w.cell? ⟨b, 0, none⟩ = some (.pointer none)) (hsh : w.shape? b = some (t, n)) (ht : bldT t = true) (hn : 2 ≤ n) (hfz : w.frozen? ⟨b, 0, none⟩ = false) :
    Calls Tryz.prog 211 #[pq b] w fun e w' => e = .returned (.tuple #[]) ∧ w' = w.setCell ⟨b, 0, none⟩ (pq b) := by
  obtain ⟨j, hj, hjs⟩ := Option.map_eq_some_iff.1 sizeBld
  have hl := lies_bld ht hn
  have h0n : 0 < n := by omega
  go_enter Tryz.func211, Tryz.ntmps211
  go_wp2
  rw [Lib.run_to_unsafe w ⟨b, 0, none⟩ Tryz.underlying273 Tryz.underlying344 hj (by rw [hjs]; decide) hsh h0n]
  simp only [Result.andThen]
  rw [Oper.upon_value]
  go_wp2
  rw [run_callFunc_extern Tryz.func239 (by kernel_rfl) (by kernel_rfl) (by kernel_rfl) (e := Extern.AbiNoEscape.same) (by kernel_rfl)]
  rw [Lib.run_noEscape]
  simp only [Result.andThen]
  rw [Oper.upon_value]
  go_wp2
  rw [Lib.run_from_unsafe w ⟨b, 0, none⟩ Tryz.underlying344 Tryz.underlying273 hj hsh hl]
  simp only [Result.andThen]
  rw [Oper.upon_value]
  go_wp2
  go_end0
  exact ⟨rfl, rfl⟩
set_option maxHeartbeats 1000000 in
set_option maxRecDepth 100000 in
theorem bld_text (b g cap sz : Nat) (l : List UInt8) (w : World) (h0 : l ≠ []) (hc : w.cell? ⟨b, 1, none⟩ = some (.slice (some ⟨g, 0, none⟩) l.length cap)) (hcap : l.length ≤ cap) (hsh : w.shape? g = some (5, sz)) (hn : l.length ≤ sz) (h63 : l.length ≤ 9223372036854775807)
    (hcell : ∀ j x, l[j]? = some x → w.cell? ((⟨g, 0, none⟩ : Addr).add j) = some (.int .u8 x.toNat)) :
    Calls Tryz.prog 168 #[pq b] w fun e w' => e = .returned (.string ⟨l.toArray⟩) ∧ w' = w.drew.freeze ⟨g, 0, none⟩ l.length := by
  have hl0 : l.length ≠ 0 := by simpa using h0
  have c1 : w.drew.cell? ⟨b, 1, none⟩ = some (.slice (some ⟨g, 0, none⟩) l.length cap) := hc
  have hSD : (Builtin.unsafeSliceData_ #[200] 316 #[.slice (some ⟨g, 0, none⟩) l.length cap]).run Tryz.prog w.drew = .ok (pq g) w.drew := Lib.run_unsafeSliceData_row _ _ _ _ _ _ (by omega)
  have hUS : (Builtin.unsafeString_ #[316, 3] 9 #[pq g, .int .i64 l.length]).run Tryz.prog w.drew = .ok (.string ⟨l.toArray⟩) (w.drew.freeze ⟨g, 0, none⟩ l.length) :=
    Lib.run_unsafeString_row w.drew 316 3 9 5 Tryz.underlying316 cellsByte g sz hsh l h0 hn h63 hcell
  clear hcap hn h63 hcell hl0 h0
  go_enter Tryz.func168, Tryz.ntmps168
  go_wp2
  go_region
  all_goals (go_wp2; go_ret; exact ⟨rfl, rfl⟩)
set_option maxHeartbeats 1000000 in
set_option maxRecDepth 100000 in
theorem bld_none (b : Nat) (w : World) (hc : w.cell? ⟨b, 1, none⟩ = some (.slice none 0 0)) :
    Calls Tryz.prog 168 #[pq b] w fun e w' => e = .returned (.string .empty) ∧ w' = w.drew := by
  have c1 : w.drew.cell? ⟨b, 1, none⟩ = some (.slice none 0 0) := hc
  have hSD : (Builtin.unsafeSliceData_ #[200] 316 #[.slice none 0 0]).run Tryz.prog w.drew = .ok (.pointer none) w.drew := rfl
  have hUS : (Builtin.unsafeString_ #[316, 3] 9 #[.pointer none, .int .i64 0]).run Tryz.prog w.drew = .ok (.string .empty) w.drew := rfl
  go_enter Tryz.func168, Tryz.ntmps168
  go_wp2
  go_region
  all_goals (go_wp2; go_ret; exact ⟨rfl, rfl⟩)
end Ev
end Go.Proofs.YtfpghnldcbhniaaGreat
