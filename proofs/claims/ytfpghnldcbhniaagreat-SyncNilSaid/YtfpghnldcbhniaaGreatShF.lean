/- The state behind a block, as the run reckons it. -/
import Derived.Test.YtfpghnldcbhniaaGreatShE
namespace Go.Proofs.YtfpghnldcbhniaaGreat
set_option linter.unusedVariables false
set_option linter.unusedSimpArgs false
open Go.RowKit Go.Maps
namespace Sh
noncomputable def lhd {β : Type} (l : List Nat) (f : Nat → List Nat → β) : β := List.rec (motive := fun _ => β) (f 0 []) (fun x l _ => f x l) l
noncomputable def lat (l : List Nat) : Nat → Nat := List.rec (motive := fun _ => Nat → Nat) (fun _ => 0) (fun a _ ih n => Nat.rec (motive := fun _ => Nat) a (fun m _ => ih m) n) l
theorem lat_eq : ∀ (l : List Nat) (n : Nat), lat l n = l.getD n 0
  | [], n => by simp [lat, List.getD]
  | a :: l, 0 => rfl
  | a :: l, n + 1 => by
    show lat l n = _
    rw [lat_eq l n]
    simp [List.getD]
/-- Words, the newest first. -/
noncomputable def more (n : Nat) : List Nat → List Nat :=
  Nat.rec (motive := fun _ => List Nat → List Nat) (fun R => R) (fun _ ih R => ih (add32 (add32 (add32 (sig1 (lat R 1)) (lat R 6)) (sig0 (lat R 14))) (lat R 15) :: R)) n
theorem getD_rev {l : List Nat} {i : Nat} (h : i < l.length) : l.reverse.getD i 0 = l.getD (l.length - 1 - i) 0 := by
  simp [List.getD, List.getElem?_reverse h]
theorem more_eq (w : List Nat) (hw : w.length = 16) : ∀ n k, more n (sched w k).reverse = (sched w (k + n)).reverse
  | 0, k => rfl
  | n + 1, k => by
    have hlen : (sched w k).length = 16 + k := by rw [sched_len, hw]
    show more n (add32 (add32 (add32 (sig1 (lat (sched w k).reverse 1)) (lat (sched w k).reverse 6)) (sig0 (lat (sched w k).reverse 14))) (lat (sched w k).reverse 15) :: (sched w k).reverse) = _
    have e : add32 (add32 (add32 (sig1 (lat (sched w k).reverse 1)) (lat (sched w k).reverse 6)) (sig0 (lat (sched w k).reverse 14))) (lat (sched w k).reverse 15) = next (sched w k) (16 + k) := by
      unfold next
      rw [lat_eq, lat_eq, lat_eq, lat_eq, getD_rev (by omega), getD_rev (by omega), getD_rev (by omega), getD_rev (by omega), hlen]
      rw [show 16 + k - 1 - 1 = 16 + k - 2 by omega, show 16 + k - 1 - 6 = 16 + k - 7 by omega, show 16 + k - 1 - 14 = 16 + k - 15 by omega, show 16 + k - 1 - 15 = 16 + k - 16 by omega]
    rw [e]
    have e2 : next (sched w k) (16 + k) :: (sched w k).reverse = (sched w (k + 1)).reverse := by
      show _ = (sched w k ++ [next (sched w k) (16 + k)]).reverse
      simp
    rw [e2, more_eq w hw n (k + 1), show k + 1 + n = k + (n + 1) by omega]
noncomputable def goF (ks : List Nat) : List Nat → Nat → Nat → Nat → Nat → Nat → Nat → Nat → Nat → List Nat :=
  List.rec (motive := fun _ => List Nat → Nat → Nat → Nat → Nat → Nat → Nat → Nat → Nat → List Nat) (fun _ a b c d e f g h => [a, b, c, d, e, f, g, h])
    (fun k _ ih ws a b c d e f g h => lhd ws fun w ws' => (fun t => ih ws' (add32 (add32 t (big0 a)) (maj a b c)) a b c (add32 d t) e f g) (add32 (add32 (add32 (add32 h (big1 e)) (chf e f g)) k) w)) ks
theorem rnds_cons (s : St) (k w : Nat) (ks ws : List Nat) : ∀ n, rnds s (k :: ks) (w :: ws) (n + 1) = rnds (rnd s k w) ks ws n
  | 0 => rfl
  | n + 1 => by
    show rnd (rnds s (k :: ks) (w :: ws) (n + 1)) ((k :: ks).getD (n + 1) 0) ((w :: ws).getD (n + 1) 0) = rnd (rnds (rnd s k w) ks ws n) (ks.getD n 0) (ws.getD n 0)
    rw [rnds_cons s k w ks ws n]
    rfl
theorem goF_eq : ∀ (ks ws : List Nat) (s : St), ks.length ≤ ws.length → goF ks ws s.a s.b s.c s.d s.e s.f s.g s.h = (rnds s ks ws ks.length).list
  | [], ws, s, _ => rfl
  | k :: ks, [], s, h => by simp at h
  | k :: ks, w :: ws, s, h => by
    show goF ks ws (rnd s k w).a (rnd s k w).b (rnd s k w).c (rnd s k w).d (rnd s k w).e (rnd s k w).f (rnd s k w).g (rnd s k w).h = _
    rw [goF_eq ks ws (rnd s k w) (by simpa using h)]
    show _ = (rnds s (k :: ks) (w :: ws) (ks.length + 1)).list
    rw [rnds_cons]
/-- The words of bytes, the newest first. -/
noncomputable def bytesW (n : Nat) : List Nat → List Nat → List Nat :=
  Nat.rec (motive := fun _ => List Nat → List Nat → List Nat) (fun _ R => R)
    (fun _ ih l R => lhd l fun a l => lhd l fun b l => lhd l fun c l => lhd l fun d l => ih l (Nat.lor (Nat.mul (Nat.lor (Nat.mul (Nat.lor (Nat.mul (Nat.lor (Nat.mul 0 256) a) 256) b) 256) c) 256) d :: R)) n
theorem lhd_drop {β : Type} (l : List Nat) (i : Nat) (f : Nat → List Nat → β) : lhd (l.drop i) f = f (l.getD i 0) (l.drop (i + 1)) := by
  by_cases h : i < l.length
  · rw [List.drop_eq_getElem_cons h]
    show f l[i] (l.drop (i + 1)) = _
    simp [List.getD, h]
  · rw [List.drop_eq_nil_of_le (by omega), List.drop_eq_nil_of_le (by omega)]
    show f 0 [] = _
    rw [gd_none (by omega)]
theorem bytesW_succ (n : Nat) (l R : List Nat) : bytesW (n + 1) l R = lhd l fun a l => lhd l fun b l => lhd l fun c l => lhd l fun d l => bytesW n l (Nat.lor (Nat.mul (Nat.lor (Nat.mul (Nat.lor (Nat.mul (Nat.lor (Nat.mul 0 256) a) 256) b) 256) c) 256) d :: R) := rfl
theorem bytesW_eq (blk : List Nat) : ∀ n i, i + n = 16 → bytesW n (blk.drop (4 * i)) (((List.range i).map fun k => pw blk k 4).reverse) = (w16 blk).reverse
  | 0, i, h => by
    obtain rfl : i = 16 := by omega
    rfl
  | n + 1, i, h => by
    rw [bytesW_succ, lhd_drop, lhd_drop, lhd_drop, lhd_drop]
    have ih := bytesW_eq blk n (i + 1) (by omega)
    rw [show 4 * (i + 1) = 4 * i + 1 + 1 + 1 + 1 by omega, List.range_succ, List.map_append, List.reverse_append] at ih
    exact ih
noncomputable def add8 (l m : List Nat) : List Nat := List.rec (motive := fun _ => List Nat → List Nat) (fun _ => []) (fun a _ ih m => lhd m fun b m => add32 a b :: ih m) l m
noncomputable def stepF (x : List Nat) (blk : List Nat) : List Nat :=
  lhd x fun a x1 => lhd x1 fun b x1 => lhd x1 fun c x1 => lhd x1 fun d x1 => lhd x1 fun e x1 => lhd x1 fun f x1 => lhd x1 fun g x1 => lhd x1 fun h _ =>
    add8 (goF ks (more 48 (bytesW 16 blk [])).reverse a b c d e f g h) x
theorem stepF_eq (x : St) (blk : List Nat) : stepF x.list blk = (sumS (rnds x ks (sched (w16 blk) 48) 64) x).list := by
  show add8 (goF ks (more 48 (bytesW 16 blk [])).reverse x.a x.b x.c x.d x.e x.f x.g x.h) x.list = _
  have h1 : bytesW 16 blk [] = (w16 blk).reverse := bytesW_eq blk 16 0 rfl
  have h2 := more_eq (w16 blk) (w16_len blk) 48 0
  have h3 : (sched (w16 blk) 0).reverse = (w16 blk).reverse := rfl
  rw [h3] at h2
  rw [h1, h2, List.reverse_reverse, Nat.zero_add, goF_eq ks _ x (by rw [sched_len, w16_len]; decide), ks_len]
  generalize rnds x ks (sched (w16 blk) 48) 64 = y
  rfl
end Sh
end Go.Proofs.YtfpghnldcbhniaaGreat
