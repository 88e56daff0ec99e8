/- The climb of the reference, its length and its steps. -/
import Derived.Test.YtedokiemlkccaaaDoorFG
set_option linter.all false
namespace Go.Proofs.YtedokiemlkccaaaDoor
open Go.RowKit
open Go.RowKit Go.Shelf
attribute [local go_sem] Oper.semAt_some
/-- Length as the reference reckons it. -/
def rlenN (at_ many : Nat) : Nat :=
  if h : 2 ≤ many then
    if at_ < halfN many then rlenN at_ (halfN many) + 1 else rlenN (at_ - halfN many) (many - halfN many) + 1
  else 0
termination_by many
decreasing_by
  · have := half_spec h; omega
  · have := half_spec h; omega
theorem rlenN_end {at_ many : Nat} (h : ¬ 2 ≤ many) : rlenN at_ many = 0 := by rw [rlenN, dif_neg h]
theorem rlenN_left {at_ many : Nat} (h : 2 ≤ many) (h2 : at_ < halfN many) : rlenN at_ many = rlenN at_ (halfN many) + 1 := by rw [rlenN, dif_pos h, if_pos h2]
theorem rlenN_right {at_ many : Nat} (h : 2 ≤ many) (h2 : ¬ at_ < halfN many) : rlenN at_ many = rlenN (at_ - halfN many) (many - halfN many) + 1 := by rw [rlenN, dif_pos h, if_neg h2]
theorem rlenN_way (at_ : Nat) : ∀ (m lo hi : Nat), hi - lo ≤ m → lo ≤ at_ → at_ < hi → rlenN (at_ - lo) (hi - lo) = (wayL at_ lo hi).length
  | 0, lo, hi, h, _, _ => by omega
  | m + 1, lo, hi, h, h3, h4 => by
    by_cases h2 : 2 ≤ hi - lo
    · have hs := half_spec h2
      by_cases h5 : at_ < lo + halfN (hi - lo)
      · have := rlenN_way at_ m lo (lo + halfN (hi - lo)) (by omega) h3 h5
        rw [show lo + halfN (hi - lo) - lo = halfN (hi - lo) by omega] at this
        rw [wayL_left h2 h5, rlenN_left h2 (by omega), this]; rfl
      · have := rlenN_way at_ m (lo + halfN (hi - lo)) hi (by omega) (by omega) h4
        rw [wayL_right h2 h5, rlenN_right h2 (by omega), show at_ - lo - halfN (hi - lo) = at_ - (lo + halfN (hi - lo)) by omega, show hi - lo - halfN (hi - lo) = hi - (lo + halfN (hi - lo)) by omega, this]; rfl
    · rw [wayL_end h2, rlenN_end h2]; rfl
theorem rlenN_le : ∀ (m at_ many : Nat), many ≤ m → at_ < many → rlenN at_ many ≤ many
  | m, at_, many, h, h2 => by
    have := rlenN_way at_ many 0 many (by omega) (by omega) h2
    rw [Nat.sub_zero, Nat.sub_zero] at this
    rw [this]
    exact wayL_length at_ many 0 many (by omega)
theorem sidesL_len {j m : Nat} (h : j < m) : (sidesL j m).length = rlenN j m := by
  have := rlenN_way j m 0 m (by omega) (by omega) h
  rw [Nat.sub_zero, Nat.sub_zero] at this
  unfold sidesL
  rw [List.length_reverse, List.length_map, Int.toNat_natCast, Int.toNat_natCast, this]
set_option maxRecDepth 100000 in
set_option maxHeartbeats 1000000 in
theorem rlen_one (z : Int) (w : World) : Calls Tryd.prog 94 #[.int .i64 z, .int .i64 (1 : Nat)] w fun e w' => e = .returned (.int .i64 (0 : Nat)) ∧ Below w.heap.size w w' := by
  go_enter Tryd.func94, Tryd.ntmps94
  go_wp2_with fail
  go_ret
  exact ⟨rfl, Below.refl _ _⟩
set_option maxRecDepth 100000 in
set_option maxHeartbeats 1000000 in
theorem rlen_left (k h at_ q : Nat) (w : World) (hk : 2 ≤ k) (hk9 : k ≤ 4096) (hh : halfN k = h) (hat : at_ < h) (hq : q ≤ 4096)
    (hL : ∀ W, Below w.heap.size w W → Calls Tryd.prog 94 #[.int .i64 at_, .int .i64 h] W fun e w' => e = .returned (.int .i64 (q : Nat)) ∧ Below W.heap.size W w') :
    Calls Tryd.prog 94 #[.int .i64 at_, .int .i64 k] w fun e w' => e = .returned (.int .i64 (q + 1 : Nat)) ∧ Below w.heap.size w w' := by
  have HHalf := Lib.hid fun W => hh ▸ rhalf_any k W (by omega)
  have HL := Lib.hid hL
  have d1 : ((k : Int) == 1) = false := by simp; omega
  have i4 : (at_ : Int) < (h : Int) := by omega
  have i5 : IntKind.i64.wrap ((q : Int) + 1) = ((q + 1 : Nat) : Int) := by rw [IntWalk.i64_in _ (by omega)]; omega
  clear hL hh
  go_enter Tryd.func94, Tryd.ntmps94
  go_wp2_with fail
  refine (HHalf.out _).mono ?_
  rintro e w2 ⟨rfl, rfl⟩
  go_wp2_with fail
  refine (HL.out _ (Below.refl _ _)).mono ?_
  rintro e w3 ⟨rfl, k3⟩
  go_wp2_with fail
  go_ret
  exact ⟨rfl, k3⟩
set_option maxRecDepth 100000 in
set_option maxHeartbeats 1000000 in
theorem rlen_right (k h at_ q : Nat) (w : World) (hk : 2 ≤ k) (hk9 : k ≤ 4096) (hh : halfN k = h) (hat : h ≤ at_) (hat9 : at_ ≤ 4096) (hq : q ≤ 4096)
    (hL : ∀ W, Below w.heap.size w W → Calls Tryd.prog 94 #[.int .i64 ((at_ : Int) - (h : Int)), .int .i64 ((k : Int) - (h : Int))] W fun e w' => e = .returned (.int .i64 (q : Nat)) ∧ Below W.heap.size W w') :
    Calls Tryd.prog 94 #[.int .i64 at_, .int .i64 k] w fun e w' => e = .returned (.int .i64 (q + 1 : Nat)) ∧ Below w.heap.size w w' := by
  have h1 := half_spec hk
  rw [hh] at h1
  have HHalf := Lib.hid fun W => hh ▸ rhalf_any k W (by omega)
  have HL := Lib.hid hL
  have d1 : ((k : Int) == 1) = false := by simp; omega
  have i4 : ¬ (at_ : Int) < (h : Int) := by omega
  have i6 : IntKind.i64.wrap ((at_ : Int) - (h : Int)) = (at_ : Int) - (h : Int) := IntWalk.i64_in _ (by omega)
  have i7 : IntKind.i64.wrap ((k : Int) - (h : Int)) = (k : Int) - (h : Int) := IntWalk.i64_in _ (by omega)
  have i5 : IntKind.i64.wrap ((q : Int) + 1) = ((q + 1 : Nat) : Int) := by rw [IntWalk.i64_in _ (by omega)]; omega
  clear hL hh
  go_enter Tryd.func94, Tryd.ntmps94
  go_wp2_with fail
  refine (HHalf.out _).mono ?_
  rintro e w2 ⟨rfl, rfl⟩
  go_wp2_with fail
  refine (HL.out _ (Below.refl _ _)).mono ?_
  rintro e w3 ⟨rfl, k3⟩
  go_wp2_with fail
  go_ret
  exact ⟨rfl, k3⟩
theorem rlen_any : ∀ (m at_ many : Nat) (w : World), many ≤ m → many ≤ 4096 → at_ < many → Calls Tryd.prog 94 #[.int .i64 at_, .int .i64 many] w fun e w' => e = .returned (.int .i64 (rlenN at_ many : Nat)) ∧ Below w.heap.size w w'
  | m, at_, many, w, hm, h9, hat => by
    by_cases h2 : 2 ≤ many
    · match m, hm with
      | 0, hm => omega
      | m + 1, hm =>
        have hs := half_spec h2
        by_cases h3 : at_ < halfN many
        · rw [rlenN_left h2 h3]
          have := rlenN_le _ at_ _ (Nat.le_refl (halfN many)) h3
          exact rlen_left many (halfN many) at_ _ w h2 h9 rfl h3 (by omega) (fun W _ => rlen_any m at_ _ W (by omega) (by omega) h3)
        · rw [rlenN_right h2 h3]
          have := rlenN_le _ (at_ - halfN many) _ (Nat.le_refl (many - halfN many)) (by omega)
          refine rlen_right many (halfN many) at_ _ w h2 h9 rfl (by omega) (by omega) (by omega) (fun W _ => ?_)
          have := rlen_any m (at_ - halfN many) (many - halfN many) W (by omega) (by omega) (by omega)
          rwa [show ((at_ - halfN many : Nat) : Int) = (at_ : Int) - (halfN many : Int) by omega, show ((many - halfN many : Nat) : Int) = (many : Int) - (halfN many : Int) by omega] at this
    · have e : many = 1 := by omega
      subst e
      rw [rlenN_end (by omega)]
      exact rlen_one at_ w
open Go.RowKit Go.Shelf
attribute [local go_sem] Oper.semAt_some
attribute [local go_sem ↓] ld46_in st46_in bs46_in bd46_in
attribute [local go_sem] st_new st_any sl_one sl_two sl_three
/-- one step of the reference's climb. -/
def rstep (b : Bool) (r : Nd × Int) (x : Nd) : Nd × Int := if r.2 = 0 then (stepR r.1 (b, x), stepE r.1 (b, x)) else (nd0, r.2)
/-- the reference's climb. -/
def rclV (n : Nd) (at_ many : Nat) (path : List Nd) : Nd × Int :=
  if h : 2 ≤ many then
    if at_ < halfN many then rstep true (rclV n at_ (halfN many) path.dropLast) (path.getLastD nd0) else rstep false (rclV n (at_ - halfN many) (many - halfN many) path.dropLast) (path.getLastD nd0)
  else (n, 0)
termination_by many
decreasing_by
  · have := half_spec h; omega
  · have := half_spec h; omega
theorem rclV_end {n : Nd} {at_ many : Nat} {path : List Nd} (h : ¬ 2 ≤ many) : rclV n at_ many path = (n, 0) := by rw [rclV, dif_neg h]
theorem rclV_left {n : Nd} {at_ many : Nat} {P : List Nd} {x : Nd} (h : 2 ≤ many) (h2 : at_ < halfN many) : rclV n at_ many (P ++ [x]) = rstep true (rclV n at_ (halfN many) P) x := by
  rw [rclV, dif_pos h, if_pos h2, List.dropLast_concat, List.getLastD_concat]
theorem rclV_right {n : Nd} {at_ many : Nat} {P : List Nd} {x : Nd} (h : 2 ≤ many) (h2 : ¬ at_ < halfN many) : rclV n at_ many (P ++ [x]) = rstep false (rclV n (at_ - halfN many) (many - halfN many) P) x := by
  rw [rclV, dif_pos h, if_neg h2, List.dropLast_concat, List.getLastD_concat]
theorem stepR_bad {n : Nd} {x : Bool × Nd} (h : stepE n x ≠ 0) : stepR n x = nd0 := by
  obtain ⟨b, x⟩ := x
  unfold stepE joinE at h
  unfold stepR joinR
  cases b
  · simp only [Bool.false_eq_true, if_false] at h ⊢
    by_cases hv : validB [x, n] = true
    · rw [if_pos hv] at h; exact absurd rfl h
    · rw [if_neg hv]
  · simp only [if_true] at h ⊢
    by_cases hv : validB [n, x] = true
    · rw [if_pos hv] at h; exact absurd rfl h
    · rw [if_neg hv]
theorem upV_snoc : ∀ (l : List (Bool × Nd)) (n : Nd) (b : Bool) (x : Nd), upV n (l ++ [(b, x)]) = rstep b (upV n l) x
  | [], n, b, x => by
    show upV n [(b, x)] = _
    by_cases h : stepE n (b, x) = 0
    · simp [upV, rstep, h]
    · simp [upV, rstep, h, stepR_bad h]
  | y :: l, n, b, x => by
    show upV n (y :: (l ++ [(b, x)])) = _
    by_cases h : stepE n y = 0
    · rw [upV, if_pos h, upV, if_pos h]; exact upV_snoc l _ b x
    · rw [upV, if_neg h, upV, if_neg h, rstep, if_neg h]
theorem rclV_up (n : Nd) (at_ : Nat) : ∀ (m lo hi : Nat) (path : List Nd), hi - lo ≤ m → lo ≤ at_ → at_ < hi → path.length = (wayL at_ lo hi).length →
    rclV n (at_ - lo) (hi - lo) path = upV n ((((wayL at_ lo hi).map (·.1)).reverse).zip path)
  | 0, lo, hi, path, h, _, _, _ => by omega
  | m + 1, lo, hi, path, h, h3, h4, hl => by
    by_cases h2 : 2 ≤ hi - lo
    · have hs := half_spec h2
      have hne : path ≠ [] := fun e => by
        subst e
        by_cases h5 : at_ < lo + halfN (hi - lo)
        · rw [wayL_left h2 h5] at hl; simp at hl
        · rw [wayL_right h2 h5] at hl; simp at hl
      obtain ⟨P, x, rfl⟩ : ∃ P x, path = P ++ [x] := ⟨path.dropLast, path.getLast hne, (List.dropLast_concat_getLast hne).symm⟩
      rw [List.length_append, List.length_singleton] at hl
      by_cases h5 : at_ < lo + halfN (hi - lo)
      · rw [wayL_left h2 h5, List.length_cons] at hl
        have := rclV_up n at_ m lo (lo + halfN (hi - lo)) P (by omega) h3 h5 (by omega)
        rw [show lo + halfN (hi - lo) - lo = halfN (hi - lo) by omega] at this
        rw [wayL_left h2 h5, rclV_left h2 (by omega), this, List.map_cons, List.reverse_cons, List.zip_append (by rw [List.length_reverse, List.length_map]; omega)]
        exact (upV_snoc _ n true x).symm
      · rw [wayL_right h2 h5, List.length_cons] at hl
        have := rclV_up n at_ m (lo + halfN (hi - lo)) hi P (by omega) (by omega) h4 (by omega)
        rw [wayL_right h2 h5, rclV_right h2 (by omega), show at_ - lo - halfN (hi - lo) = at_ - (lo + halfN (hi - lo)) by omega, show hi - lo - halfN (hi - lo) = hi - (lo + halfN (hi - lo)) by omega, this, List.map_cons, List.reverse_cons, List.zip_append (by rw [List.length_reverse, List.length_map]; omega)]
        exact (upV_snoc _ n false x).symm
    · rw [wayL_end h2] at hl ⊢
      rw [rclV_end h2]
      rfl
theorem rclV_len {n : Nd} (hn : n.d.length = 32) {j m : Nat} {path : List Nd} (hj : j < m) (hl : path.length = rlenN j m) : (rclV n j m path).1.d.length = 32 := by
  have h := rlenN_way j m 0 m (by omega) (by omega) hj
  have := rclV_up n j m 0 m path (by omega) (by omega) hj (by rw [hl, ← h]; rfl)
  rw [Nat.sub_zero, Nat.sub_zero] at this
  rw [this]
  exact upV_len _ _ hn
/-- Climb as the reference says it. -/
theorem climbV_rclV (n : Nd) (at_ many : Nat) (path : List Nd) (h : at_ < many) (h9 : many ≤ 4096) :
    climbV n at_ many path = if path.length = rlenN at_ many then (if validB [n] then rclV n at_ many path else (nd0, 410)) else (nd0, 1) := by
  have hc : climbA at_ many = true := decide_eq_true (by omega)
  unfold climbV
  rw [if_pos hc, sidesL_len h]
  by_cases hl : path.length = rlenN at_ many
  · have h1 := rlenN_way at_ many 0 many (by omega) (by omega) h
    have := rclV_up n at_ many 0 many path (by omega) (by omega) h (by rw [hl, ← h1]; rfl)
    rw [Nat.sub_zero, Nat.sub_zero] at this
    rw [if_pos hl, if_pos hl, this]
    rfl
  · rw [if_neg hl, if_neg hl]
open Go.RowKit Go.Shelf
attribute [local go_sem] Oper.semAt_some
attribute [local go_sem ↓] ld46_in st46_in bs46_in bd46_in
attribute [local go_sem] st_new st_any sl_one sl_two sl_three
/-- what the climb keeps. -/
abbrev CQ (w : World) (g4 g8 : Nat) (N na : Array Value) (W : World) : Prop := Below w.heap.size w W ∧ Blk W g8 46 na ∧ Blk W g4 46 N ∧ (ld46 ⟨g4, 0, none⟩).run Tryd.prog W = .ok (.agg N) W
theorem cq_of {w W : World} {g4 g8 : Nat} {N na : Array Value} (b : Below w.heap.size w W) (h8 : Blk W g8 46 na) (h4 : Blk W g4 46 N) (oN : OkX N) : CQ w g4 g8 N na W := ⟨b, h8, h4, ld_blk h4 oN⟩
theorem cq_next {w W W' : World} {g4 g8 : Nat} {N na : Array Value} (oN : OkX N) (h : CQ w g4 g8 N na W) (k : Below W.heap.size W W') : CQ w g4 g8 N na W' := cq_of (bl h.1 k) (h.2.1.below k h.2.1.lt) (h.2.2.1.below k h.2.2.1.lt) oN
theorem cq_alloc {w W : World} {g4 g8 : Nat} {N na : Array Value} (oN : OkX N) (h : CQ w g4 g8 N na W) (o : Obj) : CQ w g4 g8 N na (W.alloc o) := cq_next oN h (Below.alloc (Below.refl _ W) (Nat.le_refl _) o)
theorem cq_row {w W : World} {g4 g8 b : Nat} {N na : Array Value} (oN : OkX N) (h : CQ w g4 g8 N na W) (hb : g8 < b) (h48 : g4 < g8) (hw : w.heap.size ≤ g4) (X : Array Value) : CQ w g4 g8 N na (W.setRow b X) :=
  cq_of (below_setRow h.1 (by omega) _) ((setRow_other _ _ _ _ (by omega)).trans h.2.1) ((setRow_other _ _ _ _ (by omega)).trans h.2.2.1) oN
/-- what the last step of the climb reads. -/
abbrev CR (w : World) (g8 b9 g o : Nat) (R X : Array Value) (W : World) : Prop := Below w.heap.size w W ∧ At46 W g8 ∧ Blk W b9 46 R ∧ (ld46 ⟨b9, 0, none⟩).run Tryd.prog W = .ok (.agg R) W ∧ (ld46 ⟨g, o, none⟩).run Tryd.prog W = .ok (.agg X) W
theorem cr_of {w W : World} {g8 b9 g o : Nat} {R X : Array Value} (b : Below w.heap.size w W) (h8 : At46 W g8) (h9 : Blk W b9 46 R) (oR : OkX R) (hX : (ld46 ⟨g, o, none⟩).run Tryd.prog W = .ok (.agg X) W) : CR w g8 b9 g o R X W := ⟨b, h8, h9, ld_blk h9 oR, hX⟩
theorem cr_next {w W W' : World} {g8 b9 g o : Nat} {R X : Array Value} (oR : OkX R) (hX : ∀ W, Below w.heap.size w W → (ld46 ⟨g, o, none⟩).run Tryd.prog W = .ok (.agg X) W) (h : CR w g8 b9 g o R X W) (k : Below W.heap.size W W') : CR w g8 b9 g o R X W' :=
  cr_of (bl h.1 k) (at46_keep h.2.1 k) (h.2.2.1.below k h.2.2.1.lt) oR (hX _ (bl h.1 k))
theorem cr_row {w W : World} {g8 b9 g o : Nat} {R X J : Array Value} (oR : OkX R) (hX : ∀ W, Below w.heap.size w W → (ld46 ⟨g, o, none⟩).run Tryd.prog W = .ok (.agg X) W) (h : CR w g8 b9 g o R X W) (h89 : g8 < b9) (hw : w.heap.size ≤ g8) (hJ : J.size = 34) : CR w g8 b9 g o R X (W.setRow g8 J) :=
  cr_of (below_setRow h.1 hw _) (at46_row h.2.1 hJ) ((setRow_other _ _ _ _ (by omega)).trans h.2.2.1) oR (hX _ (below_setRow h.1 hw _))
theorem climb_frame (A na : Array Value) (w : World) : Bk ((w.alloc (.cells A 46)).alloc (.cells na 46)) [(w.heap.size + 1, na), (w.heap.size, A)] ∧ Below w.heap.size w ((w.alloc (.cells A 46)).alloc (.cells na 46)) ∧ ((w.alloc (.cells A 46)).alloc (.cells na 46)).heap.size = w.heap.size + 2 := by
  refine ⟨?_, ((Below.refl _ w).alloc (Nat.le_refl _) _).alloc (by simp) _, by simp⟩
  have h := ((Bk.nil w).new A).new na
  rw [World.size_alloc] at h
  exact h
set_option maxRecDepth 100000 in
set_option maxHeartbeats 2000000 in
theorem rclimb_one (N : Array Value) (z : Int) (A : Option Addr) (k c : Nat) (w : World) (oN : OkX N) : Calls Tryd.prog 95 #[.agg N, .int .i64 z, .int .i64 (1 : Nat), .slice A k c] w fun e w' => e = .returned (.tuple #[.agg N, .int .i64 0]) ∧ Below w.heap.size w w' := by
  obtain ⟨na, hna⟩ : ∃ na, nd0.arr = na := ⟨_, rfl⟩
  have hs : na.size = 34 := by rw [← hna]; rfl
  have HNA := Lib.hid hna
  obtain ⟨hk, b1, _⟩ := climb_frame N na w
  clear hna
  go_enter Tryd.func95, Tryd.ntmps95
  go_upto_region 1 with fail
  generalize hW0 : (w.alloc (Obj.cells N 46)).alloc (Obj.cells _ 46) = W1
  have hzz : (w.alloc (.cells N 46)).alloc (.cells na 46) = W1 := by rw [← HNA.out]; exact hW0
  rw [hzz] at hk b1
  clear hW0 hzz
  obtain ⟨g2, hg2⟩ : ∃ g, w.heap.size = g := ⟨_, rfl⟩
  rw [hg2] at hk ⊢
  have hgw := Nat.le_of_eq hg2
  clear hg2
  have l0 := ld_blk (hk (g2, N) (by simp)) oN
  have hat : At46 W1 (g2 + 1) := ⟨na, hk (g2 + 1, na) (by simp), hs⟩
  have hR : Blk (W1.setRow (g2 + 1) N) (g2 + 1) 46 N := at46_set hat N
  have bR : Below w.heap.size w (W1.setRow (g2 + 1) N) := below_setRow b1 (by omega) _
  go_wp2_with fail
  refine bodyPost_ret (v := .tuple #[.agg N, .int .i64 0]) ?_ rfl ⟨rfl, bR⟩
  exact results_node3 rfl hR oN.1 rfl rfl
set_option maxRecDepth 100000 in
set_option maxHeartbeats 2000000 in
theorem rclimb_left (N R X J na : Array Value) (E F : Int) (g o c k h at_ l : Nat) (w : World) (hk : 2 ≤ k) (hk9 : k ≤ 4096) (hh : halfN k = h) (hat : at_ < h) (hl9 : l ≤ 4096) (hc : l + 1 ≤ c) (hc9 : c ≤ 9223372036854775807)
    (oN : OkX N) (oR : OkX R) (oJ : OkX J) (hna : nd0.arr = na)
    (hL : ∀ W, Below w.heap.size w W → Calls Tryd.prog 95 #[.agg N, .int .i64 at_, .int .i64 h, .slice (some ⟨g, o, none⟩) l c] W fun e w' => e = .returned (.tuple #[.agg R, .int .i64 E]) ∧ Below W.heap.size W w')
    (hX : ∀ W, Below w.heap.size w W → (ld46 ⟨g, o + l * 34, none⟩).run Tryd.prog W = .ok (.agg X) W)
    (hJ : E = 0 → ∀ W, Below w.heap.size w W → Calls Tryd.prog 45 #[.agg R, .agg X] W fun e w' => e = .returned (.tuple #[.agg J, .int .i64 F]) ∧ Below W.heap.size W w')
    (hN : E ≠ 0 → J = na ∧ F = E) :
    Calls Tryd.prog 95 #[.agg N, .int .i64 at_, .int .i64 k, .slice (some ⟨g, o, none⟩) (l + 1 : Nat) c] w fun e w' => e = .returned (.tuple #[.agg J, .int .i64 F]) ∧ Below w.heap.size w w' := by
  have hs : na.size = 34 := by rw [← hna]; rfl
  have o0 : OkX na := by rw [← hna]; exact okX nd0 rfl
  have hbn := bd46_nil
  simp only [hna] at hbn
  have h1 := half_spec hk
  rw [hh] at h1
  have HHalf := Lib.hid fun W => hh ▸ rhalf_any k W (by omega)
  have HL := Lib.hid hL; have HX := Lib.hid hX; have HJ := Lib.hid hJ; have HN := Lib.hid hN; have HNA := Lib.hid hna
  obtain ⟨hk1, b1, hsz⟩ := climb_frame N na w
  have d1 : ((k : Int) == 1) = false := by simp; omega
  have i4 : (at_ : Int) < (h : Int) := by omega
  have i5 : IntKind.i64.wrap (((l + 1 : Nat) : Int) - 1) = (l : Int) := by rw [IntWalk.i64_in _ (by omega)]; omega
  have i0 : (0 : Int) ≤ (l : Int) := by omega
  have i2 : (l : Int) ≤ (c : Int) := by omega
  have i3 : (l : Int) < (l : Int) + 1 := by omega
  have i3' : (l : Int) ≤ (l : Int) + 1 := by omega
  clear hL hX hJ hN hna hh
  go_enter Tryd.func95, Tryd.ntmps95
  go_upto_region 1 with fail
  generalize hW0 : (w.alloc (Obj.cells N 46)).alloc (Obj.cells _ 46) = W1
  have hzz : (w.alloc (.cells N 46)).alloc (.cells na 46) = W1 := by rw [← HNA.out]; exact hW0
  rw [hzz] at hk1 b1 hsz
  clear hW0 hzz
  obtain ⟨g4, hg4⟩ : ∃ g, w.heap.size = g := ⟨_, rfl⟩
  rw [hg4] at hk1 hsz ⊢
  have hgw := Nat.le_of_eq hg4
  obtain ⟨g8, hg8⟩ : ∃ g, g4 + 1 = g := ⟨_, rfl⟩
  rw [hg8] at hk1 ⊢
  have h48 : g4 < g8 := by omega
  have hgl : g8 < W1.heap.size := by omega
  clear hg4 hg8 hsz
  go_wp2_with fail
  refine (HHalf.out _).mono ?_
  rintro e w2 ⟨rfl, rfl⟩
  go_upto_region 6 with fail
  have s0 : CQ w g4 g8 N na W1.drew := cq_of b1.drew (hk1 (g8, na) (by simp)) (hk1 (g4, N) (by simp)) oN
  clear b1 hk1
  go_region_held3 (fun W => Below w.heap.size w W ∧ Blk W g8 46 na ∧ Blk W g4 46 N ∧ (ld46 ⟨g4, 0, none⟩).run Tryd.prog W = .ok (.agg N) W)
    (first | exact s0 | exact sL | exact cq_alloc oN sL _ | exact cq_alloc oN s0 _ | exact cq_row oN sL nL.2 h48 hgw _)
    (first | (go_at_call 95; refine (HL.out _ (‹_ ∧ Blk _ g8 46 na ∧ _›).1).mono ?_; rintro e wL ⟨rfl, kL⟩; have sL : CQ w g4 g8 N na wL := cq_next oN (‹_ ∧ Blk _ g8 46 na ∧ _›) kL; (first | have nL : At46 wL W1.heap.size ∧ g8 < W1.heap.size := And.intro (at46_of rfl (below_undrew kL)) hgl | skip)))
  all_goals (
    first
    | (have hb9 := Blk.new wL 46 R
       have k9 := cq_alloc oN sL (.cells R 46)
       have hg9 : g8 < wL.heap.size := sL.2.1.lt
       obtain ⟨b9, hb9e⟩ : ∃ b, wL.heap.size = b := ⟨_, rfl⟩
       rw [hb9e] at hb9 hg9 ⊢
       generalize wL.alloc (.cells R 46) = W9 at hb9 k9 ⊢)
    | (have hb9 := at46_set nL.1 R
       have k9 := cq_row oN sL nL.2 h48 hgw R
       have hg9 := nL.2
       generalize wL.setRow W1.heap.size R = W9 at hb9 k9 ⊢
       obtain ⟨b9, hb9e⟩ : ∃ b, W1.heap.size = b := ⟨_, rfl⟩
       rw [hb9e] at hb9 hg9 ⊢))
  all_goals (
    have hgw8 : w.heap.size ≤ g8 := by omega
    have hat : At46 W9 g8 := ⟨na, k9.2.1, hs⟩
    have k9b := k9.1
    clear sL s0 HL k9 hgl
    by_cases hE : E = 0)
  all_goals (
    first
    | (have s9 : CR w g8 b9 g (o + l * 34) R X W9.drew := cr_of k9b.drew hat hb9 oR (HX.out _ k9b.drew)
       have HJ' := Lib.hid (HJ.out hE)
       subst hE
       clear hat hb9 k9b HN
       go_upto_region 9 with fail
       go_region_held3 (fun W => Below w.heap.size w W ∧ At46 W g8 ∧ Blk W b9 46 R ∧ (ld46 ⟨b9, 0, none⟩).run Tryd.prog W = .ok (.agg R) W ∧ (ld46 ⟨g, o + l * 34, none⟩).run Tryd.prog W = .ok (.agg X) W)
         (first | exact s9 | exact sJ | exact cr_row oR HX.out sJ hg9 hgw8 oJ.1)
         (first | (go_at_call 45; refine (HJ'.out _ s9.1).mono ?_; rintro e wJ ⟨rfl, kJ⟩; have sJ : CR w g8 b9 g (o + l * 34) R X wJ := cr_next oR HX.out s9 kJ; have nJ := sJ.2.1))
       have hR : Blk (wJ.setRow g8 J) g8 46 J := at46_set nJ J
       have bR : Below w.heap.size w (wJ.setRow g8 J) := below_setRow sJ.1 hgw8 _
       clear sJ s9 nJ
       go_wp2_with fail
       refine bodyPost_ret (v := .tuple #[.agg J, .int .i64 F]) ?_ rfl ⟨rfl, bR⟩
       exact results_node3 rfl hR oJ.1 rfl rfl)
    | (have hEN := HN.out hE
       obtain ⟨rfl, rfl⟩ := hEN
       have dE : (F == 0) = false := by simp [hE]
       have hR : Blk (W9.setRow g8 J) g8 46 J := at46_set hat J
       have bR : Below w.heap.size w (W9.setRow g8 J) := below_setRow k9b hgw8 _
       have HR := Lib.hid hR
       clear hb9 hR
       go_wp2_with fail
       refine bodyPost_ret (v := .tuple #[.agg J, .int .i64 F]) ?_ rfl ⟨rfl, bR⟩
       exact results_node3 rfl HR.out hs rfl rfl))
end Go.Proofs.YtedokiemlkccaaaDoor
