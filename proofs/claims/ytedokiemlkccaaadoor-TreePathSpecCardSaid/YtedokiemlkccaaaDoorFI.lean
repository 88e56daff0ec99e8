/- The climb of the reference. -/
import Derived.Test.YtedokiemlkccaaaDoorFH
set_option linter.all false
namespace Go.Proofs.YtedokiemlkccaaaDoor
open Go.RowKit
open Go.RowKit Go.Shelf
attribute [local go_sem] Oper.semAt_some
attribute [local go_sem ↓] ld46_in st46_in bs46_in bd46_in
attribute [local go_sem] st_new st_any sl_one sl_two sl_three
set_option maxRecDepth 100000 in
set_option maxHeartbeats 2000000 in
theorem rclimb_right (N R X J na : Array Value) (E F : Int) (g o c k h at_ l : Nat) (w : World) (hk : 2 ≤ k) (hk9 : k ≤ 4096) (hh : halfN k = h) (hat : h ≤ at_) (hat9 : at_ ≤ 4096) (hl9 : l ≤ 4096) (hc : l + 1 ≤ c) (hc9 : c ≤ 9223372036854775807)
    (oN : OkX N) (oR : OkX R) (oJ : OkX J) (hna : nd0.arr = na)
    (hL : ∀ W, Below w.heap.size w W → Calls Tryd.prog 95 #[.agg N, .int .i64 ((at_ : Int) - (h : Int)), .int .i64 ((k : Int) - (h : Int)), .slice (some ⟨g, o, none⟩) l c] W fun e w' => e = .returned (.tuple #[.agg R, .int .i64 E]) ∧ Below W.heap.size W w')
    (hX : ∀ W, Below w.heap.size w W → (ld46 ⟨g, o + l * 34, none⟩).run Tryd.prog W = .ok (.agg X) W)
    (hJ : E = 0 → ∀ W, Below w.heap.size w W → Calls Tryd.prog 45 #[.agg X, .agg R] W fun e w' => e = .returned (.tuple #[.agg J, .int .i64 F]) ∧ Below W.heap.size W w')
    (hN : E ≠ 0 → J = na ∧ F = E) :
    Calls Tryd.prog 95 #[.agg N, .int .i64 at_, .int .i64 k, .slice (some ⟨g, o, none⟩) (l + 1 : Nat) c] w fun e w' => e = .returned (.tuple #[.agg J, .int .i64 F]) ∧ Below w.heap.size w w' := by
  have hs : na.size = 34 := by rw [← hna]; rfl
  have o0 : OkX na := by rw [← hna]; exact okX nd0 rfl
  have hbn := bd46_nil
  simp only [hna] at hbn
  have h1 := half_spec hk
  rw [hh] at h1
  have HHalf := Lib.hid fun W => hh ▸ rhalf_any k W (by omega)
  have HL := Lib.hid hL; have HX := Lib.hid hX; have HJ := Lib.hid hJ; have HN := Lib.hid hN; have HNA := Lib.hid hna
  obtain ⟨hk1, b1, hsz⟩ := climb_frame N na w
  have d1 : ((k : Int) == 1) = false := by simp; omega
  have i4 : ¬ (at_ : Int) < (h : Int) := by omega
  have i6 : IntKind.i64.wrap ((at_ : Int) - (h : Int)) = (at_ : Int) - (h : Int) := IntWalk.i64_in _ (by omega)
  have i7 : IntKind.i64.wrap ((k : Int) - (h : Int)) = (k : Int) - (h : Int) := IntWalk.i64_in _ (by omega)
  have i5 : IntKind.i64.wrap (((l + 1 : Nat) : Int) - 1) = (l : Int) := by rw [IntWalk.i64_in _ (by omega)]; omega
  have i0 : (0 : Int) ≤ (l : Int) := by omega
  have i2 : (l : Int) ≤ (c : Int) := by omega
  have i3 : (l : Int) < (l : Int) + 1 := by omega
  have i3' : (l : Int) ≤ (l : Int) + 1 := by omega
  clear hL hX hJ hN hna hh
  go_enter Tryd.func95, Tryd.ntmps95
  go_upto_region 1 with fail
  generalize hW0 : (w.alloc (Obj.cells N 46)).alloc (Obj.cells _ 46) = W1
  have hzz : (w.alloc (.cells N 46)).alloc (.cells na 46) = W1 := by rw [← HNA.out]; exact hW0
  rw [hzz] at hk1 b1 hsz
  clear hW0 hzz
  obtain ⟨g4, hg4⟩ : ∃ g, w.heap.size = g := ⟨_, rfl⟩
  rw [hg4] at hk1 hsz ⊢
  have hgw := Nat.le_of_eq hg4
  obtain ⟨g8, hg8⟩ : ∃ g, g4 + 1 = g := ⟨_, rfl⟩
  rw [hg8] at hk1 ⊢
  have h48 : g4 < g8 := by omega
  have hgl : g8 < W1.heap.size := by omega
  clear hg4 hg8 hsz
  go_wp2_with fail
  refine (HHalf.out _).mono ?_
  rintro e w2 ⟨rfl, rfl⟩
  go_upto_region 10 with fail
  have s0 : CQ w g4 g8 N na W1.drew := cq_of b1.drew (hk1 (g8, na) (by simp)) (hk1 (g4, N) (by simp)) oN
  clear b1 hk1
  go_region_held3 (fun W => Below w.heap.size w W ∧ Blk W g8 46 na ∧ Blk W g4 46 N ∧ (ld46 ⟨g4, 0, none⟩).run Tryd.prog W = .ok (.agg N) W)
    (first | exact s0 | exact sL | exact cq_alloc oN sL _ | exact cq_alloc oN s0 _ | exact cq_row oN sL nL.2 h48 hgw _)
    (first | (go_at_call 95; refine (HL.out _ (‹_ ∧ Blk _ g8 46 na ∧ _›).1).mono ?_; rintro e wL ⟨rfl, kL⟩; have sL : CQ w g4 g8 N na wL := cq_next oN (‹_ ∧ Blk _ g8 46 na ∧ _›) kL; (first | have nL : At46 wL W1.heap.size ∧ g8 < W1.heap.size := And.intro (at46_of rfl (below_undrew kL)) hgl | skip)))
  all_goals (
    first
    | (have hb9 := Blk.new wL 46 R
       have k9 := cq_alloc oN sL (.cells R 46)
       have hg9 : g8 < wL.heap.size := sL.2.1.lt
       obtain ⟨b9, hb9e⟩ : ∃ b, wL.heap.size = b := ⟨_, rfl⟩
       rw [hb9e] at hb9 hg9 ⊢
       generalize wL.alloc (.cells R 46) = W9 at hb9 k9 ⊢)
    | (have hb9 := at46_set nL.1 R
       have k9 := cq_row oN sL nL.2 h48 hgw R
       have hg9 := nL.2
       generalize wL.setRow W1.heap.size R = W9 at hb9 k9 ⊢
       obtain ⟨b9, hb9e⟩ : ∃ b, W1.heap.size = b := ⟨_, rfl⟩
       rw [hb9e] at hb9 hg9 ⊢))
  all_goals (
    have hgw8 : w.heap.size ≤ g8 := by omega
    have hat : At46 W9 g8 := ⟨na, k9.2.1, hs⟩
    have k9b := k9.1
    clear sL s0 HL k9 hgl
    by_cases hE : E = 0)
  all_goals (
    first
    | (have s9 : CR w g8 b9 g (o + l * 34) R X W9.drew := cr_of k9b.drew hat hb9 oR (HX.out _ k9b.drew)
       have HJ' := Lib.hid (HJ.out hE)
       subst hE
       clear hat hb9 k9b HN
       go_upto_region 13 with fail
       go_region_held3 (fun W => Below w.heap.size w W ∧ At46 W g8 ∧ Blk W b9 46 R ∧ (ld46 ⟨b9, 0, none⟩).run Tryd.prog W = .ok (.agg R) W ∧ (ld46 ⟨g, o + l * 34, none⟩).run Tryd.prog W = .ok (.agg X) W)
         (first | exact s9 | exact sJ | exact cr_row oR HX.out sJ hg9 hgw8 oJ.1)
         (first | (go_at_call 45; refine (HJ'.out _ s9.1).mono ?_; rintro e wJ ⟨rfl, kJ⟩; have sJ : CR w g8 b9 g (o + l * 34) R X wJ := cr_next oR HX.out s9 kJ; have nJ := sJ.2.1))
       have hR : Blk (wJ.setRow g8 J) g8 46 J := at46_set nJ J
       have bR : Below w.heap.size w (wJ.setRow g8 J) := below_setRow sJ.1 hgw8 _
       clear sJ s9 nJ
       go_wp2_with fail
       refine bodyPost_ret (v := .tuple #[.agg J, .int .i64 F]) ?_ rfl ⟨rfl, bR⟩
       exact results_node3 rfl hR oJ.1 rfl rfl)
    | (have hEN := HN.out hE
       obtain ⟨rfl, rfl⟩ := hEN
       have dE : (F == 0) = false := by simp [hE]
       have hR : Blk (W9.setRow g8 J) g8 46 J := at46_set hat J
       have bR : Below w.heap.size w (W9.setRow g8 J) := below_setRow k9b hgw8 _
       have HR := Lib.hid hR
       clear hb9 hR
       go_wp2_with fail
       refine bodyPost_ret (v := .tuple #[.agg J, .int .i64 F]) ?_ rfl ⟨rfl, bR⟩
       exact results_node3 rfl HR.out hs rfl rfl))
/-- the climb of the reference. -/
theorem rclimb_any (n : Nd) (hn : n.d.length = 32) : ∀ (m at_ many : Nat) (A : Option Addr) (k c : Nat) (path : List Nd) (w : World), many ≤ m → many ≤ 4096 → at_ < many → path.length = rlenN at_ many → NS w A k c path →
    Calls Tryd.prog 95 #[.agg n.arr, .int .i64 at_, .int .i64 many, .slice A k c] w fun e w' => e = .returned (.tuple #[.agg (rclV n at_ many path).1.arr, .int .i64 (rclV n at_ many path).2]) ∧ Below w.heap.size w w'
  | m, at_, many, A, k, c, path, w, hm, h9, hat, hl, h => by
    by_cases h2 : 2 ≤ many
    · match m, hm with
      | 0, hm => omega
      | m + 1, hm =>
        have hs := half_spec h2
        have hle := h.le
        have hkl := h.len
        have hrl := rlenN_le many at_ many (Nat.le_refl _) hat
        have hne : path ≠ [] := fun e => by
          subst e
          by_cases h5 : at_ < halfN many
          · rw [rlenN_left h2 h5] at hl; simp at hl
          · rw [rlenN_right h2 h5] at hl; simp at hl
        obtain ⟨P, x, rfl⟩ : ∃ P x, path = P ++ [x] := ⟨path.dropLast, path.getLast hne, (List.dropLast_concat_getLast hne).symm⟩
        rw [List.length_append, List.length_singleton] at hl hkl
        obtain ⟨l, hlP⟩ : ∃ l, P.length = l := ⟨_, rfl⟩
        rw [hlP] at hl hkl
        have hk : k = l + 1 := by omega
        have hl96 : l ≤ 4096 := by omega
        subst hk
        obtain ⟨g, o, rfl, hN, _⟩ := h.at_ (by omega)
        have hpx : (P ++ [x])[l]? = some x := by rw [List.getElem?_append_right (by omega), hlP, Nat.sub_self]; rfl
        have hxd : x.d.length = 32 := h.dig x (by simp)
        have hX : ∀ W, Below w.heap.size w W → (ld46 ⟨g, o + l * 34, none⟩).run Tryd.prog W = .ok (.agg x.arr) W := fun W hb => by
          have hNW := h.below hb
          obtain ⟨g', o', e, hN', _⟩ := hNW.at_ (by omega)
          cases e
          have hr := hN' l (by rw [List.length_append, List.length_singleton]; omega)
          rw [List.getElem?_eq_getElem (by rw [List.length_append, List.length_singleton]; omega)] at hpx
          rw [Option.some.inj hpx] at hr
          exact ld_range hr (Nd.len x hxd)
        have hP : ∀ W, Below w.heap.size w W → NS W (some ⟨g, o, none⟩) l c P := fun W hb => by
          by_cases h0 : l = 0
          · subst h0
            have : P = [] := List.eq_nil_of_length_eq_zero hlP
            subst this
            exact ⟨rfl, Nat.zero_le _, h.cap, (fun e => by cases e), fun h0 => absurd h0 (by omega), fun _ hx => by cases hx⟩
          · have := ns_left (h.below hb) (k := l) (by omega) (by omega)
            rwa [List.take_append_of_le_length (by omega), List.take_of_length_le (by omega)] at this
        by_cases h3 : at_ < halfN many
        · rw [rlenN_left h2 h3] at hl
          rw [rclV_left h2 h3]
          have hPl : P.length = rlenN at_ (halfN many) := by omega
          have hr := rclV_len hn h3 hPl
          obtain ⟨r, hrr⟩ : ∃ r, rclV n at_ (halfN many) P = r := ⟨_, rfl⟩
          refine rclimb_left n.arr r.1.arr x.arr (rstep true r x).1.arr nd0.arr r.2 (rstep true r x).2 g o c many (halfN many) at_ l w h2 h9 rfl h3 (by omega) (by omega) h.cap (okX n hn) (okX _ (by rw [← hrr]; exact hr)) (okX _ ?_) rfl (fun W hb => ?_) hX (fun hE W hb => ?_) (fun hE => ?_) |> fun H => by rw [hrr]; exact H
          · unfold rstep; split
            · exact stepR_len
            · rfl
          · have := rclimb_any n hn m at_ (halfN many) _ l c P W (by omega) (by omega) h3 hPl (hP W hb)
            rw [hrr] at this
            exact this
          · unfold rstep; rw [if_pos hE]; exact rjoin_any r.1 x W (by rw [← hrr]; exact hr) hxd
          · unfold rstep; rw [if_neg hE]; exact ⟨rfl, rfl⟩
        · rw [rlenN_right h2 h3] at hl
          rw [rclV_right h2 h3]
          have hat2 : at_ - halfN many < many - halfN many := by omega
          have hPl : P.length = rlenN (at_ - halfN many) (many - halfN many) := by omega
          have hr := rclV_len hn hat2 hPl
          obtain ⟨r, hrr⟩ : ∃ r, rclV n (at_ - halfN many) (many - halfN many) P = r := ⟨_, rfl⟩
          refine rclimb_right n.arr r.1.arr x.arr (rstep false r x).1.arr nd0.arr r.2 (rstep false r x).2 g o c many (halfN many) at_ l w h2 h9 rfl (by omega) (by omega) (by omega) (by omega) h.cap (okX n hn) (okX _ (by rw [← hrr]; exact hr)) (okX _ ?_) rfl (fun W hb => ?_) hX (fun hE W hb => ?_) (fun hE => ?_) |> fun H => by rw [hrr]; exact H
          · unfold rstep; split
            · exact stepR_len
            · rfl
          · have := rclimb_any n hn m (at_ - halfN many) (many - halfN many) _ l c P W (by omega) (by omega) hat2 hPl (hP W hb)
            rw [hrr, show ((at_ - halfN many : Nat) : Int) = (at_ : Int) - (halfN many : Int) by omega, show ((many - halfN many : Nat) : Int) = (many : Int) - (halfN many : Int) by omega] at this
            exact this
          · unfold rstep; rw [if_pos hE]; exact rjoin_any x r.1 W hxd (by rw [← hrr]; exact hr)
          · unfold rstep; rw [if_neg hE]; exact ⟨rfl, rfl⟩
    · have e : many = 1 := by omega
      subst e
      rw [rclV_end (by omega)]
      exact rclimb_one n.arr at_ A k c w (okX n hn)
open Go.RowKit Go.Shelf
attribute [local go_sem] Oper.semAt_some
attribute [local go_sem ↓] ld46_in st46_in bs46_in bd46_in
attribute [local go_sem] st_new st_any sl_one sl_two sl_three
theorem validB_one {n : Nd} : validB [n] = n.ok := by
  unfold validB
  rw [List.all_cons, List.all_nil, Bool.and_true, sumC, sumC, Int.add_zero]
  cases h : n.ok
  · rfl
  · have := (Nd.ok_parts h).2.1
    rw [decide_eq_true this]; rfl
set_option maxRecDepth 100000 in
set_option maxHeartbeats 2000000 in
theorem rClimb_arg (N : Array Value) (at_ many : Int) (A : Option Addr) (k c : Nat) (w : World) (h : climbA at_ many = false) : Calls Tryd.prog 49 #[.agg N, .int .i64 at_, .int .i64 many, .slice A k c] w fun e w' => e = .returned (.tuple #[.agg nd0.arr, .int .i64 1]) ∧ Below w.heap.size w w' := by
  have hbn := bd46_nil
  have o0 := okX nd0 rfl
  obtain ⟨na, hna⟩ : ∃ na, nd0.arr = na := ⟨_, rfl⟩
  have hs : na.size = 34 := by rw [← hna]; rfl
  simp only [hna] at hbn
  rw [hna] at o0 ⊢
  have HNA := Lib.hid hna
  obtain ⟨hk, b1, _⟩ := climb_frame N na w
  have h2 : many < 1 ∨ 4096 < many ∨ at_ < 0 ∨ many ≤ at_ := by
    have := of_decide_eq_false h
    omega
  clear hna h
  go_enter Tryd.func49, Tryd.ntmps49
  go_upto_region 1 with fail
  generalize hW0 : (w.alloc (Obj.cells N 46)).alloc (Obj.cells _ 46) = W1
  have hzz : (w.alloc (.cells N 46)).alloc (.cells na 46) = W1 := by rw [← HNA.out]; exact hW0
  rw [hzz] at hk b1
  clear hW0 hzz
  obtain ⟨g2, hg2⟩ : ∃ g, w.heap.size = g := ⟨_, rfl⟩
  rw [hg2] at hk ⊢
  have hgw := Nat.le_of_eq hg2
  clear hg2
  have hat : At46 W1 (g2 + 1) := ⟨na, hk (g2 + 1, na) (by simp), hs⟩
  have hR : Blk (W1.setRow (g2 + 1) na) (g2 + 1) 46 na := at46_set hat na
  have bR : Below w.heap.size w (W1.setRow (g2 + 1) na) := below_setRow b1 (by omega) _
  have HR := Lib.hid hR
  clear hR hk
  by_cases c1 : many < 1
  · clear h2
    go_wp2_with fail
    refine bodyPost_ret (v := .tuple #[.agg na, .int .i64 1]) ?_ rfl ⟨rfl, bR⟩
    exact results_node3 rfl HR.out hs rfl rfl
  · by_cases c2 : 4096 < many
    · clear h2
      go_wp2_with fail
      refine bodyPost_ret (v := .tuple #[.agg na, .int .i64 1]) ?_ rfl ⟨rfl, bR⟩
      exact results_node3 rfl HR.out hs rfl rfl
    · by_cases c3 : at_ < 0
      · clear h2
        go_wp2_with fail
        refine bodyPost_ret (v := .tuple #[.agg na, .int .i64 1]) ?_ rfl ⟨rfl, bR⟩
        exact results_node3 rfl HR.out hs rfl rfl
      · have c4 : many ≤ at_ := by omega
        clear h2
        go_wp2_with fail
        refine bodyPost_ret (v := .tuple #[.agg na, .int .i64 1]) ?_ rfl ⟨rfl, bR⟩
        exact results_node3 rfl HR.out hs rfl rfl
set_option maxRecDepth 100000 in
set_option maxHeartbeats 2000000 in
theorem rClimb_go (n : Nd) (hn : n.d.length = 32) (j m : Nat) (A : Option Addr) (k c : Nat) (path : List Nd) (w : World) (hj : j < m) (hm : m ≤ 4096) (h : NS w A k c path) : Calls Tryd.prog 49 #[.agg n.arr, .int .i64 j, .int .i64 m, .slice A k c] w fun e w' => e = .returned (.tuple #[.agg (climbV n j m path).1.arr, .int .i64 (climbV n j m path).2]) ∧ Below w.heap.size w w' := by
  have hbn := bd46_nil
  have o0 := okX nd0 rfl
  have oN := okX n hn
  have hkl := h.len
  have hle := h.le
  have hcap := h.cap
  have C1 := Lib.hid fun (W : World) => rlen_any m j m W (Nat.le_refl _) hm hj
  have C2 := Lib.hid fun (W : World) => rvalid_any n W hn
  have C3 := fun (W : World) (hb : Below w.heap.size w W) (hl : path.length = rlenN j m) => rclimb_any n hn m j m A k c path W (Nat.le_refl _) hm hj hl (h.below hb)
  rw [climbV_rclV n j m path hj hm, validB_one]
  have hLen : path.length = rlenN j m → (rclV n j m path).1.d.length = 32 := fun hl => rclV_len hn hj hl
  obtain ⟨r, hr⟩ : ∃ r, rclV n j m path = r := ⟨_, rfl⟩
  obtain ⟨q, hq⟩ : ∃ q, rlenN j m = q := ⟨_, rfl⟩
  rw [hkl]
  rw [hq] at C1
  simp only [hkl, hr, hq] at C3 hLen ⊢
  have C3 := Lib.hid C3
  obtain ⟨ok, hok⟩ : ∃ b, n.ok = b := ⟨_, rfl⟩
  rw [hok] at C2 ⊢
  obtain ⟨N, hN⟩ : ∃ a, n.arr = a := ⟨_, rfl⟩
  rw [hN] at oN C2 C3 ⊢
  obtain ⟨na, hna⟩ : ∃ na, nd0.arr = na := ⟨_, rfl⟩
  have hs : na.size = 34 := by rw [← hna]; rfl
  simp only [hna] at hbn
  rw [hna] at o0
  have HNA := Lib.hid hna
  obtain ⟨hk, b1, _⟩ := climb_frame N na w
  have t1 : ¬ (m : Int) < 1 := by omega
  have t2 : ¬ (4096 : Int) < m := by omega
  have t3 : ¬ (j : Int) < 0 := by omega
  have t4 : (j : Int) < (m : Int) := by omega
  have t9 : ¬ m ≤ j := by omega
  clear h hq hr hkl hok hN hna
  by_cases hkq : k = q
  · subst hkq
    have HL := hLen rfl
    have oR := okX _ HL
    have C4 : Hid (∀ W, Below w.heap.size w W → Calls Tryd.prog 95 #[.agg N, .int .i64 j, .int .i64 m, .slice A k c] W fun e w' => e = .returned (.tuple #[.agg r.1.arr, .int .i64 r.2]) ∧ Below W.heap.size W w') := Lib.hid fun W hb => C3.out W hb rfl
    clear C3
    rw [if_pos rfl]
    cases ok
    · rw [if_neg (by simp)]
      go_enter Tryd.func49, Tryd.ntmps49
      go_upto_region 1 with fail
      generalize hW0 : (w.alloc (Obj.cells N 46)).alloc (Obj.cells _ 46) = W1
      have hzz : (w.alloc (.cells N 46)).alloc (.cells na 46) = W1 := by rw [← HNA.out]; exact hW0
      rw [hzz] at hk b1
      clear hW0 hzz
      obtain ⟨g2, hg2⟩ : ∃ g, w.heap.size = g := ⟨_, rfl⟩
      rw [hg2] at hk ⊢
      have hgw := Nat.le_of_eq hg2
      clear hg2
      go_wp2_with fail
      refine (C1.out _).mono ?_
      rintro e w2 ⟨rfl, k2⟩
      replace hk := hk.below k2
      replace b1 := bl b1 k2
      clear k2
      have l0 := ld_blk (hk (g2, N) (by simp)) oN
      go_wp2_with fail
      refine (C2.out _).mono ?_
      rintro e w3 ⟨rfl, k3⟩
      replace hk := hk.below k3
      replace b1 := bl b1 k3
      have hat : At46 w3 (g2 + 1) := ⟨na, hk (g2 + 1, na) (by simp), hs⟩
      have hR : Blk (w3.setRow (g2 + 1) na) (g2 + 1) 46 na := at46_set hat na
      have bR : Below w.heap.size w (w3.setRow (g2 + 1) na) := below_setRow b1 (by omega) _
      have HR := Lib.hid hR
      clear hR hk l0 k3
      go_wp2_with fail
      refine bodyPost_ret (v := .tuple #[.agg na, .int .i64 410]) ?_ rfl ⟨by rw [← HNA.out], bR⟩
      exact results_node3 rfl HR.out hs rfl rfl
    · rw [if_pos rfl]
      obtain ⟨R, hRR⟩ : ∃ R, r.1.arr = R := ⟨_, rfl⟩
      rw [hRR] at C4 oR ⊢
      obtain ⟨E, hE⟩ : ∃ E, r.2 = E := ⟨_, rfl⟩
      rw [hE] at C4 ⊢
      clear hE hRR HL hLen
      go_enter Tryd.func49, Tryd.ntmps49
      go_upto_region 1 with fail
      generalize hW0 : (w.alloc (Obj.cells N 46)).alloc (Obj.cells _ 46) = W1
      have hzz : (w.alloc (.cells N 46)).alloc (.cells na 46) = W1 := by rw [← HNA.out]; exact hW0
      rw [hzz] at hk b1
      clear hW0 hzz
      obtain ⟨g2, hg2⟩ : ∃ g, w.heap.size = g := ⟨_, rfl⟩
      rw [hg2] at hk ⊢
      have hgw := Nat.le_of_eq hg2
      clear hg2
      go_wp2_with fail
      refine (C1.out _).mono ?_
      rintro e w2 ⟨rfl, k2⟩
      replace hk := hk.below k2
      replace b1 := bl b1 k2
      clear k2
      have l0 := ld_blk (hk (g2, N) (by simp)) oN
      go_wp2_with fail
      refine (C2.out _).mono ?_
      rintro e w3 ⟨rfl, k3⟩
      replace hk := hk.below k3
      replace b1 := bl b1 k3
      have l1 := ld_blk (hk (g2, N) (by simp)) oN
      clear l0 k3
      go_wp2_with fail
      refine (C4.out _ b1).mono ?_
      rintro e w4 ⟨rfl, k4⟩
      replace hk := hk.below k4
      replace b1 := bl b1 k4
      have hat : At46 w4 (g2 + 1) := ⟨na, hk (g2 + 1, na) (by simp), hs⟩
      have hR : Blk (w4.setRow (g2 + 1) R) (g2 + 1) 46 R := at46_set hat R
      have bR : Below w.heap.size w (w4.setRow (g2 + 1) R) := below_setRow b1 (by omega) _
      have HR := Lib.hid hR
      clear hR hk l1 k4
      go_wp2_with fail
      refine bodyPost_ret (v := .tuple #[.agg R, .int .i64 E]) ?_ rfl ⟨rfl, bR⟩
      exact results_node3 rfl HR.out oR.1 rfl rfl
  · rw [if_neg hkq]
    have t7 : ((k : Int) == (q : Int)) = false := by simp; omega
    have t8 : ((k : Int) != (q : Int)) = true := by simp; omega
    go_enter Tryd.func49, Tryd.ntmps49
    go_upto_region 1 with fail
    generalize hW0 : (w.alloc (Obj.cells N 46)).alloc (Obj.cells _ 46) = W1
    have hzz : (w.alloc (.cells N 46)).alloc (.cells na 46) = W1 := by rw [← HNA.out]; exact hW0
    rw [hzz] at hk b1
    clear hW0 hzz
    obtain ⟨g2, hg2⟩ : ∃ g, w.heap.size = g := ⟨_, rfl⟩
    rw [hg2] at hk ⊢
    have hgw := Nat.le_of_eq hg2
    clear hg2
    go_wp2_with fail
    refine (C1.out _).mono ?_
    rintro e w2 ⟨rfl, k2⟩
    replace hk := hk.below k2
    replace b1 := bl b1 k2
    clear k2
    have hat : At46 w2 (g2 + 1) := ⟨na, hk (g2 + 1, na) (by simp), hs⟩
    have hR : Blk (w2.setRow (g2 + 1) na) (g2 + 1) 46 na := at46_set hat na
    have bR : Below w.heap.size w (w2.setRow (g2 + 1) na) := below_setRow b1 (by omega) _
    have HR := Lib.hid hR
    clear hR hk
    go_wp2_with fail
    refine bodyPost_ret (v := .tuple #[.agg na, .int .i64 1]) ?_ rfl ⟨by rw [← HNA.out], bR⟩
    exact results_node3 rfl HR.out hs rfl rfl
/-- Climb of the reference. -/
theorem rClimb_any (n : Nd) (at_ many : Int) (A : Option Addr) (k c : Nat) (path : List Nd) (w : World) (hn : n.d.length = 32) (h : NS w A k c path) : Calls Tryd.prog 49 #[.agg n.arr, .int .i64 at_, .int .i64 many, .slice A k c] w fun e w' => e = .returned (.tuple #[.agg (climbV n at_ many path).1.arr, .int .i64 (climbV n at_ many path).2]) ∧ Below w.heap.size w w' := by
  cases hc : climbA at_ many
  · have e : climbV n at_ many path = (nd0, 1) := by unfold climbV; rw [hc]; rfl
    rw [e]
    exact rClimb_arg n.arr at_ many A k c w hc
  · have h2 := of_decide_eq_true hc
    obtain ⟨j, rfl⟩ : ∃ j : Nat, at_ = j := ⟨at_.toNat, by omega⟩
    obtain ⟨m, rfl⟩ : ∃ m : Nat, many = m := ⟨many.toNat, by omega⟩
    exact rClimb_go n hn j m A k c path w (by omega) (by omega) h
end Go.Proofs.YtedokiemlkccaaaDoor
