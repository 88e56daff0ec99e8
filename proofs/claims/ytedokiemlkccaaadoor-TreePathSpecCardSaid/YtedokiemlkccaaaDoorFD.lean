/- Valid, Half and Join of the reference of tree. -/
import Derived.Test.YtedokiemlkccaaaDoorFC
set_option linter.all false
namespace Go.Proofs.YtedokiemlkccaaaDoor
open Go.RowKit
open Go.RowKit Go.Shelf
attribute [local go_sem] Oper.semAt_some
attribute [local go_sem ↓] ld46_in st46_in bs46_in bd46_in
attribute [local go_sem] st_new st_any sl_one sl_two sl_three
set_option maxRecDepth 100000 in
set_option maxHeartbeats 1000000 in
theorem rvalid_any (n : Nd) (w : World) (hd : n.d.length = 32) : Calls Tryd.prog 88 #[.agg n.arr] w fun e w' => e = .returned (.bool n.ok) ∧ Below w.heap.size w w' := by
  have hB : Blk (w.alloc (.cells n.arr 46)) w.heap.size 46 n.arr := Blk.new _ _ _
  have c1 := (hB.cell 32).trans (n.get32 hd)
  have c2 := (hB.cell 33).trans (n.get33 hd)
  have b : Below w.heap.size w (w.alloc (.cells n.arr 46)) := (Below.refl _ w).alloc (Nat.le_refl _) _
  have hok : n.ok = decide (0 ≤ n.c ∧ n.c ≤ 1073741824 ∧ 0 ≤ n.p ∧ n.p ≤ 12 * n.c) := rfl
  obtain ⟨C, hC⟩ : ∃ C, n.c = C := ⟨_, rfl⟩
  obtain ⟨P, hP⟩ : ∃ P, n.p = P := ⟨_, rfl⟩
  rw [hC] at c1 hok
  rw [hP] at c2 hok
  obtain ⟨K, hK⟩ : ∃ K, n.ok = K := ⟨_, rfl⟩
  rw [hK] at hok ⊢
  have HOK := Lib.hid hok
  have HB := Lib.hid b
  clear hok hK hC hP b hB
  by_cases d0 : 0 ≤ C
  · by_cases d1 : C ≤ 1073741824
    · by_cases d2 : 0 ≤ P
      · by_cases d3 : P ≤ 12 * C
        · have e3 : K = true := by rw [HOK.out]; exact decide_eq_true ⟨d0, d1, d2, d3⟩
          have HK := Lib.hid e3
          clear e3
          go_enter Tryd.func88, Tryd.ntmps88
          go_wp2_with fail
          go_ret
          exact ⟨by rw [HK.out]; rfl, HB.out⟩
        · have e3 : K = false := by rw [HOK.out]; exact decide_eq_false (fun h => d3 h.2.2.2)
          have HK := Lib.hid e3
          clear e3
          go_enter Tryd.func88, Tryd.ntmps88
          go_wp2_with fail
          go_ret
          exact ⟨by rw [HK.out]; rfl, HB.out⟩
      · have e3 : K = false := by rw [HOK.out]; exact decide_eq_false (fun h => d2 h.2.2.1)
        have HK := Lib.hid e3
        clear e3
        go_enter Tryd.func88, Tryd.ntmps88
        go_wp2_with fail
        go_ret
        exact ⟨by rw [HK.out]; rfl, HB.out⟩
    · have e3 : K = false := by rw [HOK.out]; exact decide_eq_false (fun h => d1 h.2.1)
      have HK := Lib.hid e3
      clear e3
      go_enter Tryd.func88, Tryd.ntmps88
      go_wp2_with fail
      go_ret
      exact ⟨by rw [HK.out]; rfl, HB.out⟩
  · have e3 : K = false := by rw [HOK.out]; exact decide_eq_false (fun h => d0 h.1)
    have HK := Lib.hid e3
    clear e3
    go_enter Tryd.func88, Tryd.ntmps88
    go_wp2_with fail
    go_ret
    exact ⟨by rw [HK.out]; rfl, HB.out⟩
theorem rhalf_any (n : Nat) (w : World) (hn : n ≤ 1000000) : Calls Tryd.prog 113 #[.int .i64 n] w fun e w' => e = .returned (.int .i64 (halfN n)) ∧ w = w' := by
  obtain ⟨H, hH⟩ : ∃ H, halfN n = H := ⟨_, rfl⟩
  have HH : Hid (hfA 1 n = H) := Lib.hid hH
  rw [hH]
  clear hH
  go_enter Tryd.func113, Tryd.ntmps113
  go_wp2_with fail
  go_loop [3] (fun x => ∃ k : Nat, 0 < k ∧ k ≤ 1000000 ∧ x = .int .i64 k ∧ Hid (hfA k n = H)) (fun x => n - (intOf x).toNat)
  case atStart => exact ⟨1, by omega, by omega, rfl, HH⟩
  case round =>
    obtain ⟨k, hk0, hk9, rfl, hh⟩ := hrel
    by_cases hlt : 2 * k < n
    · have hlt' : (2 : Int) * k < n := by omega
      have hy := hfA_yes hk0 hlt
      rw [hy] at hh
      clear hy
      go_wp2_with fail
      go_round
      case rel => exact ⟨2 * k, by omega, by omega, by go_num, hh⟩
      case measure => simp [intOf]; omega
    · have hlt' : ¬ (2 : Int) * k < n := by omega
      have hno := hfA_no (k := k) hlt
      rw [hno] at hh
      obtain rfl := hh.out
      clear hno hh
      go_wp2_with fail
      go_ret
      exact ⟨rfl, rfl⟩
open Go.RowKit Go.Shelf
attribute [local go_sem] Oper.semAt_some
attribute [local go_sem ↓] ld46_in st46_in bs46_in bd46_in
attribute [local go_sem] st_new st_any sl_one sl_two sl_three
theorem join_frame (A B na : Array Value) (w : World) : Bk (((w.alloc (.cells A 46)).alloc (.cells B 46)).alloc (.cells na 46)) [(w.heap.size + 2, na), (w.heap.size + 1, B), (w.heap.size, A)] ∧ Below w.heap.size w (((w.alloc (.cells A 46)).alloc (.cells B 46)).alloc (.cells na 46)) ∧ (((w.alloc (.cells A 46)).alloc (.cells B 46)).alloc (.cells na 46)).heap.size = w.heap.size + 3 := by
  refine ⟨?_, (((Below.refl _ w).alloc (Nat.le_refl _) _).alloc (by simp) _).alloc (by simp; omega) _, by simp⟩
  have h := (((Bk.nil w).new A).new B).new na
  rw [World.size_alloc, World.size_alloc] at h
  exact h
set_option maxRecDepth 100000 in
set_option maxHeartbeats 2000000 in
theorem rjoin_no (a b : Nd) (w : World) (ha : a.d.length = 32) (hb : b.d.length = 32) (hv : validB [a, b] = false) : Calls Tryd.prog 45 #[.agg a.arr, .agg b.arr] w fun e w' => e = .returned (.tuple #[.agg nd0.arr, .int .i64 410]) ∧ Below w.heap.size w w' := by
  have oA := okX a ha
  have oB := okX b hb
  have o0 := okX nd0 rfl
  have hbn := bd46_nil
  have cV := fun (W : World) => rvalid_any a W ha
  have cV' := fun (W : World) => rvalid_any b W hb
  have ga := a.get32 ha
  have gb := b.get32 hb
  have hcond : a.ok = true → b.ok = true → 1073741824 < a.c + b.c := fun h1 h2 => by
    rcases Int.lt_or_le 1073741824 (a.c + b.c) with h | h
    · exact h
    · rw [validB_two, h1, h2, decide_eq_true h] at hv; cases hv
  have hpa : a.ok = true → 0 ≤ a.c ∧ a.c ≤ 1073741824 := fun h => ⟨(Nd.ok_parts h).1, (Nd.ok_parts h).2.1⟩
  have hpb : b.ok = true → 0 ≤ b.c ∧ b.c ≤ 1073741824 := fun h => ⟨(Nd.ok_parts h).1, (Nd.ok_parts h).2.1⟩
  obtain ⟨A, hA⟩ : ∃ A, a.arr = A := ⟨_, rfl⟩
  obtain ⟨B, hB⟩ : ∃ B, b.arr = B := ⟨_, rfl⟩
  obtain ⟨na, hna⟩ : ∃ na, nd0.arr = na := ⟨_, rfl⟩
  obtain ⟨C, hC⟩ : ∃ C, a.c = C := ⟨_, rfl⟩
  obtain ⟨D, hD⟩ : ∃ D, b.c = D := ⟨_, rfl⟩
  obtain ⟨va, hva⟩ : ∃ v, a.ok = v := ⟨_, rfl⟩
  obtain ⟨vb, hvb⟩ : ∃ v, b.ok = v := ⟨_, rfl⟩
  simp only [hA, hva] at oA cV ga ⊢
  simp only [hB, hvb] at oB cV' gb ⊢
  rw [hna] at o0 ⊢
  simp only [hna] at hbn
  rw [hC] at ga hcond hpa
  rw [hD] at gb hcond hpb
  rw [hva] at hcond hpa
  rw [hvb] at hcond hpb
  have hs : na.size = 34 := o0.1
  obtain ⟨hk, b1, _⟩ := join_frame A B na w
  have CV := Lib.hid cV; have CV' := Lib.hid cV'; have GA := Lib.hid ga; have GB := Lib.hid gb; have HC := Lib.hid hcond; have HPA := Lib.hid hpa; have HPB := Lib.hid hpb; have HNA := Lib.hid hna
  clear cV cV' ga gb hcond hpa hpb hA hB hC hD hva hvb hv hna ha hb
  go_enter Tryd.func45, Tryd.ntmps45
  go_upto_region 1 with fail
  generalize hW0 : ((w.alloc (Obj.cells A 46)).alloc (Obj.cells B 46)).alloc (Obj.cells _ 46) = W1
  have hzz : ((w.alloc (.cells A 46)).alloc (.cells B 46)).alloc (.cells na 46) = W1 := by rw [← HNA.out]; exact hW0
  rw [hzz] at hk b1
  clear hW0 hzz
  obtain ⟨g2, hg2⟩ : ∃ g, w.heap.size = g := ⟨_, rfl⟩
  rw [hg2] at hk ⊢
  have HG := Lib.hid hg2
  clear hg2
  have l0 := ld_blk (hk (g2, A) (by simp)) oA
  go_wp2_with fail
  refine (CV.out _).mono ?_
  rintro e w7 ⟨rfl, k⟩
  replace hk := hk.below k
  replace b1 := bl b1 k
  clear l0 k
  cases va
  · have hat : At46 w7 (g2 + 2) := ⟨na, hk (g2 + 2, na) (by simp), hs⟩
    go_wp2_with fail
    have hR : Blk (w7.setRow (g2 + 2) na) (g2 + 2) 46 na := at46_set hat na
    have bR : Below w.heap.size w (w7.setRow (g2 + 2) na) := below_setRow b1 (by have := HG.out; omega) _
    refine bodyPost_ret (v := .tuple #[.agg na, .int .i64 410]) ?_ rfl ⟨rfl, bR⟩
    exact results_node rfl hR hs rfl rfl
  · have l1 := ld_blk (hk (g2 + 1, B) (by simp)) oB
    go_wp2_with fail
    refine (CV'.out _).mono ?_
    rintro e w8 ⟨rfl, k⟩
    replace hk := hk.below k
    replace b1 := bl b1 k
    clear l1 k
    have hat : At46 w8 (g2 + 2) := ⟨na, hk (g2 + 2, na) (by simp), hs⟩
    have hR : Blk (w8.setRow (g2 + 2) na) (g2 + 2) 46 na := at46_set hat na
    have bR : Below w.heap.size w (w8.setRow (g2 + 2) na) := below_setRow b1 (by have := HG.out; omega) _
    have HR := Lib.hid hR
    clear hR
    cases vb
    · go_wp2_with fail
      refine bodyPost_ret (v := .tuple #[.agg na, .int .i64 410]) ?_ rfl ⟨rfl, bR⟩
      exact results_node rfl HR.out hs rfl rfl
    · have q1 : 0 ≤ C ∧ C ≤ 1073741824 := by have := HPA.out; simpa using this
      have q2 : 0 ≤ D ∧ D ≤ 1073741824 := by have := HPB.out; simpa using this
      have q3 : 1073741824 < C + D := by have := HC.out; simpa using this
      have c1 : w8.cell? ⟨g2, 32, none⟩ = some (.int .i64 C) := ((hk (g2, A) (by simp)).cell 32).trans GA.out
      have c2 : w8.cell? ⟨g2 + 1, 32, none⟩ = some (.int .i64 D) := ((hk (g2 + 1, B) (by simp)).cell 32).trans GB.out
      have q4 : IntKind.i64.wrap (C + D) = C + D := IntWalk.i64_in _ (by omega)
      clear q1 q2
      go_wp2_with fail
      refine bodyPost_ret (v := .tuple #[.agg na, .int .i64 410]) ?_ rfl ⟨rfl, bR⟩
      exact results_node rfl HR.out hs rfl rfl
/-- what the last statement of Join reads. -/
abbrev JF (w : World) (g2 g3 g4 : Nat) (A B : Array Value) (c p c' p' : Int) (W : World) : Prop :=
  W.cell? ⟨g2, 32, none⟩ = some (.int .i64 c) ∧ W.cell? ⟨g2, 33, none⟩ = some (.int .i64 p) ∧ W.cell? ⟨g3, 32, none⟩ = some (.int .i64 c') ∧ W.cell? ⟨g3, 33, none⟩ = some (.int .i64 p') ∧ At46 W g4 ∧ Blk W g2 46 A ∧ Blk W g3 46 B ∧ Below w.heap.size w W
theorem jfx_next {w W W' : World} {g2 g3 g4 : Nat} {A B : Array Value} {c p c' p' : Int} (h : JF w g2 g3 g4 A B c p c' p' W) (k : Below W.heap.size W W') : JF w g2 g3 g4 A B c p c' p' W' := by
  obtain ⟨h1, h2, h3, h4, h5, h6, h7, h8⟩ := h
  exact ⟨(k.cell (p := ⟨g2, 32, none⟩) h6.lt).trans h1, (k.cell (p := ⟨g2, 33, none⟩) h6.lt).trans h2, (k.cell (p := ⟨g3, 32, none⟩) h7.lt).trans h3, (k.cell (p := ⟨g3, 33, none⟩) h7.lt).trans h4, at46_keep h5 k, h6.below k h6.lt, h7.below k h7.lt, bl h8 k⟩
theorem jfx_row {w W : World} {g2 g3 g4 : Nat} {A B : Array Value} {c p c' p' : Int} (h : JF w g2 g3 g4 A B c p c' p' W) (n2 : g2 ≠ g4) (n3 : g3 ≠ g4) (hb : w.heap.size ≤ g4) {X : Array Value} (hX : X.size = 34) : JF w g2 g3 g4 A B c p c' p' (W.setRow g4 X) := by
  obtain ⟨h1, h2, h3, h4, h5, h6, h7, h8⟩ := h
  have e2 := (setRow_other W g4 g2 X n2).trans h6
  have e3 := (setRow_other W g4 g3 X n3).trans h7
  refine ⟨?_, ?_, ?_, ?_, at46_row h5 hX, e2, e3, below_setRow h8 hb _⟩
  · exact (Blk.cell e2 32).trans ((Blk.cell h6 32).symm.trans h1)
  · exact (Blk.cell e2 33).trans ((Blk.cell h6 33).symm.trans h2)
  · exact (Blk.cell e3 32).trans ((Blk.cell h7 32).symm.trans h3)
  · exact (Blk.cell e3 33).trans ((Blk.cell h7 33).symm.trans h4)
set_option maxRecDepth 100000 in
set_option maxHeartbeats 2000000 in
theorem rjoin_yes (a b : Nd) (w : World) (ha : a.d.length = 32) (hb : b.d.length = 32) (hv : validB [a, b] = true) : Calls Tryd.prog 45 #[.agg a.arr, .agg b.arr] w fun e w' => e = .returned (.tuple #[.agg (joinV a b).arr, .int .i64 0]) ∧ Below w.heap.size w w' := by
  have hvp := hv
  rw [validB_two, Bool.and_eq_true, Bool.and_eq_true] at hvp
  have pa := Nd.ok_parts hvp.1.1
  have pb := Nd.ok_parts hvp.1.2
  have ps := of_decide_eq_true hvp.2
  have oA := okX a ha
  have oB := okX b hb
  have oX := okX _ (joinV_len a b)
  have cV := fun (W : World) => rvalid_any a W ha
  have cV' := fun (W : World) => rvalid_any b W hb
  rw [hvp.1.1] at cV
  rw [hvp.1.2] at cV'
  have ga := a.get32 ha
  have gb := b.get32 hb
  have ga' := a.get33 ha
  have gb' := b.get33 hb
  have HZB : Hid (∀ z ∈ [a.c, a.p, b.c, b.p], -9223372036854775808 ≤ z ∧ z < 9223372036854775808) := Lib.hid (by intro z hz; simp at hz; rcases hz with rfl | rfl | rfl | rfl <;> omega)
  have hel := encL_len [a.c, a.p, b.c, b.p] (by simp)
  have hep := encL_pos [a.c, a.p, b.c, b.p]
  have htl : (tagB sumS (a.d ++ b.d ++ encL [a.c, a.p, b.c, b.p])).length = 32 := tagB_length _ _
  have hbd := fun W => bd46_node (tagB sumS (a.d ++ b.d ++ encL [a.c, a.p, b.c, b.p])) htl (a.c + b.c) (a.p + b.p) W
  rw [show (⟨tagB sumS (a.d ++ b.d ++ encL [a.c, a.p, b.c, b.p]), a.c + b.c, a.p + b.p⟩ : Nd) = joinV a b from rfl] at hbd
  have hct := fun (W : World) (A : Option Addr) (n c : Nat) (hs : BS W A n c (a.d ++ b.d ++ encL [a.c, a.p, b.c, b.p])) (hn : n ≤ 100000) => rtagged_any sumS A n c _ W (by decide) hs hn
  have w1 : IntKind.i64.wrap (a.c + b.c) = a.c + b.c := IntWalk.i64_in _ (by omega)
  have w2 : IntKind.i64.wrap (a.p + b.p) = a.p + b.p := IntWalk.i64_in _ (by omega)
  have w3 : ¬ 1073741824 < a.c + b.c := by omega
  have nba := fun (W : World) (g t : Nat) (h : Blk W g t a.arr) => nd_bytes (o := 0) h ha
  have nbb := fun (W : World) (g t : Nat) (h : Blk W g t b.arr) => nd_bytes (o := 0) h hb
  obtain ⟨X, hXe⟩ : ∃ X, (joinV a b).arr = X := ⟨_, rfl⟩
  rw [hXe] at oX ⊢
  simp only [hXe] at hbd
  obtain ⟨es, hes⟩ : ∃ es, (u8s (tagB sumS (a.d ++ b.d ++ encL [a.c, a.p, b.c, b.p]))).toArray = es := ⟨_, rfl⟩
  simp only [hes] at hbd hct
  obtain ⟨A, hA⟩ : ∃ A, a.arr = A := ⟨_, rfl⟩
  obtain ⟨B, hB⟩ : ∃ B, b.arr = B := ⟨_, rfl⟩
  obtain ⟨da, hda⟩ : ∃ A, a.d = A := ⟨_, rfl⟩
  obtain ⟨db, hdb⟩ : ∃ B, b.d = B := ⟨_, rfl⟩
  obtain ⟨c, hc⟩ : ∃ B, a.c = B := ⟨_, rfl⟩
  obtain ⟨p, hp⟩ : ∃ B, a.p = B := ⟨_, rfl⟩
  obtain ⟨c', hc'⟩ : ∃ B, b.c = B := ⟨_, rfl⟩
  obtain ⟨p', hp'⟩ : ∃ B, b.p = B := ⟨_, rfl⟩
  simp only [hA, hda] at oA cV ga ga' nba ⊢
  simp only [hB, hdb] at oB cV' gb gb' nbb ⊢
  simp only [hda, hdb, hc, hp, hc', hp'] at hct hbd HZB hel hep w1 w2 w3 ga gb ga' gb'
  obtain ⟨hk, b1, hsz⟩ := join_frame A B nd0.arr w
  have CV := Lib.hid cV; have CV' := Lib.hid cV'; have HCT := Lib.hid hct; have NA := Lib.hid nba; have NB' := Lib.hid nbb
  have G := Lib.hid (And.intro ga (And.intro ga' (And.intro gb gb')))
  clear cV cV' ga gb ga' gb' hA hB hda hdb hc hp hc' hp' hv hvp pa pb ps ha hb htl hes hXe hct nba nbb
  go_enter Tryd.func45, Tryd.ntmps45
  go_upto_region 1 with fail
  generalize hW0 : ((w.alloc (Obj.cells A 46)).alloc (Obj.cells B 46)).alloc (Obj.cells _ 46) = W1
  have hzz : ((w.alloc (.cells A 46)).alloc (.cells B 46)).alloc (.cells nd0.arr 46) = W1 := hW0
  rw [hzz] at hk b1 hsz
  clear hW0 hzz
  obtain ⟨g2, hg2⟩ : ∃ g, w.heap.size = g := ⟨_, rfl⟩
  rw [hg2] at hk hsz ⊢
  have HG := Lib.hid hg2
  clear hg2
  have l0 := ld_blk (hk (g2, A) (by simp)) oA
  go_wp2_with fail
  refine (CV.out _).mono ?_
  rintro e w7 ⟨rfl, k⟩
  replace hk := hk.below k
  replace b1 := bl b1 k
  have z7 : g2 + 3 ≤ w7.heap.size := by have := k.size; omega
  clear l0 k hsz
  have l1 := ld_blk (hk (g2 + 1, B) (by simp)) oB
  go_wp2_with fail
  refine (CV'.out _).mono ?_
  rintro e w8 ⟨rfl, k⟩
  replace hk := hk.below k
  replace b1 := bl b1 k
  replace z7 : g2 + 3 ≤ w8.heap.size := Nat.le_trans z7 k.size
  clear l1 k
  have c1 : w8.cell? ⟨g2, 32, none⟩ = some (.int .i64 c) := ((hk (g2, A) (by simp)).cell 32).trans G.out.1
  have c2 : w8.cell? ⟨g2 + 1, 32, none⟩ = some (.int .i64 c') := ((hk (g2 + 1, B) (by simp)).cell 32).trans G.out.2.2.1
  have hown0 := own_none w8 (g2 + 3) z7
  have hk0 := hk.alloc (.cells #[] 5)
  have hsA := NA.out _ _ _ (hk0 (g2, A) (by simp))
  have hz3 : g2 + 3 ≤ (w8.alloc (.cells #[] 5)).heap.size := by simp; omega
  go_wp2_with (at_builtin; refine wpList_append_bs rfl (.tmp 24) (.tmp 26) rfl (g2 + 3) 0 32 32 _ _ [] da rfl rfl hown0 hsA (by omega) hz3 ?_)
  intro v3 w3' ho3 hb3
  have kb : Below (g2 + 3) w8 w3' := hb3 w8 ((Below.refl _ w8).alloc z7 _)
  have z3 : g2 + 3 ≤ w3'.heap.size := Nat.le_trans z7 kb.size
  replace b1 := b1.trans (kb.mono (by have := HG.out; omega))
  have hk3 : Bk w3' [(g2 + 2, nd0.arr), (g2 + 1, B), (g2, A)] := fun q hq => (hk q hq).below kb (by simp at hq; rcases hq with rfl | rfl | rfl <;> simp <;> omega)
  have hsB := NB'.out _ _ _ (hk3 (g2 + 1, B) (by simp))
  clear hown0 hk0 hsA hb3 kb hk z7 hz3 c1 c2
  go_wp2_with (at_builtin; refine wpList_append_bs rfl (.tmp 28) (.tmp 30) rfl (g2 + 3) 32 32 32 _ _ _ db rfl rfl ho3 hsB (by omega) z3 ?_)
  intro v4 w4 ho4 hb4
  have kb : Below (g2 + 3) w3' w4 := hb4 w3' (Below.refl _ _)
  have z4 : g2 + 3 ≤ w4.heap.size := Nat.le_trans z3 kb.size
  replace b1 := b1.trans (kb.mono (by have := HG.out; omega))
  have hk4 : Bk w4 [(g2 + 2, nd0.arr), (g2 + 1, B), (g2, A)] := fun q hq => (hk3 q hq).below kb (by simp at hq; rcases hq with rfl | rfl | rfl <;> simp <;> omega)
  clear hsB hb4 kb hk3 z3 ho3
  have c1 : w4.cell? ⟨g2, 32, none⟩ = some (.int .i64 c) := ((hk4 (g2, A) (by simp)).cell 32).trans G.out.1
  have c2 : w4.cell? ⟨g2, 33, none⟩ = some (.int .i64 p) := ((hk4 (g2, A) (by simp)).cell 33).trans G.out.2.1
  have c3 : w4.cell? ⟨g2 + 1, 32, none⟩ = some (.int .i64 c') := ((hk4 (g2 + 1, B) (by simp)).cell 32).trans G.out.2.2.1
  have c4 : w4.cell? ⟨g2 + 1, 33, none⟩ = some (.int .i64 p') := ((hk4 (g2 + 1, B) (by simp)).cell 33).trans G.out.2.2.2
  go_wp2_with fail
  have hz : Blk (w4.alloc (.cells #[.int .i64 c, .int .i64 p, .int .i64 c', .int .i64 p'] 3)) w4.heap.size 3 (ints [c, p, c', p']) := Blk.new _ _ _
  have CI := Lib.hid (rints_any w4.heap.size 4 [c, p, c', p'] _ rfl (by omega) (by omega) hz HZB.out)
  replace b1 := b1.alloc b1.size (.cells #[.int .i64 c, .int .i64 p, .int .i64 c', .int .i64 p'] 3)
  have hk5 := hk4.alloc (.cells #[.int .i64 c, .int .i64 p, .int .i64 c', .int .i64 p'] 3)
  have ho5 := ho4.alloc (.cells #[.int .i64 c, .int .i64 p, .int .i64 c', .int .i64 p'] 3)
  clear hz hk4 ho4 c1 c2 c3 c4
  refine CI.out.mono ?_
  rintro e w5 ⟨v5, rfl, ho6, k5⟩
  obtain ⟨A5, c5, rfl, hs5⟩ := ownsRow_bs ho6 hep
  replace b1 := bl b1 k5
  replace hk5 := hk5.below k5
  have hown5 := owns_below k5 ho5
  have z5 : g2 + 3 ≤ w5.heap.size := Nat.le_trans z4 (Nat.le_trans (by simp) k5.size)
  clear CI ho6 k5 ho5 z4
  go_wp2_with (at_builtin; refine wpList_append_bs rfl (.tmp 32) (.tmp 42) rfl (g2 + 3) 64 (encL [c, p, c', p']).length c5 _ _ _ (encL [c, p, c', p']) rfl rfl hown5 hs5 (by omega) z5 ?_)
  intro v6 w6 ho6 hb6
  have kb : Below (g2 + 3) w5 w6 := hb6 w5 (Below.refl _ _)
  replace b1 := b1.trans (kb.mono (by have := HG.out; omega))
  have hk6 : Bk w6 [(g2 + 2, nd0.arr), (g2 + 1, B), (g2, A)] := fun q hq => (hk5 q hq).below kb (by simp at hq; rcases hq with rfl | rfl | rfl <;> simp <;> omega)
  obtain ⟨A6, c6, rfl, hs6⟩ := ownsRow_bs ho6 (by omega)
  have hs6d : BS w6.drew A6 (64 + (encL [c, p, c', p']).length) c6 (da ++ db ++ encL [c, p, c', p']) := by
    rw [List.append_assoc] at *
    exact hs6.below (Below.refl _ w6).drew
  have CT := Lib.hid (HCT.out w6.drew A6 _ c6 hs6d (by omega))
  clear ho6 hb6 kb hown5 hs5 hs6 hs6d hk5 z5
  go_upto_region 6 with fail
  have s0 : JF w g2 (g2 + 1) (g2 + 2) A B c p c' p' w6.drew := ⟨((hk6 (g2, A) (by simp)).cell 32).trans G.out.1, ((hk6 (g2, A) (by simp)).cell 33).trans G.out.2.1, ((hk6 (g2 + 1, B) (by simp)).cell 32).trans G.out.2.2.1, ((hk6 (g2 + 1, B) (by simp)).cell 33).trans G.out.2.2.2, ⟨nd0.arr, hk6 (g2 + 2, nd0.arr) (by simp), rfl⟩, hk6 (g2, A) (by simp), hk6 (g2 + 1, B) (by simp), b1.drew⟩
  have hgb : w.heap.size ≤ g2 + 2 := by have := HG.out; omega
  have n2 : g2 ≠ g2 + 2 := by omega
  have n3 : g2 + 1 ≠ g2 + 2 := by omega
  clear hk6 b1
  go_region_held3 (fun W => W.cell? ⟨g2, 32, none⟩ = some (.int .i64 c) ∧ W.cell? ⟨g2, 33, none⟩ = some (.int .i64 p) ∧ W.cell? ⟨g2 + 1, 32, none⟩ = some (.int .i64 c') ∧ W.cell? ⟨g2 + 1, 33, none⟩ = some (.int .i64 p') ∧ At46 W (g2 + 2) ∧ Blk W g2 46 A ∧ Blk W (g2 + 1) 46 B ∧ Below w.heap.size w W)
    (first | exact s0 | exact s7 | exact jfx_row s7 n2 n3 hgb oX.1)
    (first | (go_at_call 77; refine CT.out.mono ?_; rintro e w7 ⟨rfl, k7⟩; have s7 := jfx_next s0 k7))
  have hR := at46_set s7.2.2.2.2.1 X
  have bR : Below w.heap.size w (w7.setRow (g2 + 2) X) := below_setRow s7.2.2.2.2.2.2.2 hgb _
  clear s0
  generalize w7.setRow (g2 + 2) X = W9 at hR bR ⊢
  go_wp2_with fail
  refine bodyPost_ret (v := .tuple #[.agg X, .int .i64 0]) ?_ rfl ⟨rfl, bR⟩
  exact results_node rfl hR oX.1 rfl rfl
theorem rjoin_any (a b : Nd) (w : World) (ha : a.d.length = 32) (hb : b.d.length = 32) : Calls Tryd.prog 45 #[.agg a.arr, .agg b.arr] w fun e w' => e = .returned (.tuple #[.agg (joinR a b).arr, .int .i64 (joinE a b)]) ∧ Below w.heap.size w w' := by
  unfold joinR joinE
  cases hv : validB [a, b]
  · exact rjoin_no a b w ha hb hv
  · exact rjoin_yes a b w ha hb hv
end Go.Proofs.YtedokiemlkccaaaDoor
