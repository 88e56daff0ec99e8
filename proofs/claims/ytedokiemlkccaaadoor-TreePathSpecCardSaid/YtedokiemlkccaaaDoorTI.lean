/- The walk of TreeLimits. -/
import Derived.Test.YtedokiemlkccaaaDoorTG
set_option linter.all false
namespace Go.Proofs.YtedokiemlkccaaaDoor
open Go.RowKit
open Go.RowKit Go.Shelf
attribute [local go_sem] Oper.semAt_some
attribute [local go_sem ↓] ld46_in st46_in bs46_in
attribute [local go_sem] st_new sl_one sl_two sl_three
set_option maxRecDepth 100000 in
set_option maxHeartbeats 1000000 in
theorem valid1_any (n : Nd) (w : World) (hd : n.d.length = 32) : Calls Tryd.prog 53 #[.agg n.arr] w fun e w' => e = .returned (.bool n.ok) ∧ Below w.heap.size w w' := by
  have hB : Blk (w.alloc (.cells n.arr 46)) w.heap.size 46 n.arr := Blk.new _ _ _
  have c1 := (hB.cell 32).trans (n.get32 hd)
  have c2 := (hB.cell 33).trans (n.get33 hd)
  have b : Below w.heap.size w (w.alloc (.cells n.arr 46)) := (Below.refl _ w).alloc (Nat.le_refl _) _
  have hok : n.ok = decide (0 ≤ n.c ∧ n.c ≤ 1073741824 ∧ 0 ≤ n.p ∧ n.p ≤ 12 * n.c) := rfl
  obtain ⟨C, hC⟩ : ∃ C, n.c = C := ⟨_, rfl⟩
  obtain ⟨P, hP⟩ : ∃ P, n.p = P := ⟨_, rfl⟩
  rw [hC] at c1 hok
  rw [hP] at c2 hok
  obtain ⟨K, hK⟩ : ∃ K, n.ok = K := ⟨_, rfl⟩
  rw [hK] at hok ⊢
  have HOK := Lib.hid hok
  have HB := Lib.hid b
  clear hok hK hC hP b hB
  by_cases d0 : 0 ≤ C
  · by_cases d1 : C ≤ 1073741824
    · by_cases d2 : 0 ≤ P
      · by_cases d3 : P ≤ 12 * C
        · have e3 : K = true := by rw [HOK.out]; exact decide_eq_true ⟨d0, d1, d2, d3⟩
          have HK := Lib.hid e3
          clear e3
          go_enter Tryd.func53, Tryd.ntmps53
          go_wp2_with fail
          go_ret
          exact ⟨by rw [HK.out]; rfl, HB.out⟩
        · have e3 : K = false := by rw [HOK.out]; exact decide_eq_false (fun h => d3 h.2.2.2)
          have HK := Lib.hid e3
          clear e3
          go_enter Tryd.func53, Tryd.ntmps53
          go_wp2_with fail
          go_ret
          exact ⟨by rw [HK.out]; rfl, HB.out⟩
      · have e3 : K = false := by rw [HOK.out]; exact decide_eq_false (fun h => d2 h.2.2.1)
        have HK := Lib.hid e3
        clear e3
        go_enter Tryd.func53, Tryd.ntmps53
        go_wp2_with fail
        go_ret
        exact ⟨by rw [HK.out]; rfl, HB.out⟩
    · have e3 : K = false := by rw [HOK.out]; exact decide_eq_false (fun h => d1 h.2.1)
      have HK := Lib.hid e3
      clear e3
      go_enter Tryd.func53, Tryd.ntmps53
      go_wp2_with fail
      go_ret
      exact ⟨by rw [HK.out]; rfl, HB.out⟩
  · have e3 : K = false := by rw [HOK.out]; exact decide_eq_false (fun h => d0 h.1)
    have HK := Lib.hid e3
    clear e3
    go_enter Tryd.func53, Tryd.ntmps53
    go_wp2_with fail
    go_ret
    exact ⟨by rw [HK.out]; rfl, HB.out⟩
open Go.RowKit Go.Shelf
attribute [local go_sem] Oper.semAt_some
attribute [local go_sem ↓] ld46_in st46_in bs46_in
attribute [local go_sem] st_new sl_one sl_two sl_three
theorem validB_two (a b : Nd) : validB [a, b] = (a.ok && b.ok && decide (a.c + b.c ≤ 1073741824)) := by
  unfold validB
  rw [List.all_cons, List.all_cons, List.all_nil, Bool.and_true, sumC, sumC, sumC, Int.add_zero]
theorem validB_swap (a b : Nd) : validB [b, a] = validB [a, b] := by
  rw [validB_two, validB_two, Int.add_comm, Bool.and_comm b.ok]
theorem Nd.ok_parts {n : Nd} (h : n.ok = true) : 0 ≤ n.c ∧ n.c ≤ 1073741824 ∧ 0 ≤ n.p ∧ n.p ≤ 12 * n.c := of_decide_eq_true h
set_option maxRecDepth 100000 in
set_option maxHeartbeats 2000000 in
theorem limits_no (a b : Nd) (w : World) (ha : a.d.length = 32) (hb : b.d.length = 32) (hT : Tabs w) (hv : validB [a, b] = false) : Calls Tryd.prog 11 #[.agg a.arr, .agg b.arr] w fun e w' => e = .returned (.bool true) ∧ Below w.heap.size w w' := by
  have oA := okX a ha
  have oB := okX b hb
  have o0 := okX nd0 rfl
  have C0 := Lib.hid fun (W : World) (h : Below w.heap.size w W) => sane41_any W (hT.ext h)
  have cJ := fun (W : World) => join_no a b W ha hb hv
  have cJ' := fun (W : World) => join_no b a W hb ha (by rw [validB_swap]; exact hv)
  have cV := fun (W : World) => valid1_any a W ha
  have cV' := fun (W : World) => valid1_any b W hb
  have ga := a.get32 ha
  have gb := b.get32 hb
  have hcond : a.ok = true → b.ok = true → ¬ a.c + b.c ≤ 1073741824 := fun h1 h2 h3 => by
    rw [validB_two, h1, h2, decide_eq_true h3] at hv; cases hv
  have hpa : a.ok = true → 0 ≤ a.c ∧ a.c ≤ 1073741824 := fun h => ⟨(Nd.ok_parts h).1, (Nd.ok_parts h).2.1⟩
  have hpb : b.ok = true → 0 ≤ b.c ∧ b.c ≤ 1073741824 := fun h => ⟨(Nd.ok_parts h).1, (Nd.ok_parts h).2.1⟩
  have hZ := fun W => eqN_self nd0 ▸ eq_node nd0 nd0 rfl rfl W
  obtain ⟨A, hA⟩ : ∃ A, a.arr = A := ⟨_, rfl⟩
  obtain ⟨B, hB⟩ : ∃ B, b.arr = B := ⟨_, rfl⟩
  obtain ⟨na, hna⟩ : ∃ na, nd0.arr = na := ⟨_, rfl⟩
  obtain ⟨C, hC⟩ : ∃ C, a.c = C := ⟨_, rfl⟩
  obtain ⟨D, hD⟩ : ∃ D, b.c = D := ⟨_, rfl⟩
  obtain ⟨va, hva⟩ : ∃ v, a.ok = v := ⟨_, rfl⟩
  obtain ⟨vb, hvb⟩ : ∃ v, b.ok = v := ⟨_, rfl⟩
  simp only [hA, hva] at oA cJ cJ' cV ga ⊢
  simp only [hB, hvb] at oB cJ cJ' cV' gb ⊢
  simp only [hna] at o0 cJ cJ' hZ
  rw [hC] at ga hcond hpa
  rw [hD] at gb hcond hpb
  rw [hva] at hcond hpa
  rw [hvb] at hcond hpb
  have hlit : (#[Value.int IntKind.u8 0, Value.int IntKind.u8 0, Value.int IntKind.u8 0, Value.int IntKind.u8 0, Value.int IntKind.u8 0, Value.int IntKind.u8 0, Value.int IntKind.u8 0, Value.int IntKind.u8 0, Value.int IntKind.u8 0, Value.int IntKind.u8 0, Value.int IntKind.u8 0, Value.int IntKind.u8 0, Value.int IntKind.u8 0, Value.int IntKind.u8 0, Value.int IntKind.u8 0, Value.int IntKind.u8 0, Value.int IntKind.u8 0, Value.int IntKind.u8 0, Value.int IntKind.u8 0, Value.int IntKind.u8 0, Value.int IntKind.u8 0, Value.int IntKind.u8 0, Value.int IntKind.u8 0, Value.int IntKind.u8 0, Value.int IntKind.u8 0, Value.int IntKind.u8 0, Value.int IntKind.u8 0, Value.int IntKind.u8 0, Value.int IntKind.u8 0, Value.int IntKind.u8 0, Value.int IntKind.u8 0, Value.int IntKind.u8 0, Value.int IntKind.i64 0, Value.int IntKind.i64 0] : Array Value) = na := hna
  have hs : na.size = 34 := o0.1
  have CJ := Lib.hid cJ; have CJ' := Lib.hid cJ'; have CV := Lib.hid cV; have CV' := Lib.hid cV'; have GA := Lib.hid ga; have GB := Lib.hid gb; have HC := Lib.hid hcond; have HPA := Lib.hid hpa; have HPB := Lib.hid hpb
  clear cJ cJ' cV cV' ga gb hcond hpa hpb hA hB hC hD hva hvb hv hT hna ha hb
  go_enter Tryd.func11, Tryd.ntmps11
  go_upto_region 1 with fail
  have hk := ((Bk.nil w).new A).new B
  have b : Below w.heap.size w ((w.alloc (.cells A 46)).alloc (.cells B 46)) := ((Below.refl _ w).alloc (Nat.le_refl _) _).alloc (by simp) _
  rw [World.size_alloc] at hk
  generalize (w.alloc (.cells A 46)).alloc (.cells B 46) = w1 at hk b ⊢
  obtain ⟨g2, hg2⟩ : ∃ g, w.heap.size = g := ⟨_, rfl⟩
  obtain ⟨g3, hg3⟩ : ∃ g, w.heap.size + 1 = g := ⟨_, rfl⟩
  rw [hg3, hg2] at hk ⊢
  have hg23 : g2 ≠ g3 := by omega
  clear hg2 hg3
  go_wp2_with fail
  refine (C0.out _ b).mono ?_
  rintro e w2 ⟨rfl, k⟩
  replace hk := hk.below k
  replace b := bl b k
  have l0 := ld_blk (hk (g2, A) (by simp)) oA
  have l1 := ld_blk (hk (g3, B) (by simp)) oB
  clear k
  go_wp2_with fail
  refine (CJ.out _).mono ?_
  rintro e w3 ⟨rfl, k⟩
  replace hk := hk.below k
  replace b := bl b k
  clear l0 l1 k
  go_upto_region 5 with fail
  replace hk := hk.new na
  replace b := b.alloc b.size (.cells na 46)
  obtain ⟨g6, hg6⟩ : ∃ g, w3.heap.size = g := ⟨_, rfl⟩
  rw [hg6] at hk ⊢
  generalize w3.alloc (.cells na 46) = w4 at hk b ⊢
  clear hg6
  have l0 := ld_blk (hk (g2, A) (by simp)) oA
  have l1 := ld_blk (hk (g3, B) (by simp)) oB
  go_wp2_with fail
  refine (CJ'.out _).mono ?_
  rintro e w5 ⟨rfl, k⟩
  replace hk := hk.below k
  replace b := bl b k
  clear l0 l1 k
  go_upto_region 6 with fail
  replace hk := hk.new na
  replace b := b.alloc b.size (.cells na 46)
  obtain ⟨g8, hg8⟩ : ∃ g, w5.heap.size = g := ⟨_, rfl⟩
  rw [hg8] at hk ⊢
  generalize w5.alloc (.cells na 46) = w6 at hk b ⊢
  clear hg8
  have l0 := ld_blk (hk (g2, A) (by simp)) oA
  go_wp2_with fail
  refine (CV.out _).mono ?_
  rintro e w7 ⟨rfl, k⟩
  replace hk := hk.below k
  replace b := bl b k
  clear l0 k
  have l0 := ld_blk (hk (g6, na) (by simp)) o0
  cases va
  · go_wp2_with fail
    go_ret
    exact ⟨rfl, b⟩
  · have l1 := ld_blk (hk (g3, B) (by simp)) oB
    go_wp2_with fail
    refine (CV'.out _).mono ?_
    rintro e w8 ⟨rfl, k⟩
    replace hk := hk.below k
    replace b := bl b k
    clear l0 l1 k
    have l0 := ld_blk (hk (g6, na) (by simp)) o0
    cases vb
    · go_wp2_with fail
      go_ret
      exact ⟨rfl, b⟩
    · have q1 : 0 ≤ C ∧ C ≤ 1073741824 := by have := HPA.out; simpa using this
      have q2 : 0 ≤ D ∧ D ≤ 1073741824 := by have := HPB.out; simpa using this
      have q3 : 1073741824 < C + D := by have := HC.out; simpa using this
      have c1 : w8.cell? ⟨g2, 32, none⟩ = some (.int .i64 C) := ((hk (g2, A) (by simp)).cell 32).trans GA.out
      have c2 : w8.cell? ⟨g3, 32, none⟩ = some (.int .i64 D) := ((hk (g3, B) (by simp)).cell 32).trans GB.out
      have q4 : IntKind.i64.wrap (C + D) = C + D := IntWalk.i64_in _ (by omega)
      obtain ⟨S, hS⟩ : ∃ S, C + D = S := ⟨_, rfl⟩
      rw [hS] at q3 q4
      have q5 : decide (S ≤ 1073741824) = false := decide_eq_false (by omega)
      rw [← hS] at q4 q5
      clear q1 q2 q3 hS
      go_wp2_with fail
      go_ret
      exact ⟨rfl, b⟩
open Go.RowKit Go.Shelf
attribute [local go_sem] Oper.semAt_some
attribute [local go_sem ↓] ld46_in st46_in bs46_in
attribute [local go_sem] st_new sl_one sl_two sl_three
theorem join_ok {a b : Nd} (hv : validB [a, b] = true) : (joinV a b).ok = true := by
  rw [validB_two, Bool.and_eq_true, Bool.and_eq_true] at hv
  have h1 := Nd.ok_parts hv.1.1
  have h2 := Nd.ok_parts hv.1.2
  have h3 := of_decide_eq_true hv.2
  exact decide_eq_true (by show 0 ≤ a.c + b.c ∧ a.c + b.c ≤ 1073741824 ∧ 0 ≤ a.p + b.p ∧ a.p + b.p ≤ 12 * (a.c + b.c); omega)
theorem join_zero {n : Nd} (h : n.ok = true) : validB [n, nd0] = true := by
  have h1 := Nd.ok_parts h
  rw [validB_two, h, Bool.true_and, show nd0.ok = true from rfl, Bool.true_and]
  exact decide_eq_true (by show n.c + 0 ≤ 1073741824; omega)
set_option maxRecDepth 100000 in
set_option maxHeartbeats 2000000 in
theorem limits_yes (a b : Nd) (w : World) (ha : a.d.length = 32) (hb : b.d.length = 32) (hT : Tabs w) (hv : validB [a, b] = true) : Calls Tryd.prog 11 #[.agg a.arr, .agg b.arr] w fun e w' => e = .returned (.bool true) ∧ Below w.heap.size w w' := by
  have hvp := hv
  rw [validB_two, Bool.and_eq_true, Bool.and_eq_true] at hvp
  have pa := Nd.ok_parts hvp.1.1
  have pb := Nd.ok_parts hvp.1.2
  have ps := of_decide_eq_true hvp.2
  have hN := join_ok hv
  have hZ := join_zero hN
  have dN : (joinV a b).d.length = 32 := joinV_len _ _
  have oA := okX a ha
  have oB := okX b hb
  have oN := okX _ (joinV_len a b)
  have oM := okX _ (joinV_len b a)
  have oZ := okX _ (joinV_len (joinV a b) nd0)
  have o0 := okX nd0 rfl
  have C0 := Lib.hid fun (W : World) (h : Below w.heap.size w W) => sane41_any W (hT.ext h)
  have cJ := fun (W : World) (h : Below w.heap.size w W) => join_yes a b W ha hb hv (hT.ext h)
  have cJ' := fun (W : World) (h : Below w.heap.size w W) => join_yes b a W hb ha (by rw [validB_swap]; exact hv) (hT.ext h)
  have cZ := fun (W : World) (h : Below w.heap.size w W) => join_yes (joinV a b) nd0 W dN rfl hZ (hT.ext h)
  have cV := fun (W : World) => valid1_any a W ha
  have cV' := fun (W : World) => valid1_any b W hb
  have cN := fun (W : World) => valid1_any (joinV a b) W dN
  rw [hvp.1.1] at cV
  rw [hvp.1.2] at cV'
  rw [hN] at cN
  have ga := a.get32 ha
  have gb := b.get32 hb
  have ga' := a.get33 ha
  have gb' := b.get33 hb
  have gn := (joinV a b).get32 (joinV_len a b)
  have gn' := (joinV a b).get33 (joinV_len a b)
  have gm := (joinV b a).get32 (joinV_len b a)
  have gm' := (joinV b a).get33 (joinV_len b a)
  have gz := (joinV (joinV a b) nd0).get32 (joinV_len _ _)
  have gz' := (joinV (joinV a b) nd0).get33 (joinV_len _ _)
  rw [show (joinV (joinV a b) nd0).c = (joinV a b).c from Int.add_zero _] at gz
  rw [show (joinV (joinV a b) nd0).p = (joinV a b).p from Int.add_zero _] at gz'
  rw [show (joinV b a).c = (joinV a b).c from Int.add_comm _ _] at gm
  rw [show (joinV b a).p = (joinV a b).p from Int.add_comm _ _] at gm'
  have hS : (joinV a b).c = a.c + b.c := rfl
  have hP : (joinV a b).p = a.p + b.p := rfl
  obtain ⟨Z, hZa⟩ : ∃ Z, (joinV (joinV a b) nd0).arr = Z := ⟨_, rfl⟩
  rw [hZa] at gz gz' oZ
  simp only [hZa] at cZ
  clear hZa
  obtain ⟨M, hM⟩ : ∃ M, (joinV b a).arr = M := ⟨_, rfl⟩
  rw [hM] at gm gm' oM
  simp only [hM] at cJ'
  obtain ⟨N, hNa⟩ : ∃ N, (joinV a b).arr = N := ⟨_, rfl⟩
  rw [hNa] at gn gn' oN
  simp only [hNa] at cJ cZ cN
  obtain ⟨A, hA⟩ : ∃ A, a.arr = A := ⟨_, rfl⟩
  obtain ⟨B, hB⟩ : ∃ B, b.arr = B := ⟨_, rfl⟩
  obtain ⟨na, hna⟩ : ∃ na, nd0.arr = na := ⟨_, rfl⟩
  obtain ⟨C, hC⟩ : ∃ C, a.c = C := ⟨_, rfl⟩
  obtain ⟨D, hD⟩ : ∃ D, b.c = D := ⟨_, rfl⟩
  obtain ⟨P, hPa⟩ : ∃ C, a.p = C := ⟨_, rfl⟩
  obtain ⟨R, hRb⟩ : ∃ D, b.p = D := ⟨_, rfl⟩
  obtain ⟨S, hSa⟩ : ∃ S, (joinV a b).c = S := ⟨_, rfl⟩
  obtain ⟨T, hTa⟩ : ∃ S, (joinV a b).p = S := ⟨_, rfl⟩
  rw [hSa] at gn gm gz hS
  rw [hTa] at gn' gm' gz' hP
  simp only [hA] at oA cJ cJ' cV ga ga' ⊢
  simp only [hB] at oB cJ cJ' cV' gb gb' ⊢
  simp only [hna] at o0 cZ
  rw [hC] at ga hS pa ps
  rw [hD] at gb hS pb ps
  rw [hPa] at ga' hP pa
  rw [hRb] at gb' hP pb
  have w1 : IntKind.i64.wrap (C + D) = S := by rw [IntWalk.i64_in _ (by omega), hS]
  have w2 : IntKind.i64.wrap (P + R) = T := by rw [IntWalk.i64_in _ (by omega), hP]
  have w3 : S ≤ 1073741824 := by omega
  have hlit : (#[Value.int IntKind.u8 0, Value.int IntKind.u8 0, Value.int IntKind.u8 0, Value.int IntKind.u8 0, Value.int IntKind.u8 0, Value.int IntKind.u8 0, Value.int IntKind.u8 0, Value.int IntKind.u8 0, Value.int IntKind.u8 0, Value.int IntKind.u8 0, Value.int IntKind.u8 0, Value.int IntKind.u8 0, Value.int IntKind.u8 0, Value.int IntKind.u8 0, Value.int IntKind.u8 0, Value.int IntKind.u8 0, Value.int IntKind.u8 0, Value.int IntKind.u8 0, Value.int IntKind.u8 0, Value.int IntKind.u8 0, Value.int IntKind.u8 0, Value.int IntKind.u8 0, Value.int IntKind.u8 0, Value.int IntKind.u8 0, Value.int IntKind.u8 0, Value.int IntKind.u8 0, Value.int IntKind.u8 0, Value.int IntKind.u8 0, Value.int IntKind.u8 0, Value.int IntKind.u8 0, Value.int IntKind.u8 0, Value.int IntKind.u8 0, Value.int IntKind.i64 0, Value.int IntKind.i64 0] : Array Value) = na := hna
  have hs : na.size = 34 := o0.1
  have CJ := Lib.hid cJ; have CJ' := Lib.hid cJ'; have CV := Lib.hid cV; have CV' := Lib.hid cV'; have CN := Lib.hid cN; have CZ := Lib.hid cZ
  have G := Lib.hid (And.intro ga (And.intro ga' (And.intro gb (And.intro gb' (And.intro gn (And.intro gn' (And.intro gm (And.intro gm' (And.intro gz gz')))))))))
  clear cJ cJ' cV cV' cN cZ ga gb gn gm gz ga' gb' gn' gm' gz' hA hB hC hD hPa hRb hSa hTa hS hP hv hvp hT hna ha hb pa pb ps hN hZ dN hM hNa
  go_enter Tryd.func11, Tryd.ntmps11
  go_upto_region 1 with fail
  have hk := ((Bk.nil w).new A).new B
  have b : Below w.heap.size w ((w.alloc (.cells A 46)).alloc (.cells B 46)) := ((Below.refl _ w).alloc (Nat.le_refl _) _).alloc (by simp) _
  rw [World.size_alloc] at hk
  generalize (w.alloc (.cells A 46)).alloc (.cells B 46) = w1 at hk b ⊢
  obtain ⟨g2, hg2⟩ : ∃ g, w.heap.size = g := ⟨_, rfl⟩
  obtain ⟨g3, hg3⟩ : ∃ g, w.heap.size + 1 = g := ⟨_, rfl⟩
  rw [hg3, hg2] at hk ⊢
  clear hg2 hg3
  go_wp2_with fail
  refine (C0.out _ b).mono ?_
  rintro e w2 ⟨rfl, k⟩
  replace hk := hk.below k
  replace b := bl b k
  have l0 := ld_blk (hk (g2, A) (by simp)) oA
  have l1 := ld_blk (hk (g3, B) (by simp)) oB
  clear k
  go_wp2_with fail
  refine (CJ.out _ b).mono ?_
  rintro e w3 ⟨rfl, k⟩
  replace hk := hk.below k
  replace b := bl b k
  clear l0 l1 k
  go_upto_region 5 with fail
  replace hk := hk.new N
  replace b := b.alloc b.size (.cells N 46)
  obtain ⟨g6, hg6⟩ : ∃ g, w3.heap.size = g := ⟨_, rfl⟩
  rw [hg6] at hk ⊢
  generalize w3.alloc (.cells N 46) = w4 at hk b ⊢
  clear hg6
  have l0 := ld_blk (hk (g2, A) (by simp)) oA
  have l1 := ld_blk (hk (g3, B) (by simp)) oB
  go_wp2_with fail
  refine (CJ'.out _ b).mono ?_
  rintro e w5 ⟨rfl, k⟩
  replace hk := hk.below k
  replace b := bl b k
  clear l0 l1 k
  go_upto_region 6 with fail
  replace hk := hk.new M
  replace b := b.alloc b.size (.cells M 46)
  obtain ⟨g8, hg8⟩ : ∃ g, w5.heap.size = g := ⟨_, rfl⟩
  rw [hg8] at hk ⊢
  generalize w5.alloc (.cells M 46) = w6 at hk b ⊢
  clear hg8
  have l0 := ld_blk (hk (g2, A) (by simp)) oA
  go_wp2_with fail
  refine (CV.out _).mono ?_
  rintro e w7 ⟨rfl, k⟩
  replace hk := hk.below k
  replace b := bl b k
  clear l0 k
  have l1 := ld_blk (hk (g3, B) (by simp)) oB
  go_wp2_with fail
  refine (CV'.out _).mono ?_
  rintro e w8 ⟨rfl, k⟩
  replace hk := hk.below k
  replace b := bl b k
  clear l1 k
  have l0 := ld_blk (hk (g6, N) (by simp)) oN
  have c1 : w8.cell? ⟨g2, 32, none⟩ = some (.int .i64 C) := ((hk (g2, A) (by simp)).cell 32).trans G.out.1
  have c2 : w8.cell? ⟨g3, 32, none⟩ = some (.int .i64 D) := ((hk (g3, B) (by simp)).cell 32).trans G.out.2.2.1
  go_wp2_with fail
  refine (CZ.out _ b).mono ?_
  rintro e w9 ⟨rfl, k⟩
  replace hk := hk.below k
  replace b := bl b k
  clear l0 k c1 c2
  go_upto_region 12 with fail
  replace hk := hk.new Z
  replace b := b.alloc b.size (.cells Z 46)
  obtain ⟨g11, hg11⟩ : ∃ g, w9.heap.size = g := ⟨_, rfl⟩
  rw [hg11] at hk ⊢
  generalize w9.alloc (.cells Z 46) = w10 at hk b ⊢
  clear hg11
  have l0 := ld_blk (hk (g6, N) (by simp)) oN
  go_wp2_with fail
  refine (CN.out _).mono ?_
  rintro e w11 ⟨rfl, k⟩
  replace hk := hk.below k
  replace b := bl b k
  clear l0 k
  have c1 : w11.cell? ⟨g2, 32, none⟩ = some (.int .i64 C) := ((hk (g2, A) (by simp)).cell 32).trans G.out.1
  have c1' : w11.cell? ⟨g2, 33, none⟩ = some (.int .i64 P) := ((hk (g2, A) (by simp)).cell 33).trans G.out.2.1
  have c2 : w11.cell? ⟨g3, 32, none⟩ = some (.int .i64 D) := ((hk (g3, B) (by simp)).cell 32).trans G.out.2.2.1
  have c2' : w11.cell? ⟨g3, 33, none⟩ = some (.int .i64 R) := ((hk (g3, B) (by simp)).cell 33).trans G.out.2.2.2.1
  have c3 : w11.cell? ⟨g6, 32, none⟩ = some (.int .i64 S) := ((hk (g6, N) (by simp)).cell 32).trans G.out.2.2.2.2.1
  have c3' : w11.cell? ⟨g6, 33, none⟩ = some (.int .i64 T) := ((hk (g6, N) (by simp)).cell 33).trans G.out.2.2.2.2.2.1
  have c4 : w11.cell? ⟨g8, 32, none⟩ = some (.int .i64 S) := ((hk (g8, M) (by simp)).cell 32).trans G.out.2.2.2.2.2.2.1
  have c4' : w11.cell? ⟨g8, 33, none⟩ = some (.int .i64 T) := ((hk (g8, M) (by simp)).cell 33).trans G.out.2.2.2.2.2.2.2.1
  have c5 : w11.cell? ⟨g11, 32, none⟩ = some (.int .i64 S) := ((hk (g11, Z) (by simp)).cell 32).trans G.out.2.2.2.2.2.2.2.2.1
  have c5' : w11.cell? ⟨g11, 33, none⟩ = some (.int .i64 T) := ((hk (g11, Z) (by simp)).cell 33).trans G.out.2.2.2.2.2.2.2.2.2
  go_wp2_with fail
  go_ret
  exact ⟨rfl, b⟩
/-- TreeLimits, of whatever comes in. -/
theorem limits_walk (a b : Nd) (w : World) (ha : a.d.length = 32) (hb : b.d.length = 32) (hT : Tabs w) : Calls Tryd.prog 11 #[.agg a.arr, .agg b.arr] w fun e w' => e = .returned (.bool true) ∧ Below w.heap.size w w' := by
  cases hv : validB [a, b]
  · exact limits_no a b w ha hb hT hv
  · exact limits_yes a b w ha hb hT hv
end Go.Proofs.YtedokiemlkccaaaDoor
