/- The walk of SignNonce. -/
import Derived.Test.YtedokiemlkccaaaDoorT
import Derived.Outline
namespace Go.Proofs.YtedokiemlkccaaaDoor
open Go.RowKit
theorem own_more {w : World} {B B' n : Nat} {v : Value} {xs : List Value} (h : w.ownsRow B 5 1 v n xs) (hB : B' ≤ B) : w.ownsRow B' 5 1 v n xs := by
  refine ⟨h.1, ?_⟩
  rcases h.2 with hn | ⟨g, cap, cur, rfl, hb, hgg, rest⟩
  · exact .inl hn
  · exact .inr ⟨g, cap, cur, rfl, Nat.le_trans hB hb, hgg, rest⟩
/-- append(b, c...) where it stands under a guard that holds. -/
theorem wpList_append_bs_w {w : World} {ops : Array Oper} {rest : List Oper} {o : Oper} {a : Act} {Q : Exit → Act → World → Prop} (hw : Region.wanted o (yielded ops a.tmps) = true) (s x : Operand)
    (ho : o.op = .call { callee := .builtin .append, args := #[s, x], argTypes := #[22, 22] }) (B n m c : Nat) (v : Value) (A : Option Addr) (l1 l2 : List UInt8) (hs : a.eval s = v) (hx : a.eval x = .slice A m c)
    (hown : w.ownsRow B 5 1 v n (u8s l1)) (h2 : BS w A m c l2) (hsum : n + m ≤ 100000000) (hbase : B ≤ w.heap.size)
    (h : ∀ v' w', w'.ownsRow B 5 1 v' (n + m) (u8s (l1 ++ l2)) → (∀ W0, Below B W0 w → Below B W0 w') → wpList Tryd.prog ops Q rest (a.put o.dst v') w') : wpList Tryd.prog ops Q (o :: rest) a w := by
  have hd : wpList Tryd.prog ops Q ({ o with guard := none } :: rest) a w := wpList_append_bs (o := { o with guard := none }) rfl s x ho B n m c v A l1 l2 hs hx hown h2 hsum hbase h
  unfold wpList at hd ⊢
  have hw' : Region.wanted { o with guard := none } (yielded ops a.tmps) = true := rfl
  rw [if_pos hw'] at hd
  rw [if_pos hw]
  exact hd
theorem key_yes (n x : Int) (h : keyV n = x) (W : World) : Calls Tryd.prog 22 #[.int .i64 n] W fun e w' => e = .returned (.int .i64 x) ∧ W = w' := h ▸ rkey_any n W
set_option maxRecDepth 100000 in
set_option maxHeartbeats 4000000 in
theorem nonce_yes (z : Int) (A : Option Addr) (n c : Nat) (l : List UInt8) (w : World) (hn : n ≤ 1000) (h : BS w A n c l) (hT : Tabs w) :
    Calls Tryd.prog 3 #[.int .i64 z, .slice A n c] w fun e w' => e = .returned (.bool true) ∧ Below w.heap.size w w' := by
  have t1 : ¬ (1000 : Int) < (n : Int) := by omega
  have hx := keyV_key z
  obtain ⟨x, hxe⟩ : ∃ x, keyV z = x := ⟨_, rfl⟩
  have C0 := Lib.hid (sane04_any w hT)
  have CK := Lib.hid fun W => key_yes z x hxe W
  rw [hxe] at hx
  obtain ⟨hk, hp, hR, hc, hS⟩ := sig_ok hx l
  have cs := fun (W : World) (hb : Below w.heap.size w W) => sign_yes x A n c l W hx (h.below hb) hn (hT.ext hb)
  have cP := fun W => public_yes x W hx
  have cN := fun (W : World) (A4 : Option Addr) (c4 : Nat) (hb : Below w.heap.size w W) (hs : BS W A4 (8 + n) c4 (numB x ++ l)) => scalar_any nonceS A4 (8 + n) c4 (numB x ++ l) W (by decide) hs (by omega) (hT.ext hb)
  have cC := fun (W : World) (hb : Below w.heap.size w W) => challenge_any (expV 4 x) (sigR x l) A n c l W (h.below hb) hn (hT.ext hb)
  have hS2 : sigS x l = sumV (nonceV x l) (prodV (chV (expV 4 x) (sigR x l) l) x) := by unfold sigS; exact rfl
  have hR2 : sigR x l = expV 4 (nonceV x l) := by unfold sigR; exact rfl
  have hN2 : ((scalN (tagB nonceS (numB x ++ l)) : Nat) : Int) = nonceV x l := rfl
  simp only [hN2] at cN
  obtain ⟨p, hpe⟩ : ∃ p, expV 4 x = p := ⟨_, rfl⟩
  obtain ⟨R, hRe⟩ : ∃ R, sigR x l = R := ⟨_, rfl⟩
  obtain ⟨S, hSe⟩ : ∃ S, sigS x l = S := ⟨_, rfl⟩
  obtain ⟨k, hke⟩ : ∃ k, nonceV x l = k := ⟨_, rfl⟩
  rw [hpe, hRe] at hc
  rw [hSe, hke, hpe, hRe] at hS2
  rw [hRe, hke] at hR2
  simp only [hpe, hRe] at cC
  simp only [hke] at cN
  simp only [hRe, hSe] at cs
  simp only [hpe] at cP
  obtain ⟨ch, hche⟩ : ∃ ch, chV p R l = ch := ⟨_, rfl⟩
  rw [hche] at hc hS2
  simp only [hche] at cC
  have hm := prod_scal hc (key_scal hx)
  obtain ⟨m, hme⟩ : ∃ m, prodV ch x = m := ⟨_, rfl⟩
  have c25 := fun W => prod_el hc (key_scal hx) W
  simp only [hme] at c25
  rw [hme] at hm hS2
  rw [hSe] at hS
  rw [hke] at hk
  have c27 := fun W => minus_any S m W hS hm.1
  have hmb : sumV S (prodV 2305843009213688668 m) = k := by rw [hS2]; exact minus_back hk hm.1
  simp only [hmb] at c27
  have c28 := fun W => base_yes hk W
  simp only [← hR2] at c28
  have CS := Lib.hid cs; have CP := Lib.hid cP; have CN := Lib.hid cN; have CC := Lib.hid cC
  have C25 := Lib.hid c25; have C27 := Lib.hid c27; have C28 := Lib.hid c28
  have HM := Lib.hid h
  clear cs cP cN cC c25 c27 c28 hmb hm hk hp hR hc hS hS2 hR2 hN2 hpe hRe hSe hke hche hme hx hxe h hT
  go_enter Tryd.func3, Tryd.ntmps3
  go_wp2_with fail
  refine C0.out.mono ?_
  rintro e w1 ⟨rfl, b1⟩
  go_wp2_with fail
  refine (CK.out _).mono ?_
  rintro e w2 ⟨rfl, rfl⟩
  go_wp2_with fail
  refine (CP.out _).mono ?_
  rintro e w2 ⟨rfl, b2⟩
  have b2 := bl b1 b2
  go_wp2_with fail
  refine (CS.out _ b2).mono ?_
  rintro e w3 ⟨rfl, b3⟩
  have b3 := bl b2 b3
  go_wp2_with fail
  have hA : Blk (w3.alloc (.cells #[.int .i64 R, .int .i64 S] 29)) w3.heap.size 29 #[.int .i64 R, .int .i64 S] := Blk.new _ _ _
  have b4 := b3.alloc b3.size (.cells #[.int .i64 R, .int .i64 S] 29)
  generalize w3.alloc (.cells #[.int .i64 R, .int .i64 S] 29) = w4 at hA b4 ⊢
  obtain ⟨g, hg⟩ : ∃ g, w3.heap.size = g := ⟨_, rfl⟩
  rw [hg] at hA ⊢
  clear hg b3
  refine (CC.out _ b4).mono ?_
  rintro e w5 ⟨rfl, c5⟩
  have hA := hA.below c5 hA.lt
  have b5 := bl b4 c5
  clear b4
  go_wp2_with fail
  refine (C25.out _).mono ?_
  rintro e w6 ⟨rfl, c6⟩
  have hA := hA.below c6 hA.lt
  have b6 := bl b5 c6
  have a0 := hA.cell 0
  have a1 := hA.cell 1
  clear b5
  go_wp2_with fail
  refine (C27.out _).mono ?_
  rintro e w7 ⟨rfl, c7⟩
  have hA := hA.below c7 hA.lt
  have b7 := bl b6 c7
  clear a0 a1
  go_wp2_with fail
  refine (C28.out _).mono ?_
  rintro e w8 ⟨rfl, c8⟩
  have hA := hA.below c8 hA.lt
  have b8 := bl b7 c8
  have a0 := hA.cell 0
  have a1 := hA.cell 1
  go_wp2_with fail
  refine (lnumber_any _ _).mono ?_
  rintro e w9 ⟨A9, c9, rfl, ho9, k9⟩
  have b9 := bl b8 k9
  have s9 := (HM.out).below b9
  have ho10 := own_more ho9 b8.size
  have z9 := b9.size
  clear ho9
  go_wp2_with (at_builtin; refine wpList_append_bs_w (by first | rfl | simp [Region.wanted, yielded]) _ _ rfl w.heap.size 8 n c _ _ _ _ rfl rfl ho10 s9 (by omega) z9 ?_)
  intro v10 w10 ho11 hb10
  have b10 := hb10 _ b9
  obtain ⟨A4, c4, rfl, hs4⟩ := ownsRow_bs ho11 (by omega)
  have cN := CN.out _ _ _ b10 hs4
  have CNN := Lib.hid cN
  clear cN hs4 ho11 hb10 ho10 s9
  go_wp2_with fail
  refine CNN.out.mono ?_
  rintro e w11 ⟨rfl, c11⟩
  go_wp2_with fail
  go_ret
  exact ⟨by simp, bl b10 c11⟩
theorem nonce_no (z : Int) (A : Option Addr) (n c : Nat) (w : World) (hn : 1000 < n) (hT : Tabs w) :
    Calls Tryd.prog 3 #[.int .i64 z, .slice A n c] w fun e w' => e = .returned (.bool true) ∧ Below w.heap.size w w' := by
  have t1 : (1000 : Int) < (n : Int) := by omega
  have C0 := Lib.hid (sane04_any w hT)
  clear hT
  go_enter Tryd.func3, Tryd.ntmps3
  go_wp2_with fail
  refine C0.out.mono ?_
  rintro e w1 ⟨rfl, b1⟩
  go_wp2_with fail
  go_ret
  exact ⟨rfl, b1⟩
/-- SignNonce, of whatever comes in. -/
theorem nonce_walk (z : Int) (A : Option Addr) (n c : Nat) (l : List UInt8) (w : World) (h : BS w A n c l) (hT : Tabs w) :
    Calls Tryd.prog 3 #[.int .i64 z, .slice A n c] w fun e w' => e = .returned (.bool true) ∧ Below w.heap.size w w' := by
  by_cases hn : n ≤ 1000
  · exact nonce_yes z A n c l w hn h hT
  · exact nonce_no z A n c w (by omega) hT
end Go.Proofs.YtedokiemlkccaaaDoor
