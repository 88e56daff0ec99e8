/- The walks of SignVerifies and SignOnly. -/
import Derived.Test.YtedokiemlkccaaaDoorZ
import Derived.Outline
import Derived.Deep.RegionHeld3
namespace Go.Proofs.YtedokiemlkccaaaDoor
open Go.RowKit
set_option maxRecDepth 100000 in
set_option maxHeartbeats 4000000 in
theorem verifies_yes (z : Int) (A : Option Addr) (n c : Nat) (l : List UInt8) (w : World) (hn : n ≤ 1000) (h : BS w A n c l) (hT : Tabs w) :
    Calls Tryd.prog 18 #[.int .i64 z, .slice A n c] w fun e w' => e = .returned (.bool true) ∧ Below w.heap.size w w' := by
  have t1 : ¬ (1000 : Int) < (n : Int) := by omega
  have hx := keyV_key z
  obtain ⟨x, hxe⟩ : ∃ x, keyV z = x := ⟨_, rfl⟩
  have C0 := Lib.hid (sane04_any w hT)
  have CK := Lib.hid fun W => key_yes z x hxe W
  rw [hxe] at hx
  obtain ⟨hk, hp, hR, hc, hS⟩ := sig_ok hx l
  have hv := ver_sign hx l
  have cs := fun (W : World) (hb : Below w.heap.size w W) => sign_yes x A n c l W hx (h.below hb) hn (hT.ext hb)
  have cP := fun W => public_yes x W hx
  obtain ⟨p, hpe⟩ : ∃ p, expV 4 x = p := ⟨_, rfl⟩
  obtain ⟨R, hRe⟩ : ∃ R, sigR x l = R := ⟨_, rfl⟩
  obtain ⟨S, hSe⟩ : ∃ S, sigS x l = S := ⟨_, rfl⟩
  rw [hpe, hRe, hSe] at hv
  rw [hpe] at hp
  rw [hRe] at hR
  rw [hSe] at hS
  simp only [hRe, hSe] at cs
  simp only [hpe] at cP
  have cv := fun (W : World) (hb : Below w.heap.size w W) => verify_any p R S A n c l W (h.below hb) hn (hT.ext hb)
  simp only [hv] at cv
  have c39 := fun W => check_el hp W
  have d39 := fun W => check_el hR W
  have hSb := scalB_true hS
  have s0 : (0 : Int) ≤ S := hSb.1
  have s1 : S < 2305843009213688669 := hSb.2
  have CS := Lib.hid cs; have CP := Lib.hid cP; have CV := Lib.hid cv; have C39 := Lib.hid c39; have D39 := Lib.hid d39
  clear cs cP cv c39 d39 hv hk hp hR hc hS hSb hpe hRe hSe hx hxe h hT
  go_enter Tryd.func18, Tryd.ntmps18
  go_wp2_with fail
  refine C0.out.mono ?_
  rintro e w1 ⟨rfl, b1⟩
  go_wp2_with fail
  refine (CK.out _).mono ?_
  rintro e w2 ⟨rfl, rfl⟩
  go_wp2_with fail
  refine (CP.out _).mono ?_
  rintro e w2 ⟨rfl, b2⟩
  have b2 := bl b1 b2
  go_wp2_with fail
  refine (CS.out _ b2).mono ?_
  rintro e w3 ⟨rfl, b3⟩
  have b3 := bl b2 b3
  go_wp2_with fail
  have hA : Blk (w3.alloc (.cells #[.int .i64 R, .int .i64 S] 29)) w3.heap.size 29 #[.int .i64 R, .int .i64 S] := Blk.new _ _ _
  have b4 := b3.alloc b3.size (.cells #[.int .i64 R, .int .i64 S] 29)
  generalize w3.alloc (.cells #[.int .i64 R, .int .i64 S] 29) = w4 at hA b4 ⊢
  obtain ⟨g, hg⟩ : ∃ g, w3.heap.size = g := ⟨_, rfl⟩
  rw [hg] at hA ⊢
  clear hg b3
  refine (C39.out _).mono ?_
  rintro e w5 ⟨rfl, c5⟩
  have hA := hA.below c5 hA.lt
  have b5 := bl b4 c5
  have a0 := hA.cell 0
  have a1 := hA.cell 1
  clear b4
  go_wp2_with fail
  refine (D39.out _).mono ?_
  rintro e w6 ⟨rfl, c6⟩
  have hA := hA.below c6 hA.lt
  have b6 := bl b5 c6
  have a0 := hA.cell 0
  have a1 := hA.cell 1
  clear b5
  go_wp2_with fail
  refine (CV.out _ b6).mono ?_
  rintro e w7 ⟨rfl, c7⟩
  have b7 := bl b6 c7
  go_wp2_with fail
  go_ret
  exact ⟨by simp, b7⟩
theorem verifies_no (z : Int) (A : Option Addr) (n c : Nat) (w : World) (hn : 1000 < n) (hT : Tabs w) :
    Calls Tryd.prog 18 #[.int .i64 z, .slice A n c] w fun e w' => e = .returned (.bool true) ∧ Below w.heap.size w w' := by
  have t1 : (1000 : Int) < (n : Int) := by omega
  have C0 := Lib.hid (sane04_any w hT)
  clear hT
  go_enter Tryd.func18, Tryd.ntmps18
  go_wp2_with fail
  refine C0.out.mono ?_
  rintro e w1 ⟨rfl, b1⟩
  go_wp2_with fail
  go_ret
  exact ⟨rfl, b1⟩
/-- SignVerifies, of whatever comes in. -/
theorem verifies_walk (z : Int) (A : Option Addr) (n c : Nat) (l : List UInt8) (w : World) (h : BS w A n c l) (hT : Tabs w) :
    Calls Tryd.prog 18 #[.int .i64 z, .slice A n c] w fun e w' => e = .returned (.bool true) ∧ Below w.heap.size w w' := by
  by_cases hn : n ≤ 1000
  · exact verifies_yes z A n c l w hn h hT
  · exact verifies_no z A n c w (by omega) hT
theorem pw4_inj {i j : Nat} (hij : i < j) (hj : j < Grp.Q) : Grp.pw 4 i ≠ Grp.pw 4 j := by
  intro h
  have hb := Grp.base_ne_one (k := j - i) (by omega) (by omega)
  apply hb
  have he : Grp.pw 4 j = Grp.pw 4 i * Grp.pw 4 (j - i) % Grp.P := by rw [← Grp.pw_add, show i + (j - i) = j by omega]
  obtain ⟨b, hbe⟩ : ∃ b, Grp.pw 4 (j - i) = b := ⟨_, rfl⟩
  have hbl : b < Grp.P := by rw [← hbe]; exact Grp.pw_lt _ _
  have ha := Grp.pw_elem Grp.base_elem i
  rw [← h, hbe] at he
  rw [hbe]
  obtain ⟨a, hae⟩ : ∃ a, Grp.pw 4 i = a := ⟨_, rfl⟩
  rw [hae] at he ha
  have hi := Grp.mul_inv ha
  obtain ⟨c, hc⟩ : ∃ c, Grp.pw a (Grp.Q - 1) = c := ⟨_, rfl⟩
  rw [hc] at hi
  have h1 : (a * b % Grp.P) * c % Grp.P = b := by
    rw [Nat.mod_mul_mod, show a * b * c = b * (a * c) by rw [Nat.mul_assoc, Nat.mul_left_comm], ← Nat.mul_mod_mod, hi, Nat.mul_one, Nat.mod_eq_of_lt hbl]
  rw [← he, hi] at h1
  exact h1.symm
theorem exp_inj {a b : Int} (ha : scalB a = true) (hb : scalB b = true) (h : expV 4 a = expV 4 b) : a = b := by
  have h1 := (exp_elem e4 ha).2
  have h2 := (exp_elem e4 hb).2
  have a1 := scalB_true ha
  have b1 := scalB_true hb
  have h4 : (4 : Int).toNat = 4 := rfl
  rw [h4] at h1 h2
  rw [h1, h2] at h
  have h' : Grp.pw 4 a.toNat = Grp.pw 4 b.toNat := by exact_mod_cast h
  by_cases hlt : a.toNat < b.toNat
  · exact absurd h' (pw4_inj hlt (by rw [Grp.Q_eq]; omega))
  · by_cases hgt : b.toNat < a.toNat
    · exact absurd h'.symm (pw4_inj hgt (by rw [Grp.Q_eq]; omega))
    · omega
theorem verV_scal {p R n : Int} {l : List UInt8} (h : scalB n = false) : verV p R n l = false := by
  unfold verV; rw [h, Bool.and_false, Bool.false_and]
theorem verV_eq {p R n : Int} {l : List UInt8} (h : verV p R n l = true) : expV 4 n = mulV R (expV p (chV p R l)) := by
  unfold verV at h
  simp only [Bool.and_eq_true, decide_eq_true_eq] at h
  exact h.2
theorem and3 {a b c d : Bool} (ha : a = true) (hb : b = true) (hc : c = true) : (a && b && c && d) = d := by subst ha; subst hb; subst hc; cases d <;> rfl
theorem verV_of {p R S n : Int} {l : List UInt8} (h : verV p R S l = true) (hn : scalB n = true) : verV p R n l = decide (expV 4 n = expV 4 S) := by
  have he := verV_eq h
  unfold verV at h ⊢
  simp only [Bool.and_eq_true, decide_eq_true_eq] at h
  rw [← he]
  exact and3 h.1.1.1 h.1.1.2 hn
/-- no other second part is accepted. -/
theorem ver_only {p R S : Int} {l : List UInt8} (h : verV p R S l = true) (hS : scalB S = true) (n : Int) : verV p R n l = (n == S) := by
  cases hn : scalB n
  · rw [verV_scal hn]
    apply Eq.symm
    apply Bool.eq_false_iff.2
    intro e
    have : n = S := by simpa using e
    rw [this, hS] at hn
    cases hn
  · rw [verV_of h hn]
    by_cases e : n = S
    · subst e; simp
    · rw [decide_eq_false (fun he => e (exp_inj hn hS he))]
      simp [e]
theorem four_at (a b c d : Int) (i : Nat) (h : i < 4) : ∃ v : Int, (#[Value.int .i64 a, .int .i64 b, .int .i64 c, .int .i64 d] : Array Value)[i]? = some (.int .i64 v) := by
  match i, h with
  | 0, _ => exact ⟨a, rfl⟩
  | 1, _ => exact ⟨b, rfl⟩
  | 2, _ => exact ⟨c, rfl⟩
  | 3, _ => exact ⟨d, rfl⟩
theorem lh_next {w W W' : World} {g gl : Nat} {R S : Int} {cs : Array Value} (h : W.cell? ⟨g, 0, none⟩ = some (.int .i64 R) ∧ W.cell? ⟨g, 1, none⟩ = some (.int .i64 S) ∧ Below w.heap.size w W ∧ Blk W g 29 #[.int .i64 R, .int .i64 S] ∧ Blk W gl 3 cs) (b : Below W.heap.size W W') :
    W'.cell? ⟨g, 0, none⟩ = some (.int .i64 R) ∧ W'.cell? ⟨g, 1, none⟩ = some (.int .i64 S) ∧ Below w.heap.size w W' ∧ Blk W' g 29 #[.int .i64 R, .int .i64 S] ∧ Blk W' gl 3 cs := by
  have h1 := h.2.2.2.1.below b h.2.2.2.1.lt
  exact ⟨h1.cell 0, h1.cell 1, bl h.2.2.1 b, h1, h.2.2.2.2.below b h.2.2.2.2.lt⟩
theorem lh_mid {w W : World} {g gl : Nat} {R S : Int} {cs : Array Value} (h : W.cell? ⟨g, 0, none⟩ = some (.int .i64 R) ∧ W.cell? ⟨g, 1, none⟩ = some (.int .i64 S) ∧ Below w.heap.size w W ∧ Blk W g 29 #[.int .i64 R, .int .i64 S] ∧ Blk W gl 3 cs) : Below w.heap.size w W := h.2.2.1
theorem sh_alloc {w W : World} {g : Nat} {R S : Int} (h : W.cell? ⟨g, 1, none⟩ = some (.int .i64 S) ∧ Below w.heap.size w W ∧ Blk W g 29 #[.int .i64 R, .int .i64 S]) (o : Obj) :
    (W.alloc o).cell? ⟨g, 1, none⟩ = some (.int .i64 S) ∧ Below w.heap.size w (W.alloc o) ∧ Blk (W.alloc o) g 29 #[.int .i64 R, .int .i64 S] := ⟨(h.2.2.alloc o).cell 1, h.2.1.alloc h.2.1.size o, h.2.2.alloc o⟩
set_option maxRecDepth 100000 in
set_option maxHeartbeats 4000000 in
theorem only_yes (z y : Int) (A : Option Addr) (n c : Nat) (l : List UInt8) (w : World) (hn : n ≤ 1000) (h : BS w A n c l) (hT : Tabs w) :
    Calls Tryd.prog 20 #[.int .i64 z, .slice A n c, .int .i64 y] w fun e w' => e = .returned (.bool true) ∧ Below w.heap.size w w' := by
  have t1 : ¬ (1000 : Int) < (n : Int) := by omega
  have hx := keyV_key z
  have hy := of_decide_eq_true (keyV_key y)
  obtain ⟨x, hxe⟩ : ∃ x, keyV z = x := ⟨_, rfl⟩
  obtain ⟨q, hqe⟩ : ∃ x, keyV y = x := ⟨_, rfl⟩
  have C0 := Lib.hid (sane04_any w hT)
  have CK := Lib.hid fun W => key_yes z x hxe W
  have CQ := Lib.hid fun W => key_yes y q hqe W
  rw [hxe] at hx
  rw [hqe] at hy
  have q0 : (1 : Int) ≤ q := hy.1
  have q1 : q < 2305843009213688669 := hy.2
  obtain ⟨hk, hp, hR, hc, hS⟩ := sig_ok hx l
  have hv := ver_sign hx l
  have cs := fun (W : World) (hb : Below w.heap.size w W) => sign_yes x A n c l W hx (h.below hb) hn (hT.ext hb)
  have cP := fun W => public_yes x W hx
  obtain ⟨p, hpe⟩ : ∃ p, expV 4 x = p := ⟨_, rfl⟩
  obtain ⟨R, hRe⟩ : ∃ R, sigR x l = R := ⟨_, rfl⟩
  obtain ⟨S, hSe⟩ : ∃ S, sigS x l = S := ⟨_, rfl⟩
  rw [hpe, hRe, hSe] at hv
  rw [hSe] at hS
  simp only [hRe, hSe] at cs
  simp only [hpe] at cP
  have cv := fun (m : Int) (W : World) (hb : Below w.heap.size w W) => verify_any p R m A n c l W (h.below hb) hn (hT.ext hb)
  simp only [ver_only hv hS] at cv
  have hSb := scalB_true hS
  have s0 : (0 : Int) ≤ S := hSb.1
  have s1 : S < 2305843009213688669 := hSb.2
  have CS := Lib.hid cs; have CP := Lib.hid cP; have CV := Lib.hid cv
  clear cs cP cv hv hk hp hR hc hS hSb hpe hRe hSe hx hxe h hT hy hqe
  go_enter Tryd.func20, Tryd.ntmps20
  go_wp2_with fail
  refine C0.out.mono ?_
  rintro e w1 ⟨rfl, b1⟩
  go_wp2_with fail
  refine (CK.out _).mono ?_
  rintro e w2 ⟨rfl, rfl⟩
  go_wp2_with fail
  refine (CP.out _).mono ?_
  rintro e w2 ⟨rfl, b2⟩
  have b2 := bl b1 b2
  go_wp2_with fail
  refine (CS.out _ b2).mono ?_
  rintro e w3 ⟨rfl, b3⟩
  have b3 := bl b2 b3
  go_wp2_with fail
  have hA : Blk (w3.alloc (.cells #[.int .i64 R, .int .i64 S] 29)) w3.heap.size 29 #[.int .i64 R, .int .i64 S] := Blk.new _ _ _
  have b4 := b3.alloc b3.size (.cells #[.int .i64 R, .int .i64 S] 29)
  generalize w3.alloc (.cells #[.int .i64 R, .int .i64 S] 29) = w4 at hA b4 ⊢
  obtain ⟨g, hg⟩ : ∃ g, w3.heap.size = g := ⟨_, rfl⟩
  rw [hg] at hA ⊢
  have a0 := hA.cell 0
  have a1 := hA.cell 1
  clear hg b3
  have a1' : w4.cell? ⟨g, 1, none⟩ = some (.int .i64 S) := a1
  have u0 : -2305843009213688669 ≤ S - 2305843009213688669 := by omega
  go_region_held3 (fun W => W.cell? ⟨g, 1, none⟩ = some (.int .i64 S) ∧ Below w.heap.size w W ∧ Blk W g 29 #[.int .i64 R, .int .i64 S])
    (first | exact ⟨a1', below_drewN b4 1, hA⟩ | exact sh_alloc (by assumption) _ | assumption)
    (first | (go_at_call 22; refine (CQ.out _).mono ?_; rintro e w5 ⟨rfl, rfl⟩))
  go_wp2_with fail
  obtain ⟨v1, hv1⟩ : ∃ v, IntKind.i64.wrap (q - 1) = v := ⟨_, rfl⟩
  obtain ⟨v2, hv2⟩ : ∃ v, IntKind.i64.wrap (S + 2305843009213688669) = v := ⟨_, rfl⟩
  obtain ⟨v3, hv3⟩ : ∃ v, IntKind.i64.wrap (S - 2305843009213688669) = v := ⟨_, rfl⟩
  rw [hv1, hv2, hv3]
  have hL : Blk (w4.alloc (.cells #[.int .i64 y, .int .i64 v1, .int .i64 v2, .int .i64 v3] 3)).drew w4.heap.size 3 #[.int .i64 y, .int .i64 v1, .int .i64 v2, .int .i64 v3] := Blk.new w4 _ _
  have hA5 : Blk (w4.alloc (.cells #[.int .i64 y, .int .i64 v1, .int .i64 v2, .int .i64 v3] 3)).drew g 29 #[.int .i64 R, .int .i64 S] := hA.alloc _
  have b5 : Below w.heap.size w (w4.alloc (.cells #[.int .i64 y, .int .i64 v1, .int .i64 v2, .int .i64 v3] 3)).drew := below_drewN (b4.alloc b4.size _) 1
  generalize (w4.alloc (.cells #[.int .i64 y, .int .i64 v1, .int .i64 v2, .int .i64 v3] 3)).drew = w5 at hL hA5 b5 ⊢
  obtain ⟨gl, hgl⟩ : ∃ g, w4.heap.size = g := ⟨_, rfl⟩
  rw [hgl] at hL ⊢
  clear hgl a0 a1 a1' hA b4 hv1 hv2 hv3 u0
  go_loopw [50] (fun k wr => ∃ i : Nat, i ≤ 4 ∧ k = .int .i64 i ∧ Below w.heap.size w wr ∧ Blk wr g 29 #[.int .i64 R, .int .i64 S] ∧ Blk wr gl 3 #[.int .i64 y, .int .i64 v1, .int .i64 v2, .int .i64 v3]) (fun k _ => 4 - (intOf k).toNat)
  case atStart => exact ⟨0, by omega, rfl, b5, hA5, hL⟩
  case round =>
    obtain ⟨i, hi, rfl, hB, hA, hL⟩ := hrel
    by_cases hlt : i < 4
    · have hlt' : (i : Int) < 4 := by omega
      obtain ⟨v, hv⟩ := four_at y v1 v2 v3 i hlt
      have cl : wr.cell? ⟨gl, i, none⟩ = some (.int .i64 v) := (hL.cell i).trans hv
      clear hv
      go_upto_region 13 with fail
      have a0 : wr.cell? ⟨g, 0, none⟩ = some (.int .i64 R) := hA.cell 0
      have a1 : wr.cell? ⟨g, 1, none⟩ = some (.int .i64 S) := hA.cell 1
      go_region_held3 (fun W => W.cell? ⟨g, 0, none⟩ = some (.int .i64 R) ∧ W.cell? ⟨g, 1, none⟩ = some (.int .i64 S) ∧ Below w.heap.size w W ∧ Blk W g 29 #[.int .i64 R, .int .i64 S] ∧ Blk W gl 3 #[.int .i64 y, .int .i64 v1, .int .i64 v2, .int .i64 v3])
        (first | exact ⟨a0, a1, below_drewN hB 1, hA, hL⟩ | exact lh_next (by assumption) (by assumption))
        (first | (go_at_call 63; refine (CV.out _ _ (by exact lh_mid (g := g) (gl := gl) (R := R) (S := S) (cs := #[.int .i64 y, .int .i64 v1, .int .i64 v2, .int .i64 v3]) (by assumption))).mono ?_; rintro e w7 ⟨rfl, b7⟩))
      obtain ⟨_, _, hB7, hA7, hL7⟩ : _ ∧ _ ∧ Below w.heap.size w w7 ∧ Blk w7 g 29 #[.int .i64 R, .int .i64 S] ∧ Blk w7 gl 3 #[.int .i64 y, .int .i64 v1, .int .i64 v2, .int .i64 v3] := by assumption
      clear a0 a1 hA hL hB b7 cl
      go_wp2_with fail
      go_roundw
      case rel => exact ⟨i + 1, by omega, by go_num, hB7, hA7, hL7⟩
      case measure => simp [intOf]; omega
    · obtain rfl : i = 4 := by omega
      rw [show ((4 : Nat) : Int) = 4 from rfl]
      go_wp2_with fail
      go_ret
      exact ⟨rfl, hB⟩
theorem only_no (z y : Int) (A : Option Addr) (n c : Nat) (w : World) (hn : 1000 < n) (hT : Tabs w) :
    Calls Tryd.prog 20 #[.int .i64 z, .slice A n c, .int .i64 y] w fun e w' => e = .returned (.bool true) ∧ Below w.heap.size w w' := by
  have t1 : (1000 : Int) < (n : Int) := by omega
  have C0 := Lib.hid (sane04_any w hT)
  clear hT
  go_enter Tryd.func20, Tryd.ntmps20
  go_wp2_with fail
  refine C0.out.mono ?_
  rintro e w1 ⟨rfl, b1⟩
  go_wp2_with fail
  go_ret
  exact ⟨rfl, b1⟩
/-- SignOnly, of whatever comes in. -/
theorem only_walk (z y : Int) (A : Option Addr) (n c : Nat) (l : List UInt8) (w : World) (h : BS w A n c l) (hT : Tabs w) :
    Calls Tryd.prog 20 #[.int .i64 z, .slice A n c, .int .i64 y] w fun e w' => e = .returned (.bool true) ∧ Below w.heap.size w w' := by
  by_cases hn : n ≤ 1000
  · exact only_yes z y A n c l w hn h hT
  · exact only_no z y A n c w (by omega) hT
end Go.Proofs.YtedokiemlkccaaaDoor
