/- The encoding of a list of integers, and the hash of package tree. -/
import Derived.Test.YtedokiemlkccaaaDoorRT
import Derived.Outline
import Derived.Maps.AppendAt
import Derived.Maps.Range
import Derived.Deep.DeepCutAuto
import Derived.Deep.RegionHeld3
import Derived.Deep.RegionWith
import Derived.Deep.DrawnRows
import Derived.StillTailTactics
import Derived.Laws.EntriesVeiled
import Derived.WalkSpells
set_option linter.all false
namespace Go.Proofs.YtedokiemlkccaaaDoor
open Go.RowKit
/-- the numeral of a number: seven bits a byte, the least ones first. -/
def numer (u : Nat) : List UInt8 := if h : u < 128 then [UInt8.ofNat u] else UInt8.ofNat (u % 128 + 128) :: numer (u / 128)
termination_by u
decreasing_by omega
theorem numer_small {u : Nat} (h : u < 128) : numer u = [UInt8.ofNat u] := by rw [numer]; simp [h]
theorem numer_big {u : Nat} (h : ¬ u < 128) : numer u = UInt8.ofNat (u % 128 + 128) :: numer (u / 128) := by rw [numer]; simp [h]
theorem numer_pos (u : Nat) : 0 < (numer u).length := by
  by_cases h : u < 128
  · rw [numer_small h]; exact Nat.one_pos
  · rw [numer_big h]; simp
theorem numer_len : ∀ (k u : Nat), u < 128 ^ k → 0 < k → (numer u).length ≤ k
  | 0, _, _, h => absurd h (by omega)
  | k + 1, u, h, _ => by
    by_cases hs : u < 128
    · rw [numer_small hs]; simp
    · rw [numer_big hs, List.length_cons]
      have hk : 0 < k := by
        rcases Nat.eq_zero_or_pos k with h0 | h0
        · subst h0; rw [Nat.pow_one] at h; omega
        · exact h0
      have := numer_len k (u / 128) (by rw [Nat.pow_succ] at h; exact Nat.div_lt_of_lt_mul (by rw [Nat.mul_comm]; exact h)) hk
      omega
theorem numer_ten {u : Nat} (h : u < 18446744073709551616) : (numer u).length ≤ 10 := numer_len 10 u (Nat.lt_of_lt_of_le h (by decide)) (by decide)
/-- what an append to a row does to the rest of memory, and where the row lies behind it. -/
def Gr (w : World) (v : Value) (w' : World) (v' : Value) : Prop := w.grownBy w' v.ownBlock ∧ (v'.ownBlock = v.ownBlock ∨ ∃ j, w.heap.size ≤ j ∧ v'.ownBlock = some j)
theorem Gr.refl (w : World) (v : Value) : Gr w v w v := ⟨⟨rfl, rfl, rfl, Nat.le_refl _, fun _ _ _ => rfl⟩, .inl rfl⟩
theorem Gr.trans {a b c : World} {u v x : Value} (h : Gr a u b v) (k : Gr b v c x) : Gr a u c x := by
  obtain ⟨h1, h2⟩ := h
  obtain ⟨k1, k2⟩ := k
  refine ⟨⟨k1.os.trans h1.os, k1.tape.trans h1.tape, k1.output.trans h1.output, Nat.le_trans h1.size k1.size, fun i hi hne => ?_⟩, ?_⟩
  · refine (k1.block i (Nat.lt_of_lt_of_le hi h1.size) ?_).trans (h1.block i hi hne)
    rcases h2 with h2 | ⟨j, hj, h2⟩
    · rw [h2]; exact hne
    · rw [h2]; intro e; cases e; omega
  · rcases k2 with k2 | ⟨j, hj, k2⟩
    · rw [k2]; exact h2
    · exact .inr ⟨j, Nat.le_trans h1.size hj, k2⟩
theorem Gr.of_below {w w' : World} (h : Below w.heap.size w w') (v : Value) : Gr w v w' v := ⟨⟨h.os, h.tape, h.output, h.size, fun k hk _ => h.block k hk⟩, .inl rfl⟩
theorem Gr.alloc (w : World) (v : Value) (o : Obj) : Gr w v (w.alloc o) v := Gr.of_below ((Below.refl _ w).alloc (Nat.le_refl _) o) v
theorem Gr.below {B : Nat} {w0 w w' : World} {v v' : Value} {n : Nat} {xs : List Value} (h : Gr w v w' v') (hb : Below B w0 w) (hown : w.ownsRow B 5 1 v n xs) (hB : B ≤ w.heap.size) : Below B w0 w' :=
  hb.grown h.1 hB (fun k e => (hown.lt k e).1)
theorem Gr.blk {w w' : World} {v v' : Value} (h : Gr w v w' v') {g : Nat} {t : TypeId} {cs : Array Value} (hb : Blk w g t cs) (hg : some g ≠ v.ownBlock) : Blk w' g t cs := hb.grown h.1 hg
theorem Gr.apart {w w' : World} {v v' : Value} (h : Gr w v w' v') {g : Nat} (hl : g < w.heap.size) (hg : some g ≠ v.ownBlock) : some g ≠ v'.ownBlock := by
  rcases h.2 with e | ⟨j, hj, e⟩
  · rw [e]; exact hg
  · rw [e]; intro h'; cases h'; omega
/-- append(b, c): one byte, b the call's own. -/
theorem wpList_append_1 {w : World} {ops : Array Oper} {rest : List Oper} {o : Oper} {a : Act} {Q : Exit → Act → World → Prop} (hgd : o.guard = none) (s x : Operand)
    (ho : o.op = .call { callee := .builtin .append, args := #[s, x], argTypes := #[22, 22] }) (B n g : Nat) (v : Value) (l : List UInt8) (b : UInt8) (k : Int) (hs : a.eval s = v) (hx : a.eval x = .slice (some ⟨g, 0, none⟩) 1 1)
    (hown : w.ownsRow B 5 1 v n (u8s l)) (hg : Blk w g 5 #[.int .u8 k]) (hk : k = (b.toNat : Int)) (hsum : n + 1 ≤ 100000000) (hbase : B ≤ w.heap.size)
    (h : ∀ v' w', w'.ownsRow B 5 1 v' (n + 1) (u8s (l ++ [b])) → Gr w v w' v' → wpList Tryd.prog ops Q rest (a.put o.dst v') w') : wpList Tryd.prog ops Q (o :: rest) a w := by
  obtain ⟨i0, hi, hzr, hsize, hby⟩ := info_parts info5
  refine wpList_append_own_at w hgd s x 22 ho B 5 i0 (.int .u8 0) 1 1 Tryd.underlying22 hi hzr hsize hby rfl (by decide) v n (u8s l) hs hown ⟨g, 0, none⟩ 1 1 [.int .u8 k] hx rfl (fun j u hu => ?_) (by simp [Value.oneCell']) (by unfold maxLen; omega) (by omega) hbase ?_
  · rw [addr_mid, Nat.zero_add, hg.cell j]; simpa using hu
  · intro v' w' ho' hg' _ hb'
    refine h v' w' ?_ ⟨hg', ?_⟩
    · rw [u8s_append]
      have : u8s [b] = [.int .u8 k] := by rw [hk]; rfl
      rw [this]; exact ho'
    · rcases hb' with e | e
      · exact .inl e
      · exact .inr ⟨_, Nat.le_refl _, e⟩
theorem or128 : ∀ x : Nat, x < 256 → bits .or .u8 (x : Int) 128 = ((x % 128 + 128 : Nat) : Int) := by decide +kernel
theorem byteU (u : Nat) : ((UInt8.ofNat (u % 128 + 128)).toNat : Int) = ((u % 256 % 128 + 128 : Nat) : Int) := by
  rw [UInt8.toNat_ofNat']; omega
set_option maxRecDepth 100000 in
/-- codec.numeral. -/
theorem numeral_any (B n : Nat) (v : Value) (l : List UInt8) (u : Nat) (w : World) (hu : u < 18446744073709551616) (hown : w.ownsRow B 5 1 v n (u8s l)) (hB : B ≤ w.heap.size) (hn : n + (numer u).length ≤ 1000000) :
    Calls Tryd.prog 131 #[v, .int .u64 u] w fun e w' => ∃ v', e = .returned v' ∧ w'.ownsRow B 5 1 v' (n + (numer u).length) (u8s (l ++ numer u)) ∧ Gr w v w' v' := by
  obtain ⟨N, hN⟩ : ∃ N, n + (numer u).length = N := ⟨_, rfl⟩
  obtain ⟨L, hL⟩ : ∃ L, l ++ numer u = L := ⟨_, rfl⟩
  rw [hN] at hn
  rw [hN, hL]
  have HN := Lib.hid hN
  have HL := Lib.hid hL
  clear hN hL
  go_enter Tryd.func131, Tryd.ntmps131
  go_wp2_with fail
  go_loopw [0, 1] (fun x y wr => ∃ (u' n' : Nat) (l' : List UInt8), y = .int .u64 u' ∧ u' < 18446744073709551616 ∧ wr.ownsRow B 5 1 x n' (u8s l') ∧ Hid (n' + (numer u').length = N) ∧ Hid (l' ++ numer u' = L) ∧ Gr w v wr x) (fun _ y _ => (intOf y).toNat)
  case atStart => exact ⟨u, n, l, rfl, hu, hown, HN, HL, Gr.refl _ _⟩
  case round =>
    obtain ⟨u', n', l', rfl, hu', hown, hn', hl', hG⟩ := hrel
    by_cases hlt : u' < 128
    · have t1 : ¬ (128 : Int) ≤ (u' : Int) := by omega
      have hm : (u' : Int) = (((UInt8.ofNat u').toNat : Nat) : Int) := by rw [UInt8.toNat_ofNat']; omega
      obtain ⟨b, hbe⟩ : ∃ b, UInt8.ofNat u' = b := ⟨_, rfl⟩
      rw [hbe] at hm
      have hB1 : B ≤ (wr.alloc (.cells #[.int .u8 (u' : Int)] 5)).heap.size := by have := hG.1.size; rw [World.size_alloc]; omega
      have hb := Blk.new wr 5 #[.int .u8 (u' : Int)]
      have hown1 := hown.alloc (.cells #[.int .u8 (u' : Int)] 5)
      have hns : n' + 1 ≤ 100000000 := by have := hn'.out; have := numer_pos u'; omega
      have HM := Lib.hid hm
      clear hm
      go_wp2_with (at_builtin; refine wpList_append_1 rfl (.tmp 15) (.tmp 18) rfl B n' wr.heap.size u0 l' b _ rfl rfl hown1 hb HM.out hns hB1 ?_)
      intro v2 w2 ho2 hG2
      have hG3 := hG.trans ((Gr.alloc wr u0 _).trans hG2)
      have e1 : n' + 1 = N := by have := hn'.out; rw [numer_small hlt] at this; exact this
      have e2 : l' ++ [b] = L := by have := hl'.out; rw [numer_small hlt, hbe] at this; exact this
      rw [e1, e2] at ho2
      clear hown hown1 hb hG hG2 hn' hl' e1 e2 hbe
      go_wp2_with fail
      go_ret
      exact ⟨v2, rfl, ho2, hG3⟩
    · have t1 : (128 : Int) ≤ (u' : Int) := by omega
      have ho : bits .or .u8 ((u' : Int) % 256) 128 = (((UInt8.ofNat (u' % 128 + 128)).toNat : Nat) : Int) := by
        rw [byteU, show (u' : Int) % 256 = ((u' % 256 : Nat) : Int) by omega, or128 _ (by omega)]
      obtain ⟨b, hbe⟩ : ∃ b, UInt8.ofNat (u' % 128 + 128) = b := ⟨_, rfl⟩
      rw [hbe] at ho
      have hB1 : B ≤ (wr.alloc (.cells #[.int .u8 (bits .or .u8 ((u' : Int) % 256) 128)] 5)).heap.size := by have := hG.1.size; rw [World.size_alloc]; omega
      have hb := Blk.new wr 5 #[.int .u8 (bits .or .u8 ((u' : Int) % 256) 128)]
      have hown1 := hown.alloc (.cells #[.int .u8 (bits .or .u8 ((u' : Int) % 256) 128)] 5)
      have hns : n' + 1 ≤ 100000000 := by have := hn'.out; have := numer_pos u'; omega
      have HM := Lib.hid ho
      clear ho
      go_wp2_with (at_builtin; refine wpList_append_1 rfl (.tmp 9) (.tmp 13) rfl B n' wr.heap.size u0 l' b _ rfl rfl hown1 hb HM.out hns hB1 ?_)
      intro v2 w2 ho2 hG2
      have hG3 := hG.trans ((Gr.alloc wr u0 _).trans hG2)
      have e1 : n' + 1 + (numer (u' / 128)).length = N := by have := hn'.out; rw [numer_big hlt, List.length_cons] at this; omega
      have e2 : l' ++ [b] ++ numer (u' / 128) = L := by have := hl'.out; rw [numer_big hlt, hbe] at this; rw [← this, List.append_assoc]; rfl
      have E1 := Lib.hid e1; have E2 := Lib.hid e2
      clear hbe
      clear hown hown1 hb hG hG2 hn' hl' e1 e2
      go_wp2_with fail
      go_roundw
      case rel => exact ⟨u' / 128, n' + 1, _, by go_num, by omega, ho2, E1, E2, hG3⟩
      case measure => simp [intOf]; omega
/-- the unsigned form of an integer. -/
def unsigV (z : Int) : Int := bits .xor .u64 (IntKind.u64.wrap (IntKind.u64.wrap z * 2)) (IntKind.u64.wrap (z / 9223372036854775808))
theorem unsig_any (z : Int) (w : World) : Calls Tryd.prog 132 #[.int .i64 z] w fun e w' => e = .returned (.int .u64 (unsigV z)) ∧ w = w' := by
  have h : unsigV z = bits .xor .u64 (IntKind.u64.wrap (IntKind.u64.wrap z * 2)) (IntKind.u64.wrap (z / 9223372036854775808)) := rfl
  rw [h]
  clear h
  go_enter Tryd.func132, Tryd.ntmps132
  go_wp2_with fail
  go_ret
  exact ⟨rfl, rfl⟩
theorem unsig_nat (z : Int) : ∃ u : Nat, unsigV z = u ∧ u < 18446744073709551616 := by
  unfold unsigV
  generalize IntKind.u64.wrap (IntKind.u64.wrap z * 2) = x
  generalize IntKind.u64.wrap (z / 9223372036854775808) = y
  refine ⟨((BitVec.ofInt 64 x) ^^^ (BitVec.ofInt 64 y)).toNat, ?_, BitVec.isLt _⟩
  show IntKind.u64.wrap ((((BitVec.ofInt 64 x) ^^^ (BitVec.ofInt 64 y)).toNat : Nat) : Int) = _
  have := ((BitVec.ofInt 64 x) ^^^ (BitVec.ofInt 64 y)).isLt
  generalize ((BitVec.ofInt 64 x) ^^^ (BitVec.ofInt 64 y)).toNat = m at *
  rw [IntKind.wrap_u64]
  omega
/-- an integer, encoded. -/
def encI (z : Int) : List UInt8 := 1 :: numer (unsigV z).toNat
/-- a list of integers, encoded. -/
def encL (zs : List Int) : List UInt8 := 3 :: (numer zs.length ++ zs.flatMap encI)
theorem encI_length (z : Int) : (encI z).length ≤ 11 := by
  obtain ⟨u, h, hu⟩ := unsig_nat z
  unfold encI
  rw [h, Int.toNat_natCast, List.length_cons]
  have := numer_ten hu
  omega
/-- append(b, c) at a step of a region that draws its order. -/
theorem step_append_1 {w : World} {ops : Array Oper} {o : Oper} {a : Act} {K : Act → World → Prop} {Q : Exit → Act → World → Prop} {E : Prop} (hgd : o.guard = none) (s x : Operand)
    (ho : o.op = .call { callee := .builtin .append, args := #[s, x], argTypes := #[22, 22] }) (B n g : Nat) (v : Value) (l : List UInt8) (b : UInt8) (k : Int) (hs : a.eval s = v) (hx : a.eval x = .slice (some ⟨g, 0, none⟩) 1 1)
    (hown : w.ownsRow B 5 1 v n (u8s l)) (hg : Blk w g 5 #[.int .u8 k]) (hk : k = (b.toNat : Int)) (hsum : n + 1 ≤ 100000000) (hbase : B ≤ w.heap.size)
    (h : ∀ v' w', w'.ownsRow B 5 1 v' (n + 1) (u8s (l ++ [b])) → Gr w v w' v' → K (a.put o.dst v') w') : if Region.wanted o (yielded ops a.tmps) = true then Oper.wp Tryd.prog o a w K Q else E := by
  have hw : Region.wanted o (yielded ops a.tmps) = true := by simp [Region.wanted, hgd]
  rw [if_pos hw]
  obtain ⟨i0, hi, hzr, hsize, hby⟩ := info_parts info5
  obtain ⟨v', w', hr, h2, h3, _, h5⟩ := run_append_own_at (P := Tryd.prog) w B 22 o.type 5 i0 (.int .u8 0) 1 1 Tryd.underlying22 hi hzr hsize hby rfl (by decide) v n (u8s l) hown ⟨g, 0, none⟩ 1 1 [.int .u8 k] rfl (fun j u hu => by
    rw [addr_mid, Nat.zero_add, hg.cell j]; simpa using hu) (by simp [Value.oneCell']) (by unfold maxLen; omega) (by omega) hbase
  unfold Oper.wp execOp
  simp only [ho, resolve, invoke, builtin, Sem.run_bind, Sem.run_pure, Result.andThen_ok, List.map_toArray, List.map_cons, List.map_nil, hs, hx, hr]
  refine h v' w' ?_ ⟨h3, ?_⟩
  · rw [u8s_append]
    have : u8s [b] = [.int .u8 k] := by rw [hk]; rfl
    rw [this]; exact h2
  · rcases h5 with e | e
    · exact .inl e
    · exact .inr ⟨_, Nat.le_refl _, e⟩
/-- a value of the codec that is an integer. -/
def valI (z : Int) : Array Value := #[.int .i64 1, .int .i64 z, .string ByteArray.empty, .slice none 0 0]
theorem own_apart {w : World} {B n : Nat} {v : Value} {xs : List Value} (h : w.ownsRow B 5 1 v n xs) : some w.heap.size ≠ v.ownBlock := by
  intro e
  have := (h.lt _ e.symm).2
  omega
theorem cell_gr {w w' : World} {v v' : Value} (h : Gr w v w' v') {g i : Nat} {x : Value} (hc : w.cell? ⟨g, i, none⟩ = some x) (hg : some g ≠ v.ownBlock) : w'.cell? ⟨g, i, none⟩ = some x := h.1.cell hc hg
theorem Gr.of_drew {w w' : World} {v v' : Value} (h : Gr w.drew v w' v') : Gr w v w' v' := ⟨⟨h.1.os, h.1.tape, h.1.output, h.1.size, h.1.block⟩, h.2⟩
theorem own_drew {w : World} {B n : Nat} {v : Value} {xs : List Value} (h : w.ownsRow B 5 1 v n xs) : w.drew.ownsRow B 5 1 v n xs := h
set_option maxRecDepth 100000 in
set_option maxHeartbeats 1000000 in
/-- newWriter$1: an integer is written. -/
theorem wint_any (B n : Nat) (v : Value) (l : List UInt8) (z : Int) (w : World) (hown : w.ownsRow B 5 1 v n (u8s l)) (hB : B ≤ w.heap.size) (hn : n ≤ 100000) :
    Calls Tryd.prog 130 #[v, .agg (valI z)] w fun e w' => ∃ v', e = .returned v' ∧ w'.ownsRow B 5 1 v' (n + (encI z).length) (u8s (l ++ encI z)) ∧ Gr w v w' v' := by
  have CU := Lib.hid fun W => unsig_any z W
  obtain ⟨u, hu, hul⟩ := unsig_nat z
  have hul10 := numer_ten hul
  rw [hu] at CU
  have hE : encI z = 1 :: numer u := by unfold encI; rw [hu, Int.toNat_natCast]
  have HE := Lib.hid hE
  have hne := own_apart hown
  have hB2 := Blk.new w 113 (valI z)
  have hsz : (w.alloc (.cells (valI z) 113)).heap.size = w.heap.size + 1 := by simp
  have ho1 := hown.alloc (.cells (valI z) 113)
  have hgr1 := Gr.alloc w v (.cells (valI z) 113)
  clear hE hu
  go_enter Tryd.func130, Tryd.ntmps130
  go_upto_region 1 with fail
  generalize hW1 : w.alloc (Obj.cells _ 113) = W1
  have hz : w.alloc (.cells (valI z) 113) = W1 := hW1
  rw [hz] at hB2 ho1 hgr1 hsz
  clear hW1 hz hown
  obtain ⟨g3, hg3⟩ : ∃ g, w.heap.size = g := ⟨_, rfl⟩
  rw [hg3] at hB2 hne hsz hB ⊢
  have c1 : W1.cell? ⟨g3, 1, none⟩ = some (.int .i64 z) := hB2.cell 1
  have hB1 : B ≤ (W1.alloc (.cells #[.int .u8 1] 5)).drew.heap.size := by show B ≤ (W1.alloc (.cells #[.int .u8 1] 5)).heap.size; rw [World.size_alloc]; omega
  have hb : Blk (W1.alloc (.cells #[.int .u8 1] 5)).drew (g3 + 1) 5 #[.int .u8 1] := by rw [← hsz]; exact Blk.new W1 5 _
  have ho2 : (W1.alloc (.cells #[.int .u8 1] 5)).drew.ownsRow B 5 1 v n (u8s l) := own_drew (ho1.alloc _)
  have hlt : g3 < (W1.alloc (.cells #[.int .u8 1] 5)).drew.heap.size := by show g3 < (W1.alloc (.cells #[.int .u8 1] 5)).heap.size; rw [World.size_alloc]; omega
  have c0 : (W1.alloc (.cells #[.int .u8 1] 5)).drew.cell? ⟨g3, 1, none⟩ = some (.int .i64 z) := cell_alloc_l _ c1
  go_region_held3 (fun W => W.cell? ⟨g3, 1, none⟩ = some (.int .i64 z))
    (first | exact c1 | exact c0 | assumption)
    (first | (refine step_append_1 (by rfl) (.tmp 5) (.tmp 6) (by rfl) B n (g3 + 1) v l 1 1 (by rfl) (by rfl) ho2 hb rfl (by omega) hB1 ?_; intro v2 w2 ho3 hG2; have c2 := cell_gr hG2 c0 hne; have a2 := hG2.apart hlt hne) | (go_at_call 132; refine (CU.out _).mono ?_; rintro e w4 ⟨rfl, rfl⟩) | (go_at_call 131; refine (numeral_any B (n + 1) v2 (l ++ [1]) u _ hul ho3 (Nat.le_trans hB1 hG2.1.size) (by omega)).mono ?_; rintro e w5 ⟨v5, rfl, ho5, hG5⟩; have c5 := cell_gr hG5 c2 a2))
  have hG := hgr1.trans ((Gr.alloc W1 v (.cells #[.int .u8 1] 5)).trans (hG2.of_drew.trans hG5))
  clear c0 c1 c2 c5 a2 hb ho2 ho3 hB2 hgr1 hG2 hG5 ho1
  go_wp2_with fail
  go_ret
  refine ⟨v5, rfl, ?_, hG⟩
  rw [HE.out, List.length_cons, show n + ((numer u).length + 1) = n + 1 + (numer u).length by omega, show l ++ 1 :: numer u = l ++ [1] ++ numer u by simp]
  exact ho5
/-- the cells of a writer: how each kind is written. -/
def writerB (g : Nat) : Array Value := #[.nilFunc, .func (.func 130) #[] #[], .func (.func 133) #[] #[], .func (.func 134) #[] #[.pointer (some ⟨g, 0, none⟩)]]
/-- newWriter. -/
theorem nw_any (w : World) : Calls Tryd.prog 118 #[] w fun e w' => e = .returned (.pointer (some ⟨w.heap.size, 0, none⟩)) ∧ Blk w' w.heap.size 153 (writerB (w.heap.size + 1)) ∧ Blk w' (w.heap.size + 1) 139 #[.pointer (some ⟨w.heap.size, 0, none⟩)] ∧ Below w.heap.size w w' := by
  have h1 : Blk ((w.alloc (.cells (writerB (w.heap.size + 1)) 153)).alloc (.cells #[.pointer (some ⟨w.heap.size, 0, none⟩)] 139)) w.heap.size 153 (writerB (w.heap.size + 1)) := (Blk.new _ _ _).alloc _
  have h2 : Blk ((w.alloc (.cells (writerB (w.heap.size + 1)) 153)).alloc (.cells #[.pointer (some ⟨w.heap.size, 0, none⟩)] 139)) (w.heap.size + 1) 139 #[.pointer (some ⟨w.heap.size, 0, none⟩)] := by
    have := Blk.new (w.alloc (.cells (writerB (w.heap.size + 1)) 153)) 139 #[.pointer (some ⟨w.heap.size, 0, none⟩)]
    rwa [World.size_alloc] at this
  have h3 : Below w.heap.size w ((w.alloc (.cells (writerB (w.heap.size + 1)) 153)).alloc (.cells #[.pointer (some ⟨w.heap.size, 0, none⟩)] 139)) := ((Below.refl _ w).alloc (Nat.le_refl _) _).alloc (by simp) _
  go_enter Tryd.func118, Tryd.ntmps118
  go_wp2_with fail
  go_ret
  exact ⟨rfl, h1, h2, h3⟩
/-- a value of the codec that is a list. -/
def valL (A : Option Addr) (k c : Nat) : Array Value := #[.int .i64 3, .int .i64 0, .string ByteArray.empty, .slice A k c]
/-- integers as values of the codec, side by side in memory. -/
def VAt (w : World) (g : Nat) (zs : List Int) : Prop := ∀ i (h : i < zs.length) j, w.cell? ⟨g, i * 4 + j, none⟩ = (valI zs[i])[j]? ∨ 4 ≤ j
theorem flat_take (zs : List Int) (i : Nat) (h : i < zs.length) : (zs.take (i + 1)).flatMap encI = (zs.take i).flatMap encI ++ encI zs[i] := by
  rw [List.take_succ_eq_append_getElem h, List.flatMap_append, List.flatMap_singleton]
theorem flat_len : ∀ zs : List Int, (zs.flatMap encI).length ≤ 11 * zs.length
  | [] => Nat.le_refl _
  | z :: zs => by
    rw [List.flatMap_cons, List.length_append, List.length_cons]
    have := flat_len zs
    have := encI_length z
    omega
set_option maxRecDepth 100000 in
set_option maxHeartbeats 2000000 in
/-- newWriter$3: a list of integers is written. -/
theorem wlist_any (B gw gp ga k c : Nat) (zs : List Int) (w : World) (hB : B ≤ w.heap.size) (hk : zs.length = k) (h0 : 0 < k) (hkc : k ≤ c) (hc : c ≤ 9223372036854775807) (hk9 : k ≤ 1000) (hW : Blk w gw 153 (writerB gp)) (hP : Blk w gp 139 #[.pointer (some ⟨gw, 0, none⟩)]) (hV : VAt w ga zs) (hga : ga < w.heap.size) :
    Calls Tryd.prog 134 #[.slice none 0 0, .agg (valL (some ⟨ga, 0, none⟩) k c), .pointer (some ⟨gp, 0, none⟩)] w fun e w' => ∃ v', e = .returned v' ∧ w'.ownsRow B 5 1 v' (encL zs).length (u8s (encL zs)) ∧ Gr w (.slice none 0 0) w' v' := by
  have hown : w.ownsRow B 5 1 (.slice none 0 0) 0 (u8s []) := World.ownsRow_nil _ _ _ _
  have hne : ∀ g : Nat, some g ≠ (Value.slice none 0 0).ownBlock := fun g e => by cases e
  have hB2 := Blk.new w 113 (valL (some ⟨ga, 0, none⟩) k c)
  have hsz : (w.alloc (.cells (valL (some ⟨ga, 0, none⟩) k c) 113)).heap.size = w.heap.size + 1 := by simp
  have hgr1 := Gr.alloc w (.slice none 0 0) (.cells (valL (some ⟨ga, 0, none⟩) k c) 113)
  have HW := Lib.hid hW; have HP := Lib.hid hP; have HV := Lib.hid hV
  have hnk := numer_ten (u := k) (by omega)
  have HK := Lib.hid hk
  clear hW hP hV hk
  go_enter Tryd.func134, Tryd.ntmps134
  go_upto_region 1 with fail
  generalize hW1 : w.alloc (Obj.cells _ 113) = W1
  have hz : w.alloc (.cells (valL (some ⟨ga, 0, none⟩) k c) 113) = W1 := hW1
  rw [hz] at hB2 hgr1 hsz
  clear hW1 hz hown
  obtain ⟨g3, hg3⟩ : ∃ g, w.heap.size = g := ⟨_, rfl⟩
  rw [hg3] at hB2 hsz hB ⊢
  have c1 : W1.cell? ⟨g3, 3, none⟩ = some (.slice (some ⟨ga, 0, none⟩) k c) := hB2.cell 3
  have hB1 : B ≤ (W1.alloc (.cells #[.int .u8 3] 5)).drew.heap.size := by show B ≤ (W1.alloc (.cells #[.int .u8 3] 5)).heap.size; rw [World.size_alloc]; omega
  have hb : Blk (W1.alloc (.cells #[.int .u8 3] 5)).drew (g3 + 1) 5 #[.int .u8 3] := by rw [← hsz]; exact Blk.new W1 5 _
  have ho2 : (W1.alloc (.cells #[.int .u8 3] 5)).drew.ownsRow B 5 1 (.slice none 0 0) 0 (u8s []) := World.ownsRow_nil _ _ _ _
  have hlt : g3 < (W1.alloc (.cells #[.int .u8 3] 5)).drew.heap.size := by show g3 < (W1.alloc (.cells #[.int .u8 3] 5)).heap.size; rw [World.size_alloc]; omega
  have c0 : (W1.alloc (.cells #[.int .u8 3] 5)).drew.cell? ⟨g3, 3, none⟩ = some (.slice (some ⟨ga, 0, none⟩) k c) := cell_alloc_l _ c1
  have CN := Lib.hid fun (v : Value) (W : World) (h : W.ownsRow B 5 1 v 1 (u8s [3])) (hB : B ≤ W.heap.size) => numeral_any B 1 v [3] k W (by omega) h hB (by omega)
  have hwk : IntKind.u64.wrap (k : Int) = (k : Int) := by rw [IntKind.wrap_u64]; omega
  go_region_held3 (fun W => W.cell? ⟨g3, 3, none⟩ = some (.slice (some ⟨ga, 0, none⟩) k c))
    (first | exact c1 | exact c0 | assumption)
    (first | (refine step_append_1 (by rfl) (.tmp 8) (.tmp 9) (by rfl) B 0 (g3 + 1) (.slice none 0 0) [] 3 3 (by rfl) (by rfl) ho2 hb rfl (by omega) hB1 ?_; intro v2 w2 ho3 hG2; have ho3 : w2.ownsRow B 5 1 v2 1 (u8s [3]) := ho3; have c2 := cell_gr hG2 c0 (hne _); have a2 := hG2.apart hlt (hne _); have b2 : B ≤ w2.heap.size := Nat.le_trans hB1 hG2.1.size) | (go_at_call 131; (with_reducible refine (CN.out v2 w2 ho3 b2).mono ?_); rintro e w5 ⟨v5, rfl, ho5, hG5⟩; have c5 := cell_gr hG5 c2 a2))
  have hG := hgr1.trans ((Gr.alloc W1 (.slice none 0 0) (.cells #[.int .u8 3] 5)).trans (hG2.of_drew.trans hG5))
  clear c0 c1 c2 a2 b2 hb ho2 ho3 hB2 hgr1 hG2 hG5 hlt hwk CN hB1
  go_wp2_with fail
  clear c5
  obtain ⟨N0, hN0⟩ : ∃ N, 1 + (numer k).length = N := ⟨_, rfl⟩
  obtain ⟨L0, hL0⟩ : ∃ L, [3] ++ numer k = L := ⟨_, rfl⟩
  have hN0l : N0 ≤ 11 := by omega
  rw [hN0, hL0] at ho5
  have HN0 := Lib.hid hN0; have HL0 := Lib.hid hL0
  clear hN0 hL0
  go_loopw [0, 19] (fun x y wr => ∃ i : Nat, i ≤ k ∧ y = .int .i64 i ∧ wr.ownsRow B 5 1 x (N0 + ((zs.take i).flatMap encI).length) (u8s (L0 ++ (zs.take i).flatMap encI)) ∧ Gr w (.slice none 0 0) wr x) (fun _ y _ => k - (intOf y).toNat)
  case atStart => exact ⟨0, by omega, rfl, by rw [List.take_zero, List.flatMap_nil, List.append_nil]; exact ho5, hG⟩
  case round =>
    obtain ⟨i, hik, rfl, hown, hG⟩ := hrel
    by_cases hlt : i < k
    · have hlt' : (i : Int) < k := by omega
      have i0 : 0 ≤ (i : Int) := by omega
      have hiz : i < zs.length := by rw [HK.out]; exact hlt
      have hcell : ∀ j, j < 4 → wr.cell? ⟨ga, i * 4 + j, none⟩ = (valI zs[i])[j]? := fun j hj => by
        rcases HV.out i hiz j with h | h
        · rw [← h]
          exact World.cell?_of_block (a := ⟨ga, i * 4 + j, none⟩) (hG.1.block ga (by omega) (hne _))
        · omega
      have v0 := hcell 0 (by omega)
      have v1 := hcell 1 (by omega)
      have v2 := hcell 2 (by omega)
      have v3 := hcell 3 (by omega)
      have hft := flat_take zs i hiz
      have hfl := flat_len (zs.take i)
      rw [List.length_take] at hfl
      obtain ⟨z, hze⟩ : ∃ z, zs[i] = z := ⟨_, rfl⟩
      rw [hze] at v0 v1 v2 v3 hft
      replace v0 : wr.cell? ⟨ga, i * 4, none⟩ = some (.int .i64 1) := v0
      replace v1 : wr.cell? ⟨ga, i * 4 + 1, none⟩ = some (.int .i64 z) := v1
      replace v2 : wr.cell? ⟨ga, i * 4 + 2, none⟩ = some (.string ByteArray.empty) := v2
      replace v3 : wr.cell? ⟨ga, i * 4 + 3, none⟩ = some (.slice none 0 0) := v3
      have hW := hG.blk HW.out (hne _)
      have hP := hG.blk HP.out (hne _)
      have p0 : wr.cell? ⟨gp, 0, none⟩ = some (.pointer (some ⟨gw, 0, none⟩)) := hP.cell 0
      have w1 : wr.cell? ⟨gw, 1, none⟩ = some (.func (.func 130) #[] #[]) := hW.cell 1
      have HFT := Lib.hid hft
      clear hcell hze hft hiz hW hP
      go_upto_region 5 with fail
      have hX : Blk (wr.alloc (.cells (valI z) 113)) wr.heap.size 113 (valI z) := Blk.new _ _ _
      have hown2 := hown.alloc (.cells (valI z) 113)
      have hG2 := hG.trans (Gr.alloc wr u0 (.cells (valI z) 113))
      have hz2 : (wr.alloc (.cells (valI z) 113)).heap.size = wr.heap.size + 1 := by simp
      have p0 := cell_alloc_l (.cells (valI z) 113) p0
      have w1 := cell_alloc_l (.cells (valI z) 113) w1
      generalize hW2 : wr.alloc (Obj.cells _ 113) = W2
      have hz : wr.alloc (.cells (valI z) 113) = W2 := hW2
      rw [hz] at hX hown2 hG2 p0 w1 hz2
      have hsz2 : g3 ≤ wr.heap.size := by rw [← hg3]; exact hG.1.size
      clear hW2 hz v0 v1 v2 v3 hown hG
      obtain ⟨gx, hgx⟩ : ∃ g, wr.heap.size = g := ⟨_, rfl⟩
      rw [hgx] at hX hz2 hsz2 ⊢
      have hX := hX.drewN 1
      have hown2 : (W2.drewN 1).ownsRow B 5 1 u0 _ _ := hown2
      have hG2 : Gr w (.slice none 0 0) (W2.drewN 1) u0 := ⟨⟨hG2.1.os, hG2.1.tape, hG2.1.output, hG2.1.size, hG2.1.block⟩, hG2.2⟩
      have p0 : (W2.drewN 1).cell? ⟨gp, 0, none⟩ = some (.pointer (some ⟨gw, 0, none⟩)) := p0
      have w1 : (W2.drewN 1).cell? ⟨gw, 1, none⟩ = some (.func (.func 130) #[] #[]) := w1
      have hz2 : (W2.drewN 1).heap.size = gx + 1 := hz2
      refine wp_region_still_tail 9 (by kernel_rfl) (by kernel_rfl) ?_
      simp only [List.take_succ_cons, List.take_zero, List.drop_succ_cons, List.drop_zero]
      generalize hwq : ({ W2 with drawn := W2.drawn + 1 } : World) = wq
      have hwq' : W2.drewN 1 = wq := hwq
      rw [hwq'] at hX hown2 hG2 p0 w1 hz2
      clear hwq hwq'
      have x0 : wq.cell? ⟨gx, 0, none⟩ = some (.int .i64 1) := hX.cell 0
      have x1 : wq.cell? ⟨gx, 1, none⟩ = some (.int .i64 z) := hX.cell 1
      have x2 : wq.cell? ⟨gx, 2, none⟩ = some (.string ByteArray.empty) := hX.cell 2
      have x3 : wq.cell? ⟨gx, 3, none⟩ = some (.slice none 0 0) := hX.cell 3
      have hBq : B ≤ wq.heap.size := by omega
      have cw := wint_any B _ u0 _ z wq hown2 hBq (by omega)
      have CW := Lib.hid cw
      clear cw hz2
      iterate 9 still_step
      refine wpStill_nil ?_
      go_wp2_with fail
      refine CW.out.mono ?_
      rintro e w7 ⟨v7, rfl, ho7, hG7⟩
      have hG8 := hG2.trans hG7
      clear CW hX hown2 hG2 hG7 p0 w1 x0 x1 x2 x3
      go_wp2_with fail
      go_roundw
      case rel =>
        refine ⟨i + 1, by omega, by go_num, ?_, hG8⟩
        rw [HFT.out, List.length_append, ← Nat.add_assoc, ← List.append_assoc]
        exact ho7
      case measure => simp [intOf]; omega
    · obtain rfl : i = k := by omega
      rw [List.take_of_length_le (by have := HK.out; omega)] at hown
      go_wp2_with fail
      go_ret
      refine ⟨u0, rfl, ?_, hG⟩
      have e1 : encL zs = L0 ++ zs.flatMap encI := by unfold encL; rw [HK.out, ← HL0.out]; simp
      have e2 : (encL zs).length = N0 + (zs.flatMap encI).length := by rw [e1, List.length_append, ← HL0.out, ← HN0.out, List.length_append]; rfl
      rw [e2, e1]
      exact hown
set_option maxRecDepth 100000 in
set_option maxHeartbeats 1000000 in
theorem formed_int (z : Int) (w : World) : Calls Tryd.prog 129 #[.agg (valI z)] w fun e w' => e = .returned (.tuple #[.int .i64 0, .bool true]) ∧ Below w.heap.size w w' := by
  have hX : Blk (w.alloc (.cells (valI z) 113)) w.heap.size 113 (valI z) := Blk.new _ _ _
  have hb : Below w.heap.size w (w.alloc (.cells (valI z) 113)) := (Below.refl _ w).alloc (Nat.le_refl _) _
  have hz2 : (w.alloc (.cells (valI z) 113)).heap.size = w.heap.size + 1 := by simp
  go_enter Tryd.func129, Tryd.ntmps129
  go_upto_region 1 with fail
  generalize hW2 : w.alloc (Obj.cells _ 113) = W2
  have hz : w.alloc (.cells (valI z) 113) = W2 := hW2
  rw [hz] at hX hb hz2
  clear hW2 hz
  obtain ⟨gx, hgx⟩ : ∃ g, w.heap.size = g := ⟨_, rfl⟩
  rw [hgx] at hX hz2 ⊢
  have x0 : W2.cell? ⟨gx, 0, none⟩ = some (.int .i64 1) := hX.cell 0
  have x1 : W2.cell? ⟨gx, 1, none⟩ = some (.int .i64 z) := hX.cell 1
  have x2 : W2.cell? ⟨gx, 2, none⟩ = some (.string ByteArray.empty) := hX.cell 2
  have x3 : W2.cell? ⟨gx, 3, none⟩ = some (.slice none 0 0) := hX.cell 3
  have hbs := hb.size
  go_wp2_with fail
  all_goals
    go_ret2
    exact ⟨rfl, hb.alloc hbs _⟩
set_option maxRecDepth 100000 in
set_option maxHeartbeats 2000000 in
theorem formed_list (ga k c : Nat) (zs : List Int) (w : World) (hk : zs.length = k) (h0 : 0 < k) (hkc : k ≤ c) (hc : c ≤ 9223372036854775807) (hk9 : k ≤ 1000) (hV : VAt w ga zs) (hga : ga < w.heap.size) :
    Calls Tryd.prog 129 #[.agg (valL (some ⟨ga, 0, none⟩) k c)] w fun e w' => e = .returned (.tuple #[.int .i64 1, .bool true]) ∧ Below w.heap.size w w' := by
  have hX : Blk (w.alloc (.cells (valL (some ⟨ga, 0, none⟩) k c) 113)) w.heap.size 113 (valL (some ⟨ga, 0, none⟩) k c) := Blk.new _ _ _
  have hb : Below w.heap.size w (w.alloc (.cells (valL (some ⟨ga, 0, none⟩) k c) 113)) := (Below.refl _ w).alloc (Nat.le_refl _) _
  have hz2 : (w.alloc (.cells (valL (some ⟨ga, 0, none⟩) k c) 113)).heap.size = w.heap.size + 1 := by simp
  have hk0 : ((k : Int) == 0) = false := by simpa using (by omega : ¬ (k : Int) = 0)
  have hk1 : (k == 0) = false := by simpa using (by omega : ¬ k = 0)
  have HV := Lib.hid hV
  have HK := Lib.hid hk
  clear hk hV
  go_enter Tryd.func129, Tryd.ntmps129
  go_upto_region 1 with fail
  generalize hW2 : w.alloc (Obj.cells _ 113) = W2
  have hz : w.alloc (.cells (valL (some ⟨ga, 0, none⟩) k c) 113) = W2 := hW2
  rw [hz] at hX hb hz2
  clear hW2 hz
  obtain ⟨gx, hgx⟩ : ∃ g, w.heap.size = g := ⟨_, rfl⟩
  rw [hgx] at hX hz2 ⊢
  have x0 : W2.cell? ⟨gx, 0, none⟩ = some (.int .i64 3) := hX.cell 0
  have x1 : W2.cell? ⟨gx, 1, none⟩ = some (.int .i64 0) := hX.cell 1
  have x2 : W2.cell? ⟨gx, 2, none⟩ = some (.string ByteArray.empty) := hX.cell 2
  have x3 : W2.cell? ⟨gx, 3, none⟩ = some (.slice (some ⟨ga, 0, none⟩) k c) := hX.cell 3
  go_wp2_with fail
  have hb2 := hb.alloc hb.size (.cells #[.bool false, .bool false, .bool false, .bool true] 160)
  generalize W2.alloc (.cells #[.bool false, .bool false, .bool false, .bool true] 160) = W3 at hb2 ⊢
  clear x0 x1 x2 x3 hX hb hz2
  go_loopw [2, 57] (fun x y wr => ∃ i : Nat, i ≤ k ∧ x = .int .i64 0 ∧ y = .int .i64 i ∧ Below w.heap.size w wr) (fun _ y _ => k - (intOf y).toNat)
  case atStart => exact ⟨0, by omega, rfl, rfl, hb2⟩
  case round =>
    obtain ⟨i, hik, rfl, rfl, hB⟩ := hrel
    by_cases hlt : i < k
    · have hlt' : (i : Int) < k := by omega
      have i0 : 0 ≤ (i : Int) := by omega
      have hiz : i < zs.length := by rw [HK.out]; exact hlt
      have hcell : ∀ j, j < 4 → wr.cell? ⟨ga, i * 4 + j, none⟩ = (valI zs[i])[j]? := fun j hj => by
        rcases HV.out i hiz j with h | h
        · rw [← h]
          exact hB.cell (p := ⟨ga, i * 4 + j, none⟩) hga
        · omega
      have v0 := hcell 0 (by omega)
      have v1 := hcell 1 (by omega)
      have v2 := hcell 2 (by omega)
      have v3 := hcell 3 (by omega)
      obtain ⟨z, hze⟩ : ∃ z, zs[i] = z := ⟨_, rfl⟩
      rw [hze] at v0 v1 v2 v3
      replace v0 : wr.cell? ⟨ga, i * 4, none⟩ = some (.int .i64 1) := v0
      replace v1 : wr.cell? ⟨ga, i * 4 + 1, none⟩ = some (.int .i64 z) := v1
      replace v2 : wr.cell? ⟨ga, i * 4 + 2, none⟩ = some (.string ByteArray.empty) := v2
      replace v3 : wr.cell? ⟨ga, i * 4 + 3, none⟩ = some (.slice none 0 0) := v3
      have CF := Lib.hid fun W => formed_int z W
      clear hcell hze hiz hb2
      go_upto_region 9 with fail
      have hX : Blk (wr.alloc (.cells (valI z) 113)) wr.heap.size 113 (valI z) := Blk.new _ _ _
      have hb4 := hB.alloc hB.size (.cells (valI z) 113)
      generalize hW2 : wr.alloc (Obj.cells _ 113) = W4
      have hz : wr.alloc (.cells (valI z) 113) = W4 := hW2
      rw [hz] at hX hb4
      clear hW2 hz v0 v1 v2 v3
      obtain ⟨gy, hgy⟩ : ∃ g, wr.heap.size = g := ⟨_, rfl⟩
      rw [hgy] at hX ⊢
      have x0 : W4.cell? ⟨gy, 0, none⟩ = some (.int .i64 1) := hX.cell 0
      have x1 : W4.cell? ⟨gy, 1, none⟩ = some (.int .i64 z) := hX.cell 1
      have x2 : W4.cell? ⟨gy, 2, none⟩ = some (.string ByteArray.empty) := hX.cell 2
      have x3 : W4.cell? ⟨gy, 3, none⟩ = some (.slice none 0 0) := hX.cell 3
      go_wp2_with fail
      refine (CF.out _).mono ?_
      rintro e w7 ⟨rfl, k7⟩
      have b7 := bl hb4 k7
      clear k7 hb4 hX x0 x1 x2 x3
      go_wp2_with fail
      go_roundw
      case rel => exact ⟨i + 1, by omega, rfl, by go_num, b7⟩
      case measure => simp [intOf]; omega
    · obtain rfl : i = k := by omega
      go_wp2_with fail
      go_ret2
      exact ⟨rfl, hB⟩
/-- codec.Check of a list of integers. -/
theorem ccheck_list (ga k c : Nat) (zs : List Int) (w : World) (hk : zs.length = k) (h0 : 0 < k) (hkc : k ≤ c) (hc : c ≤ 9223372036854775807) (hk9 : k ≤ 1000) (hV : VAt w ga zs) (hga : ga < w.heap.size) :
    Calls Tryd.prog 117 #[.agg (valL (some ⟨ga, 0, none⟩) k c)] w fun e w' => e = .returned (.int .i64 0) ∧ Below w.heap.size w w' := by
  have hX : Blk (w.alloc (.cells (valL (some ⟨ga, 0, none⟩) k c) 113)) w.heap.size 113 (valL (some ⟨ga, 0, none⟩) k c) := Blk.new _ _ _
  have hb : Below w.heap.size w (w.alloc (.cells (valL (some ⟨ga, 0, none⟩) k c) 113)) := (Below.refl _ w).alloc (Nat.le_refl _) _
  have hV2 : VAt (w.alloc (.cells (valL (some ⟨ga, 0, none⟩) k c) 113)) ga zs := fun i h j => (hV i h j).imp (fun e => (hb.cell (p := ⟨ga, i * 4 + j, none⟩) hga).trans e) id
  have CF := Lib.hid (formed_list ga k c zs _ hk h0 hkc hc hk9 hV2 (by rw [World.size_alloc]; omega))
  clear hV hV2
  go_enter Tryd.func117, Tryd.ntmps117
  go_upto_region 1 with fail
  generalize hW2 : w.alloc (Obj.cells _ 113) = W2
  have hz : w.alloc (.cells (valL (some ⟨ga, 0, none⟩) k c) 113) = W2 := hW2
  rw [hz] at hX hb CF
  clear hW2 hz
  obtain ⟨gx, hgx⟩ : ∃ g, w.heap.size = g := ⟨_, rfl⟩
  rw [hgx] at hX ⊢
  have x0 : W2.cell? ⟨gx, 0, none⟩ = some (.int .i64 3) := hX.cell 0
  have x1 : W2.cell? ⟨gx, 1, none⟩ = some (.int .i64 0) := hX.cell 1
  have x2 : W2.cell? ⟨gx, 2, none⟩ = some (.string ByteArray.empty) := hX.cell 2
  have x3 : W2.cell? ⟨gx, 3, none⟩ = some (.slice (some ⟨ga, 0, none⟩) k c) := hX.cell 3
  go_wp2_with fail
  refine CF.out.mono ?_
  rintro e w7 ⟨rfl, k7⟩
  have b7 := bl hb k7
  go_wp2_with fail
  go_ret
  exact ⟨rfl, b7⟩
theorem VAt.below {w w' : World} {g : Nat} {zs : List Int} (h : VAt w g zs) (hb : Below w.heap.size w w') (hg : g < w.heap.size) : VAt w' g zs := fun i hi j => (h i hi j).imp (fun e => (hb.cell (p := ⟨g, i * 4 + j, none⟩) hg).trans e) id
theorem gr_below {w w' : World} {v' : Value} (h : Gr w (.slice none 0 0) w' v') : Below w.heap.size w w' := ⟨h.1.os, h.1.tape, h.1.output, h.1.size, fun k hk => h.1.block k hk (fun e => by cases e)⟩
theorem below_undrew {w w' : World} (h : Below w.drew.heap.size w.drew w') : Below w.heap.size w w' := ⟨h.os, h.tape, h.output, h.size, h.block⟩
theorem nw_some (w : World) : Calls Tryd.prog 118 #[] w fun e w' => ∃ gw gp, e = .returned (.pointer (some ⟨gw, 0, none⟩)) ∧ Blk w' gw 153 (writerB gp) ∧ Blk w' gp 139 #[.pointer (some ⟨gw, 0, none⟩)] ∧ Below w.heap.size w w' :=
  (nw_any w).mono fun _ _ ⟨h1, h2, h3, h4⟩ => ⟨_, _, h1, h2, h3, h4⟩
theorem encL_pos (zs : List Int) : 0 < (encL zs).length := by unfold encL; simp
set_option maxRecDepth 100000 in
set_option maxHeartbeats 2000000 in
/-- codec.Encode of a list of integers. -/
theorem cenc_any (ga k c : Nat) (zs : List Int) (w : World) (hk : zs.length = k) (h0 : 0 < k) (hkc : k ≤ c) (hc : c ≤ 9223372036854775807) (hk9 : k ≤ 1000) (hV : VAt w ga zs) (hga : ga < w.heap.size) :
    Calls Tryd.prog 96 #[.agg (valL (some ⟨ga, 0, none⟩) k c)] w fun e w' => ∃ A' c', e = .returned (.tuple #[.slice A' (encL zs).length c', .int .i64 0]) ∧ BS w' A' (encL zs).length c' (encL zs) ∧ Below w.heap.size w w' := by
  have hX : Blk (w.alloc (.cells (valL (some ⟨ga, 0, none⟩) k c) 113)) w.heap.size 113 (valL (some ⟨ga, 0, none⟩) k c) := Blk.new _ _ _
  have hb : Below w.heap.size w (w.alloc (.cells (valL (some ⟨ga, 0, none⟩) k c) 113)) := (Below.refl _ w).alloc (Nat.le_refl _) _
  have hV2 := hV.below hb hga
  have hga2 : ga < (w.alloc (.cells (valL (some ⟨ga, 0, none⟩) k c) 113)).heap.size := by rw [World.size_alloc]; omega
  have CF := Lib.hid (ccheck_list ga k c zs _ hk h0 hkc hc hk9 hV2 hga2)
  have CN := Lib.hid fun W => nw_some W
  have HV := Lib.hid hV2
  have HK := Lib.hid hk
  have HC := Lib.hid fun (gw gp : Nat) (W : World) (hW : Blk W gw 153 (writerB gp)) (hP : Blk W gp 139 #[.pointer (some ⟨gw, 0, none⟩)]) (hV : VAt W ga zs) (hga : ga < W.heap.size) => wlist_any W.heap.size gw gp ga k c zs W (Nat.le_refl _) hk h0 hkc hc hk9 hW hP hV hga
  clear hV hV2 hk
  go_enter Tryd.func96, Tryd.ntmps96
  go_upto_region 1 with fail
  generalize hW2 : w.alloc (Obj.cells _ 113) = W2
  have hz : w.alloc (.cells (valL (some ⟨ga, 0, none⟩) k c) 113) = W2 := hW2
  rw [hz] at hX hb CF HV hga2
  clear hW2 hz
  obtain ⟨gx, hgx⟩ : ∃ g, w.heap.size = g := ⟨_, rfl⟩
  rw [hgx] at hX ⊢
  have x0 : W2.cell? ⟨gx, 0, none⟩ = some (.int .i64 3) := hX.cell 0
  have x1 : W2.cell? ⟨gx, 1, none⟩ = some (.int .i64 0) := hX.cell 1
  have x2 : W2.cell? ⟨gx, 2, none⟩ = some (.string ByteArray.empty) := hX.cell 2
  have x3 : W2.cell? ⟨gx, 3, none⟩ = some (.slice (some ⟨ga, 0, none⟩) k c) := hX.cell 3
  go_wp2_with fail
  refine CF.out.mono ?_
  rintro e w7 ⟨rfl, k7⟩
  have b7 := bl hb k7
  have hX7 := hX.below k7 hX.lt
  have hV7 := (HV.out).below k7 hga2
  have hg7 : ga < w7.heap.size := Nat.lt_of_lt_of_le hga2 k7.size
  clear CF x0 x1 x2 x3 hX hb k7 HV hga2
  have x0 : w7.cell? ⟨gx, 0, none⟩ = some (.int .i64 3) := hX7.cell 0
  have x1 : w7.cell? ⟨gx, 1, none⟩ = some (.int .i64 0) := hX7.cell 1
  have x2 : w7.cell? ⟨gx, 2, none⟩ = some (.string ByteArray.empty) := hX7.cell 2
  have x3 : w7.cell? ⟨gx, 3, none⟩ = some (.slice (some ⟨ga, 0, none⟩) k c) := hX7.cell 3
  have HX7 := Lib.hid hX7
  have HV7 := Lib.hid hV7
  clear hX7 hV7
  go_upto_region 4 with fail
  go_region_with
    (first | (go_at_call 118; refine (CN.out _).mono ?_; rintro e w8 ⟨gw, gp, rfl, hW8, hP8, k8⟩; have k8 := below_undrew k8; have hX8 : Blk w8 gx 113 (valL (some ⟨ga, 0, none⟩) k c) := (HX7.out).below k8 (HX7.out).lt; have hV8 : VAt w8 ga zs := (HV7.out).below k8 hg7; have hg8 : ga < w8.heap.size := Nat.lt_of_lt_of_le hg7 k8.size; have q3 : w8.cell? ⟨gw, 3, none⟩ = some (.func (.func 134) #[] #[.pointer (some ⟨gp, 0, none⟩)]) := hW8.cell 3; have y0 : w8.cell? ⟨gx, 0, none⟩ = some (.int .i64 3) ∧ w8.cell? ⟨gx, 1, none⟩ = some (.int .i64 0) ∧ w8.cell? ⟨gx, 2, none⟩ = some (.string ByteArray.empty) ∧ w8.cell? ⟨gx, 3, none⟩ = some (.slice (some ⟨ga, 0, none⟩) k c) := ⟨hX8.cell 0, hX8.cell 1, hX8.cell 2, hX8.cell 3⟩; have cL := Lib.hid (HC.out gw gp w8 hW8 hP8 hV8 hg8)) | (go_at_call 134; refine cL.out.mono ?_; rintro e w9 ⟨v9, rfl, ho9, hG9⟩; have k9 := gr_below hG9; have z0 : w9.cell? ⟨gx, 0, none⟩ = some (.int .i64 3) ∧ w9.cell? ⟨gx, 1, none⟩ = some (.int .i64 0) ∧ w9.cell? ⟨gx, 2, none⟩ = some (.string ByteArray.empty) ∧ w9.cell? ⟨gx, 3, none⟩ = some (.slice (some ⟨ga, 0, none⟩) k c) := ⟨(hX8.below k9 hX8.lt).cell 0, (hX8.below k9 hX8.lt).cell 1, (hX8.below k9 hX8.lt).cell 2, (hX8.below k9 hX8.lt).cell 3⟩))
  all_goals (
    have b9 := bl (bl b7 k8) k9
    obtain ⟨A9, c9, rfl, hs9⟩ := ownsRow_bs ho9 (encL_pos zs)
    clear HC CN HX7 HV7 x0 x1 x2 x3 hX8 hV8 q3 y0 z0 cL hG9 ho9 hW8 hP8
    go_wp2_with fail
    go_ret2
    exact ⟨A9, c9, rfl, hs9, b9⟩)
set_option maxRecDepth 100000 in
/-- slices.Clone of bytes that are not nil. -/
theorem clone_any (a : Addr) (n c : Nat) (l : List UInt8) (w : World) (h : BS w (some a) n c l) (hn : n ≤ 1000000) :
    Calls Tryd.prog 114 #[.slice (some a) n c] w fun e w' => ∃ v', e = .returned v' ∧ w'.ownsRow w.heap.size 5 1 v' n (u8s l) ∧ Below w.heap.size w w' := by
  have hb1 : Below w.heap.size w (w.alloc (.cells #[] 5)) := (Below.refl _ w).alloc (Nat.le_refl _) _
  have hown : (w.alloc (.cells #[] 5)).ownsRow w.heap.size 5 1 (.slice (some ⟨w.heap.size, 0, none⟩) 0 0) 0 (u8s []) := World.ownsRow_made w #[] 0 (Nat.le_refl _) (by unfold maxLen; omega) rfl
  have hs1 := h.below hb1
  clear h
  have hq := fun W => Lib.run_eql_slice_nil (P := Tryd.prog) W 22 5 (some a) n c 0 0 Tryd.underlying22
  go_enter Tryd.func114, Tryd.ntmps114
  go_wp2_with (at_builtin; refine wpList_append_bs rfl (.tmp 5) (.tmp 6) rfl w.heap.size 0 n c _ _ _ _ rfl rfl hown hs1 (by omega) hb1.size ?_)
  intro v2 w2 ho2 hb2
  have hb2 := hb2 _ hb1
  clear hown hs1 hb1
  go_wp2_with fail
  go_ret
  exact ⟨v2, rfl, by simpa using ho2, hb2⟩
theorem info113 : (Tryd.prog.info? 113).map (fun i => (i.zero, i.size, i.bytes)) = some (some (.agg #[.int .i64 0, .int .i64 0, .string ByteArray.empty, .slice none 0 0]), 4, 56) := by kernel_rfl
def ints (zs : List Int) : Array Value := (zs.map (Value.int .i64)).toArray
theorem ints_get (zs : List Int) (i : Nat) (h : i < zs.length) : (ints zs)[i]? = some (.int .i64 zs[i]) := by
  unfold ints; rw [List.getElem?_toArray, List.getElem?_map, List.getElem?_eq_getElem h]; rfl
/-- the cells of a list that is being filled. -/
def valX (V : Value) : Array Value := #[.int .i64 3, .int .i64 0, .string ByteArray.empty, V]
theorem own_set {w : World} {B n sz : Nat} {E : TypeId} {v : Value} {xs : List Value} (h : w.ownsRow B E sz v n xs) {p : Addr} (hp : p.block < B) (u : Value) : (w.setCell p u).ownsRow B E sz v n xs := by
  refine ⟨h.1, ?_⟩
  rcases h.2 with hn | ⟨g, cap, cur, rfl, hB, hgg, rest⟩
  · exact .inl hn
  · exact .inr ⟨g, cap, cur, rfl, hB, (Below.heap_setCell w p u g (by omega)).trans hgg, rest⟩
theorem own_form {w : World} {B n sz : Nat} {E : TypeId} {v : Value} {xs : List Value} (h : w.ownsRow B E sz v n xs) (h0 : 0 < n) : ∃ g c, v = .slice (some ⟨g, 0, none⟩) n c := by
  rcases h.2 with ⟨_, hn⟩ | ⟨g, cap, _, hv, _⟩
  · omega
  · exact ⟨g, cap, hv⟩
def flatV (zs : List Int) : List Value := zs.flatMap fun z => (valI z).toList
theorem flatV_len : ∀ zs : List Int, (flatV zs).length = 4 * zs.length
  | [] => rfl
  | z :: zs => by
    have h := flatV_len zs
    unfold flatV at *
    rw [List.flatMap_cons, List.length_append, h, List.length_cons]
    show 4 + _ = _; omega
theorem flatV_take (zs : List Int) (i : Nat) (h : i < zs.length) : flatV (zs.take (i + 1)) = flatV (zs.take i) ++ (valI zs[i]).toList := by
  unfold flatV
  rw [List.take_succ_eq_append_getElem h, List.flatMap_append, List.flatMap_singleton]
theorem flatV_get : ∀ (zs : List Int) (i : Nat) (h : i < zs.length) (j : Nat), j < 4 → (flatV zs)[i * 4 + j]? = (valI zs[i])[j]?
  | z :: zs, 0, _, j, hj => by
    unfold flatV
    rw [List.flatMap_cons, List.getElem?_append_left (by show 0 * 4 + j < 4; omega), Nat.zero_mul, Nat.zero_add, Array.getElem?_toList]; rfl
  | z :: zs, i + 1, h, j, hj => by
    have := flatV_get zs i (by simpa using h) j hj
    unfold flatV at *
    rw [List.flatMap_cons, List.getElem?_append_right (by show 4 ≤ _; omega), show (valI z).toList.length = 4 from rfl, show (i + 1) * 4 + j - 4 = i * 4 + j by omega]
    exact this
theorem own_vat {w : World} {B k : Nat} {v : Value} {zs : List Int} (h : w.ownsRow B 113 4 v k (flatV zs)) (hk : zs.length = k) (h0 : 0 < k) : ∃ g c, v = .slice (some ⟨g, 0, none⟩) k c ∧ k ≤ c ∧ c ≤ 9223372036854775807 ∧ VAt w g zs ∧ g < w.heap.size := by
  rcases h.2 with ⟨_, hn⟩ | ⟨g, cap, cur, rfl, hB, hgg, hnc, hcm, hcs, htake⟩
  · have := h.1; rw [flatV_len] at this; omega
  · refine ⟨g, cap, rfl, hnc, by unfold maxLen at hcm; omega, fun i hi j => ?_, (Array.getElem?_eq_some_iff.1 hgg).1⟩
    by_cases hj : j < 4
    · left
      rw [cell_of_row w g (i * 4 + j) cur _ (0, 0) hgg, ← flatV_get zs i hi j hj, ← Array.getElem?_toList]
      have hl := flatV_len zs
      have hlt : i * 4 + j < (flatV zs).length := by omega
      have := congrArg (fun l => l[i * 4 + j]?) htake
      rw [← htake, List.getElem?_take, if_pos (by omega)]
    · right; omega
set_option maxRecDepth 100000 in
set_option maxHeartbeats 2000000 in
/-- tree.hash. -/
theorem thash_any (tag : List UInt8) (ad : Addr) (n c gz k : Nat) (l : List UInt8) (zs : List Int) (w : World) (ht : tag.length ≤ 100) (h : BS w (some ad) n c l) (hn : n ≤ 1000) (hk : zs.length = k) (h0 : 0 < k) (hk9 : k ≤ 100) (hz : Blk w gz 3 (ints zs)) (hT : Tabs w) :
    Calls Tryd.prog 87 #[.string ⟨tag.toArray⟩, .slice (some ad) n c, .slice (some ⟨gz, 0, none⟩) k k] w fun e w' => e = .returned (.agg (u8s (tagB tag (l ++ encL zs))).toArray) ∧ Below w.heap.size w w' := by
  obtain ⟨inf, hi, hzr, hsize, hby⟩ := info_parts info113
  have hgz := hz.lt
  have hb1 : Below w.heap.size w ((w.alloc (.cells z32 41)).alloc (.cells (valX (.slice none 0 0)) 113)) := ((Below.refl _ w).alloc (Nat.le_refl _) _).alloc (by simp) _
  have hD : Blk ((w.alloc (.cells z32 41)).alloc (.cells (valX (.slice none 0 0)) 113)) w.heap.size 41 z32 := (Blk.new _ _ _).alloc _
  have hX : Blk ((w.alloc (.cells z32 41)).alloc (.cells (valX (.slice none 0 0)) 113)) (w.heap.size + 1) 113 (valX (.slice none 0 0)) := by
    have := Blk.new (w.alloc (.cells z32 41)) 113 (valX (.slice none 0 0))
    rwa [World.size_alloc] at this
  have hsz : ((w.alloc (.cells z32 41)).alloc (.cells (valX (.slice none 0 0)) 113)).heap.size = w.heap.size + 2 := by simp
  have HZ := Lib.hid hz; have HBS := Lib.hid h; have HT := Lib.hid hT
  have HK := Lib.hid hk
  have htl : (tagB tag (l ++ encL zs)).length = 32 := tagB_length _ _
  obtain ⟨dg, hdg⟩ : ∃ dg, tagB tag (l ++ encL zs) = dg := ⟨_, rfl⟩
  rw [hdg] at htl ⊢
  have hsz3 : (u8s dg).toArray.size = 32 := by rw [List.size_toArray, u8s_length, htl]
  have hall := u8s_all dg
  obtain ⟨es, hes⟩ : ∃ es, (u8s dg).toArray = es := ⟨_, rfl⟩
  rw [hes] at hsz3 hall ⊢
  have HDG := Lib.hid hdg
  have HES := Lib.hid hes
  clear hz h hT hk hdg hes htl
  go_enter Tryd.func87, Tryd.ntmps87
  go_upto_region 2 with fail
  generalize hW0 : (w.alloc (Obj.cells _ 41)).alloc (Obj.cells _ 113) = W1
  have hzz : (w.alloc (.cells z32 41)).alloc (.cells (valX (.slice none 0 0)) 113) = W1 := hW0
  rw [hzz] at hb1 hD hX hsz
  clear hW0 hzz
  go_wp2_with fail
  have hor : W1.ownsRow (w.heap.size + 2) 113 4 (.slice none 0 0) 0 (flatV (zs.take 0)) := World.ownsRow_nil _ _ _ _
  go_loopw [15] (fun y wr => ∃ (i : Nat) (V : Value), i ≤ k ∧ y = .int .i64 i ∧ Below w.heap.size w wr ∧ Blk wr w.heap.size 41 z32 ∧ Blk wr (w.heap.size + 1) 113 (valX V) ∧ wr.ownsRow (w.heap.size + 2) 113 4 V i (flatV (zs.take i)) ∧ w.heap.size + 2 ≤ wr.heap.size) (fun y _ => k - (intOf y).toNat)
  case atStart => exact ⟨0, _, by omega, rfl, hb1, hD, hX, hor, by omega⟩
  case round =>
    obtain ⟨i, V, hik, rfl, hB, hD, hX, hown, hsz2⟩ := hrel
    clear hb1 hor
    by_cases hlt : i < k
    · have hlt' : (i : Int) < k := by omega
      have i0 : 0 ≤ (i : Int) := by omega
      have hiz : i < zs.length := by rw [HK.out]; exact hlt
      have cz := ((hB.cell (p := ⟨gz, i, none⟩) hgz).trans ((HZ.out).cell i)).trans (ints_get zs i hiz)
      have hft := flatV_take zs i hiz
      obtain ⟨z, hze⟩ : ∃ z, zs[i] = z := ⟨_, rfl⟩
      rw [hze] at cz hft
      have HFT := Lib.hid hft
      have y3 : wr.cell? ⟨w.heap.size + 1, 3, none⟩ = some V := hX.cell 3
      have f3 : wr.frozen? ⟨w.heap.size + 1, 3, none⟩ = false := hX.frozen 3
      have hwx : Below (w.heap.size + 2) wr (wr.alloc (.cells (valI z) 113)) := (Below.refl _ _).alloc hsz2 _
      have hownx := hown.alloc (.cells (valI z) 113)
      have hnx : ∀ (j : Nat) (u : Value), (valI z).toList[j]? = some u → (wr.alloc (.cells (valI z) 113)).cell? ((⟨wr.heap.size, 0, none⟩ : Addr).add j) = some u := by
        intro j u hu
        rw [addr_mid, Nat.zero_add, cell_of_row _ _ j _ 113 (0, 0) (heap_new wr _), ← Array.getElem?_toList]; exact hu
      have hbx : w.heap.size + 2 ≤ (wr.alloc (.cells (valI z) 113)).heap.size := by rw [World.size_alloc]; omega
      have hone : ∀ u ∈ (valI z).toList, u.oneCell' = true := by
        intro u hu
        have hu : u ∈ [Value.int .i64 1, .int .i64 z, .string ByteArray.empty, .slice none 0 0] := hu
        simp only [List.mem_cons, List.not_mem_nil, or_false] at hu
        rcases hu with rfl | rfl | rfl | rfl <;> rfl
      have k1 : i + 1 ≤ maxLen := by unfold maxLen; omega
      have k2 : (i + 1) * 56 ≤ 140737488355328 := by omega
      clear hft hze hiz
      go_wp2_with (at_builtin; refine wpList_append_own _ rfl (.tmp 20) (.tmp 23) 111 rfl (w.heap.size + 2) 113 inf _ 4 56 Tryd.underlying111 hi hzr hsize hby rfl (by decide) V i _ rfl hownx ⟨wr.heap.size, 0, none⟩ 1 1 (valI z).toList rfl rfl hnx hone k1 k2 hbx ?_)
      intro v2 w2 ho2 hgr2 _
      have kb : Below (w.heap.size + 2) wr w2 := hwx.grown hgr2 hbx (fun k e => (hownx.lt k e).1)
      have hX2 := hX.below kb (by omega)
      have hD2 := hD.below kb (by omega)
      have hB2 : Below w.heap.size w w2 := hB.trans (kb.mono (by omega))
      have hs2 : w.heap.size + 2 ≤ w2.heap.size := Nat.le_trans hsz2 kb.size
      clear y3 f3 hwx hownx hnx hbx hone k1 k2 kb hgr2 hX hD hB hown
      obtain ⟨g2, cp2, rfl⟩ := own_form ho2 (by omega)
      have y3 : w2.cell? ⟨w.heap.size + 1, 3, none⟩ = some V := hX2.cell 3
      have f3 : w2.frozen? ⟨w.heap.size + 1, 3, none⟩ = false := hX2.frozen 3
      go_wp2_with fail
      go_roundw
      case rel =>
        exact ⟨i + 1, _, by omega, by go_num, hB2.setCell (p := ⟨w.heap.size + 1, 3, none⟩) (by show w.heap.size ≤ w.heap.size + 1; omega) _, hD2.far (p := ⟨w.heap.size + 1, 3, none⟩) (by show w.heap.size ≠ w.heap.size + 1; omega) _, hX2.set_ 3 _,
          own_set (p := ⟨w.heap.size + 1, 3, none⟩) (by rw [HFT.out]; exact ho2) (by show w.heap.size + 1 < w.heap.size + 2; omega) _, by rw [World.size_setCell]; exact hs2⟩
      case measure => simp [intOf]; omega
    · obtain rfl : i = k := by omega
      rw [List.take_of_length_le (by have := HK.out; omega)] at hown
      obtain ⟨ga, ca, rfl, hkc, hca, hV, hga⟩ := own_vat hown HK.out h0
      have y0 : wr.cell? ⟨w.heap.size + 1, 0, none⟩ = some (.int .i64 3) := hX.cell 0
      have y1 : wr.cell? ⟨w.heap.size + 1, 1, none⟩ = some (.int .i64 0) := hX.cell 1
      have y2 : wr.cell? ⟨w.heap.size + 1, 2, none⟩ = some (.string ByteArray.empty) := hX.cell 2
      have y3 : wr.cell? ⟨w.heap.size + 1, 3, none⟩ = some (.slice (some ⟨ga, 0, none⟩) i ca) := hX.cell 3
      have CE := Lib.hid (cenc_any ga i ca zs wr HK.out h0 hkc hca (by omega) hV hga)
      have hel : (encL zs).length ≤ 2000 := by
        unfold encL
        rw [List.length_cons, List.length_append, HK.out]
        have := numer_ten (u := i) (by omega)
        have := flat_len zs
        have := HK.out
        omega
      clear hown hV hX
      go_wp2_with fail
      refine CE.out.mono ?_
      rintro e w3 ⟨A3, c3, rfl, hs3, k3⟩
      have b3 := bl hB k3
      have hD3 := hD.below k3 (by omega)
      clear y0 y1 y2 y3 CE hB hD k3
      have hs2 := (HBS.out).below b3
      have CC := Lib.hid (clone_any ad n c l w3 hs2 (by omega))
      clear hs2
      go_wp2_with fail
      refine CC.out.mono ?_
      rintro e w4 ⟨v4, rfl, ho4, k4⟩
      have hs4 := hs3.below k4
      have z4 := k4.size
      clear CC
      go_wp2_with (at_builtin; refine wpList_append_bs rfl (.tmp 34) (.tmp 35) rfl w3.heap.size n (encL zs).length c3 _ _ _ _ rfl rfl ho4 hs4 (by omega) z4 ?_)
      intro v5 w5 ho5 hb5
      have k5 := hb5 w3 k4
      have b5 := bl b3 k5
      have hD5 := hD3.below k5 hD3.lt
      obtain ⟨A6, c6, rfl, hs6⟩ := ownsRow_bs ho5 (by have := encL_pos zs; omega)
      have ct := tagged_any tag A6 (n + (encL zs).length) c6 (l ++ encL zs) w5 (by omega) hs6 (by omega) ((HT.out).ext b5)
      rw [show sha (sha tag ++ (l ++ encL zs)) = tagB tag (l ++ encL zs) from rfl] at ct
      rw [HDG.out, HES.out] at ct
      have CT := Lib.hid ct
      clear ct hs6 ho5 hb5 ho4 hs4 z4 k4 b3 hD3 k5 hs3
      go_wp2_with fail
      refine CT.out.mono ?_
      rintro e w6 ⟨rfl, k6⟩
      have b6 := bl b5 k6
      have hD6 := hD5.below k6 hD5.lt
      clear CT b5 hD5 k6
      dsimp only
      go_step
      refine wpList_store_row rfl 41 (.tmp 6) (.tmp 37) rfl w.heap.size es (by rfl) (by rfl) 41 z32 hD6 (by rw [hsz3]; kernel_rfl) (by rw [hsz3]; rfl) hall ?_
      have hD7 : Blk (w6.setRow w.heap.size es) w.heap.size 41 es := setRow_heap _ _ _ _ _ _ hD6
      have hB7 : Below w.heap.size w (w6.setRow w.heap.size es) := below_setRow b6 (Nat.le_refl _) _
      generalize w6.setRow w.heap.size es = w7 at hD7 hB7 ⊢
      apply wpList_nil
      go_wp2_with fail
      refine bodyPost_ret (v := .agg es) ?_ rfl ⟨rfl, hB7⟩
      exact results_cell_row (p := 6) (ty := 41) rfl _ w7 w.heap.size 41 es (0, 0) _ rfl hD7 Tryd.underlying41 rfl (by rw [hsz3]; kernel_rfl)
end Go.Proofs.YtedokiemlkccaaaDoor
