/-
  WiB: numbers, texts and frames as bytes: what is encoded is decoded again. Own work.
-/
import Derived.Test.YtpldjopnhhbjpaaGreatRM
import Derived.Test.YtpldjopnhhbjpaaGreatHxQ
namespace Go.Proofs.YtpldjopnhhbjpaaGreat
open Go.Hx

theorem u8w (n : Int) : IntKind.u8.wrap n = n % 256 := rfl
theorem u32w (n : Int) : IntKind.u32.wrap n = n % 4294967296 := rfl
theorem u64w (n : Int) : IntKind.u64.wrap n = n % 18446744073709551616 := rfl

theorem shR64 (v n : Nat) (h : n ≤ 64) : shR .u64 (v : Int) (n : Int) = ((v / 2 ^ n : Nat) : Int) := by
  unfold shR
  rw [Int.toNat_natCast, Nat.min_eq_left (show n ≤ IntKind.u64.bits from h), show ((2 : Int) ^ n) = ((2 ^ n : Nat) : Int) by push_cast; rfl, Int.ofNat_fdiv]
theorem shR32 (v n : Nat) (h : n ≤ 32) : shR .u32 (v : Int) (n : Int) = ((v / 2 ^ n : Nat) : Int) := by
  unfold shR
  rw [Int.toNat_natCast, Nat.min_eq_left (show n ≤ IntKind.u32.bits from h), show ((2 : Int) ^ n) = ((2 ^ n : Nat) : Int) by push_cast; rfl, Int.ofNat_fdiv]
theorem shL64 (v : Nat) (h : v < 2 ^ 57) : shL .u64 (v : Int) 7 = ((v * 2 ^ 7 : Nat) : Int) := by
  unfold shL
  rw [u64w, show ((2 : Int) ^ (min (7 : Int).toNat IntKind.u64.bits)) = 128 from rfl]
  omega
theorem shL32 (v n : Nat) (hn : n ≤ 32) (h : v * 2 ^ n < 4294967296) : shL .u32 (v : Int) (n : Int) = ((v * 2 ^ n : Nat) : Int) := by
  unfold shL
  rw [u32w, Int.toNat_natCast, Nat.min_eq_left (show n ≤ IntKind.u32.bits from hn), show ((v : Int) * (2 : Int) ^ n) = ((v * 2 ^ n : Nat) : Int) by push_cast; rfl]
  omega
theorem bv_or (w a b : Nat) : (BitVec.ofInt w (a : Int) ||| BitVec.ofInt w (b : Int)).toNat = (a ||| b) % 2 ^ w := by
  rw [BitVec.ofInt_natCast, BitVec.ofInt_natCast, BitVec.toNat_or, BitVec.toNat_ofNat, BitVec.toNat_ofNat, Nat.or_mod_two_pow]
theorem bv_and (w a b : Nat) : (BitVec.ofInt w (a : Int) &&& BitVec.ofInt w (b : Int)).toNat = (a &&& b) % 2 ^ w := by
  rw [BitVec.ofInt_natCast, BitVec.ofInt_natCast, BitVec.toNat_and, BitVec.toNat_ofNat, BitVec.toNat_ofNat, Nat.and_mod_two_pow]
theorem or_add (A i b : Nat) (h : b < 2 ^ i) : A * 2 ^ i ||| b = A * 2 ^ i + b := by
  have := Nat.shiftLeft_add_eq_or_of_lt h A
  rw [Nat.shiftLeft_eq] at this
  exact this.symm
theorem or64 (A b : Nat) (hb : b < 128) (h : A * 2 ^ 7 + b < 2 ^ 64) : bOr .u64 ((A * 2 ^ 7 : Nat) : Int) (b : Int) = ((A * 2 ^ 7 + b : Nat) : Int) := by
  unfold bOr
  rw [show IntKind.u64.bits = 64 from rfl, bv_or, or_add A 7 b hb, u64w]
  omega
theorem or32 (A i b : Nat) (hb : b < 2 ^ i) (h : A * 2 ^ i + b < 4294967296) : bOr .u32 ((A * 2 ^ i : Nat) : Int) (b : Int) = ((A * 2 ^ i + b : Nat) : Int) := by
  unfold bOr
  rw [show IntKind.u32.bits = 32 from rfl, bv_or, or_add A i b hb, u32w]
  omega
theorem and64 (v : Nat) : bAnd .u64 (v : Int) 127 = ((v % 128 : Nat) : Int) := by
  unfold bAnd
  rw [show IntKind.u64.bits = 64 from rfl, show (127 : Int) = ((127 : Nat) : Int) from rfl, bv_and, u64w]
  have := Nat.and_two_pow_sub_one_eq_mod v 7
  rw [show 2 ^ 7 - 1 = 127 from rfl] at this
  rw [this]
  omega
theorem or8f : ∀ c : Fin 256, bOr .u8 ((c.val : Nat) : Int) 128 = ((c.val % 128 + 128 : Nat) : Int) := by decide +kernel
theorem and8f : ∀ c : Fin 256, bAnd .u8 ((c.val : Nat) : Int) 127 = ((c.val % 128 : Nat) : Int) := by decide +kernel
theorem or8 (c : Nat) (h : c < 256) : bOr .u8 (c : Int) 128 = ((c % 128 + 128 : Nat) : Int) := or8f ⟨c, h⟩
theorem and8 (c : Nat) (h : c < 256) : bAnd .u8 (c : Int) 127 = ((c % 128 : Nat) : Int) := and8f ⟨c, h⟩

/-! ### bytes -/
theorem bS_app (a b : List Int) : bS (a ++ b) = bS a ++ bS b := by simp [bS]
theorem bS_sB (s : List UInt8) : bS (sB s) = s := by
  unfold bS sB
  rw [List.map_map]
  conv => rhs; rw [← List.map_id s]
  refine List.map_congr_left fun c _ => ?_
  simp
theorem sB_len (s : List UInt8) : (sB s).length = s.length := by simp [sB]
theorem bS_len (l : List Int) : (bS l).length = l.length := by simp [bS]
theorem bS_one (n : Nat) : bS [(n : Int)] = [UInt8.ofNat n] := by simp [bS]
theorem bS_cons (n : Nat) (l : List Int) : bS ((n : Int) :: l) = UInt8.ofNat n :: bS l := by simp [bS]
theorem u8n (n : Nat) (h : n < 256) : (UInt8.ofNat n).toNat = n := by simp [UInt8.toNat_ofNat']; omega

/-! ### numbers in groups of seven bits -/
def grp (v : Nat) : Nat := if _h : v < 128 then 0 else grp (v / 128) + 1
termination_by v
decreasing_by omega
def gb : Nat → Nat → List Int
  | 0, _ => []
  | g + 1, v => (((v / 128 ^ (g + 1)) % 128 + 128 : Nat) : Int) :: gb g v
def vi (v : Nat) : List Int := gb (grp v) v ++ [((v % 128 : Nat) : Int)]
def vb (v : Nat) : List UInt8 := bS (vi v)

theorem div_pow (v i : Nat) : v / 128 ^ (i + 1) = v / 128 / 128 ^ i := by rw [Nat.div_div_eq_div_mul, Nat.pow_succ, Nat.mul_comm]
theorem div_pow' (v i : Nat) : v / 128 ^ (i + 1) = v / 128 ^ i / 128 := by rw [Nat.div_div_eq_div_mul, Nat.pow_succ]
theorem grp_lt (v : Nat) : v / 128 ^ grp v < 128 := by
  induction v using grp.induct with
  | case1 v h => rw [grp]; simp [h]
  | case2 v h ih => rw [grp, dif_neg h, div_pow]; exact ih
theorem grp_ge (v : Nat) : ∀ i, i < grp v → 128 ≤ v / 128 ^ i := by
  induction v using grp.induct with
  | case1 v h => rw [grp]; simp [h]
  | case2 v h ih =>
    rw [grp, dif_neg h]
    intro i hi
    cases i with
    | zero => simp; omega
    | succ i => rw [div_pow]; exact ih i (by omega)
theorem grp_le (v : Nat) (h : v < 562949953421312) : grp v ≤ 6 := by
  rcases Nat.lt_or_ge 6 (grp v) with hg | hg
  · have := grp_ge v 6 hg
    have e : (128 : Nat) ^ 6 = 4398046511104 := by decide
    rw [e] at this
    omega
  · exact hg
theorem gb_len : ∀ (g v : Nat), (gb g v).length = g
  | 0, _ => rfl
  | g + 1, v => by simp [gb, gb_len g v]
theorem vi_len (v : Nat) (h : v < 562949953421312) : (vi v).length ≤ 7 := by
  have := grp_le v h
  simp [vi, gb_len]; omega
theorem vb_len (v : Nat) (h : v < 562949953421312) : (vb v).length ≤ 7 := by rw [vb, bS_len]; exact vi_len v h

theorem p128 (i : Nat) : (2 : Nat) ^ (7 * i) = 128 ^ i := by rw [Nat.pow_mul]

section
variable (k : Nat)

theorem U2 (v : Nat) (hv : v < 562949953421312) : ∀ (j i : Nat), i ≤ grp v → grp v - i < j → wire_Enc_U_l2 k (v : Int) j ((7 * i : Nat) : Int) = some ((7 * grp v : Nat) : Int)
  | 0, i, _, hj => by omega
  | j + 1, i, hi, hj => by
    have hg := grp_le v hv
    rw [wire_Enc_U_l2, if_pos (by omega), shR64 v (7 * i) (by omega), p128]
    by_cases h : i < grp v
    · have := grp_ge v i h
      have hgt : ((v / 128 ^ i : Nat) : Int) > 127 := by generalize v / 128 ^ i = x at this ⊢; omega
      rw [if_pos (decide_eq_true hgt), wr (by omega), show (((7 * i : Nat) : Int) + 7) = ((7 * (i + 1) : Nat) : Int) by omega]
      exact U2 v hv j (i + 1) (by omega) (by omega)
    · have he : i = grp v := by omega
      have := grp_lt v
      rw [← he] at this
      have hle : ¬ ((v / 128 ^ i : Nat) : Int) > 127 := by generalize v / 128 ^ i = x at this ⊢; omega
      rw [if_neg (fun h => hle (of_decide_eq_true h)), he]

theorem U3 (v : Nat) : ∀ (j g : Nat) (acc : List Int), g < j → g ≤ 6 → acc.length + g ≤ 900000 → wire_Enc_U_l3 k (v : Int) j ((7 * g : Nat) : Int) acc = some (acc ++ gb g v)
  | 0, _, _, hj, _, _ => by omega
  | j + 1, 0, acc, _, _, _ => by
    rw [wire_Enc_U_l3, if_neg (by simp)]
    simp [gb]
  | j + 1, g + 1, acc, hj, hg, hl => by
    rw [wire_Enc_U_l3, if_pos (by simp; omega), if_pos (by omega), if_pos (room_of (by simp; omega) (by omega)), wr (by omega), show (((7 * (g + 1) : Nat) : Int) - 7) = ((7 * g : Nat) : Int) by omega,
      U3 v j g _ (by omega) (by omega) (by simp; omega), shR64 v (7 * (g + 1)) (by omega), p128, u8w]
    rw [show (((v / 128 ^ (g + 1) : Nat) : Int) % 256) = ((v / 128 ^ (g + 1) % 256 : Nat) : Int) by omega, or8 _ (by omega)]
    simp only [gb, List.append_assoc, List.singleton_append]
    rw [show v / 128 ^ (g + 1) % 256 % 128 = v / 128 ^ (g + 1) % 128 by omega]

theorem U_one (hk : 20 < k) (acc : List Int) (v : Nat) (hv : v < 562949953421312) (hl : acc.length ≤ 800000) : wire_Enc_U k ⟨acc⟩ [(v : Int)] = some (acc ++ vi v) := by
  have hg := grp_le v hv
  unfold wire_Enc_U
  have e : ∀ j, wire_Enc_U_l1 k [(v : Int)] (j + 1 + 1) 0 acc = some (acc ++ vi v) := fun j => by
    rw [wire_Enc_U_l1, if_pos (by simp), show gt [(v : Int)] (0 : Int) = some (v : Int) from rfl]
    simp only [bind_some]
    rw [show (0 : Int) = ((7 * 0 : Nat) : Int) from rfl, U2 k v hv k 0 (by omega) (by omega)]
    simp only [bind_some]
    rw [U3 k v k (grp v) acc (by omega) (by omega) (by omega)]
    simp only [bind_some]
    rw [if_pos (room_of (by simp [gb_len]; omega) (by omega)), and64, u8w, wire_Enc_U_l1, if_neg (by rw [wr (by omega)]; simp),
      show (((v % 128 : Nat) : Int) % 256) = ((v % 128 : Nat) : Int) by omega]
    simp [vi]
  obtain ⟨j, hj⟩ : ∃ j, k = j + 1 + 1 := ⟨k - 2, by omega⟩
  have e2 := e j
  rw [← hj] at e2
  rw [e2]
  rfl

theorem I_two (hk : 20 < k) (acc : List Int) (a b : Nat) (ha : a < 562949953421312) (hb : b < 562949953421312) (hl : acc.length ≤ 700000) : wire_Enc_I k ⟨acc⟩ [(a : Int), (b : Int)] = some (acc ++ vi a ++ vi b) := by
  unfold wire_Enc_I
  have w : ∀ v : Nat, v < 562949953421312 → IntKind.u64.wrap (mx2 (v : Int) 0) = (v : Int) := fun v hv => by
    rw [show mx2 (v : Int) 0 = (v : Int) from by unfold mx2; rw [if_neg (by omega)], u64w]; omega
  have e : ∀ j, wire_Enc_I_l1 k [(a : Int), (b : Int)] (j + 1 + 1 + 1) 0 acc = some (acc ++ vi a ++ vi b) := fun j => by
    have l1 := vi_len a ha
    rw [wire_Enc_I_l1, if_pos (by simp), show gt [(a : Int), (b : Int)] (0 : Int) = some (a : Int) from rfl]
    simp only [bind_some]
    rw [w a ha, U_one k hk acc a ha (by omega)]
    simp only [bind_some]
    rw [show IntKind.i64.wrap ((0 : Int) + 1) = 1 from by rw [wr (by omega)]; rfl, wire_Enc_I_l1, if_pos (by simp), show gt [(a : Int), (b : Int)] (1 : Int) = some (b : Int) from rfl]
    simp only [bind_some]
    rw [w b hb, U_one k hk _ b hb (by simp; omega)]
    simp only [bind_some]
    rw [show IntKind.i64.wrap ((1 : Int) + 1) = 2 from by rw [wr (by omega)]; rfl, wire_Enc_I_l1, if_neg (by simp)]
  obtain ⟨j, hj⟩ : ∃ j, k = j + 1 + 1 + 1 := ⟨k - 3, by omega⟩
  have e2 := e j
  rw [← hj] at e2
  rw [e2]
  rfl

/-! ### the sum -/
theorem xor32 (a b : Int) : 0 ≤ bXor .u32 a b ∧ bXor .u32 a b < 4294967296 := by
  unfold bXor; rw [u32w]; omega
theorem step_loop : ∀ (j i : Nat) (c : Int), i ≤ 8 → 8 - i < j → 0 ≤ c → c < 4294967296 → ∃ r, seal_step_l1 k j c (i : Int) = some r ∧ 0 ≤ r ∧ r < 4294967296
  | 0, i, _, _, hj, _, _ => by omega
  | j + 1, i, c, hi, hj, h0, h1 => by
    rw [seal_step_l1]
    by_cases h : i < 8
    · rw [if_pos (by simp; omega), wrN i (by omega)]
      exact step_loop j (i + 1) _ (by omega) (by omega) (xor32 _ _).1 (xor32 _ _).2
    · rw [if_neg (by simp; omega)]
      exact ⟨c, rfl, h0, h1⟩
theorem step_total (hk : 20 < k) (c b : Int) : ∃ r, seal_step k c b = some r ∧ 0 ≤ r ∧ r < 4294967296 := by
  unfold seal_step
  obtain ⟨r, h1, h2⟩ := step_loop k k 0 (bXor .u32 c (IntKind.u32.wrap b)) (by omega) (by omega) (xor32 _ _).1 (xor32 _ _).2
  rw [show (0 : Int) = ((0 : Nat) : Int) from rfl, h1]
  exact ⟨r, rfl, h2⟩
theorem sum_loop (hk : 20 < k) (s : List UInt8) (hs : s.length < 1000000) : ∀ (j i : Nat) (c : Int), i ≤ s.length → s.length - i < j → 0 ≤ c → c < 4294967296 → ∃ r, seal_Sum_l2 k s j c (i : Int) = some r ∧ 0 ≤ r ∧ r < 4294967296
  | 0, i, _, _, hj, _, _ => by omega
  | j + 1, i, c, hi, hj, h0, h1 => by
    rw [seal_Sum_l2]
    by_cases h : i < s.length
    · rw [if_pos (by simpa using h), gtL h]
      simp only [bind_some]
      obtain ⟨r, e, r0, r1⟩ := step_total k hk c (s[i].toNat : Int)
      rw [e]
      simp only [bind_some]
      rw [wrN i (by omega)]
      exact sum_loop hk s hs j (i + 1) r (by omega) (by omega) r0 r1
    · rw [if_neg (by simpa using h)]
      exact ⟨c, rfl, h0, h1⟩
theorem sum_total (hk : 20 < k) (a b : List UInt8) (ha : a.length < k) (hb : b.length < k) (ha2 : a.length < 1000000) (hb2 : b.length < 1000000) : ∃ r : Nat, seal_Sum k [a, b] = some (r : Int) ∧ r < 4294967296 := by
  unfold seal_Sum
  obtain ⟨r1, e1, p1, q1⟩ := sum_loop k hk a ha2 k 0 4294967295 (by omega) (by omega) (by omega) (by omega)
  obtain ⟨r2, e2, p2, q2⟩ := sum_loop k hk b hb2 k 0 r1 (by omega) (by omega) p1 q1
  have e : ∀ j, seal_Sum_l1 k [a, b] (j + 1 + 1 + 1) 4294967295 0 = some r2 := fun j => by
    rw [seal_Sum_l1, if_pos (by simp), show gt [a, b] (0 : Int) = some a from rfl]
    simp only [bind_some]
    rw [show (0 : Int) = ((0 : Nat) : Int) from rfl, e1]
    simp only [bind_some]
    rw [show IntKind.i64.wrap (((0 : Nat) : Int) + 1) = 1 from by rw [wr (by omega)]; rfl, seal_Sum_l1, if_pos (by simp), show gt [a, b] (1 : Int) = some b from rfl]
    simp only [bind_some]
    rw [show (0 : Int) = ((0 : Nat) : Int) from rfl, e2]
    simp only [bind_some]
    rw [show IntKind.i64.wrap ((1 : Int) + 1) = 2 from by rw [wr (by omega)]; rfl, seal_Sum_l1, if_neg (by simp)]
  obtain ⟨j, hj⟩ : ∃ j, k = j + 1 + 1 + 1 := ⟨k - 3, by omega⟩
  have e3 := e j
  rw [← hj] at e3
  rw [e3]
  have := xor32 IntKind.u32.max r2
  exact ⟨(bXor .u32 IntKind.u32.max r2).toNat, by simp only [bind_some]; rw [Int.toNat_of_nonneg this.1], by omega⟩

/-! ### frames -/
def fb (n : Nat) : List UInt8 := [UInt8.ofNat (n / 2 ^ 24 % 256), UInt8.ofNat (n / 2 ^ 16 % 256), UInt8.ofNat (n / 2 ^ 8 % 256), UInt8.ofNat (n % 256)]
theorem fb_len (n : Nat) : (fb n).length = 4 := rfl
theorem four_at (n : Nat) : seal_four k (n : Int) = some (fb n) := by
  unfold seal_four
  rw [show (24 : Int) = ((24 : Nat) : Int) from rfl, show (16 : Int) = ((16 : Nat) : Int) from rfl, show (8 : Int) = ((8 : Nat) : Int) from rfl, shR32 _ _ (by omega), shR32 _ _ (by omega), shR32 _ _ (by omega), u8w, u8w, u8w, u8w]
  rw [show (((n / 2 ^ 24 : Nat) : Int) % 256) = ((n / 2 ^ 24 % 256 : Nat) : Int) by omega, show (((n / 2 ^ 16 : Nat) : Int) % 256) = ((n / 2 ^ 16 % 256 : Nat) : Int) by omega, show (((n / 2 ^ 8 : Nat) : Int) % 256) = ((n / 2 ^ 8 % 256 : Nat) : Int) by omega, show ((n : Int) % 256) = ((n % 256 : Nat) : Int) by omega]
  rw [bS_cons, bS_cons, bS_cons, bS_one]
  rfl
theorem number_at (n : Nat) (hn : n < 4294967296) (rest : List UInt8) : seal_number k (fb n ++ rest) = some (n : Int) := by
  unfold seal_number
  rw [show gt (fb n ++ rest) (0 : Int) = some (UInt8.ofNat (n / 2 ^ 24 % 256)) from rfl, show gt (fb n ++ rest) (1 : Int) = some (UInt8.ofNat (n / 2 ^ 16 % 256)) from rfl, show gt (fb n ++ rest) (2 : Int) = some (UInt8.ofNat (n / 2 ^ 8 % 256)) from rfl, show gt (fb n ++ rest) (3 : Int) = some (UInt8.ofNat (n % 256)) from rfl]
  simp only [bind_some]
  rw [u8n _ (by omega), u8n _ (by omega), u8n _ (by omega), u8n _ (by omega)]
  have w : ∀ x : Nat, x < 256 → IntKind.u32.wrap (x : Int) = (x : Int) := fun x hx => by rw [u32w]; omega
  rw [w _ (by omega), w _ (by omega), w _ (by omega), w _ (by omega)]
  rw [show (24 : Int) = ((24 : Nat) : Int) from rfl, show (16 : Int) = ((16 : Nat) : Int) from rfl, show (8 : Int) = ((8 : Nat) : Int) from rfl, shL32 _ _ (by omega) (by omega), shL32 _ _ (by omega) (by omega), shL32 _ _ (by omega) (by omega)]
  rw [or32 _ 24 _ (by omega) (by omega)]
  rw [show n / 2 ^ 24 % 256 * 2 ^ 24 + n / 2 ^ 16 % 256 * 2 ^ 16 = (n / 2 ^ 24 % 256 * 256 + n / 2 ^ 16 % 256) * 2 ^ 16 by omega, or32 _ 16 _ (by omega) (by omega)]
  rw [show (n / 2 ^ 24 % 256 * 256 + n / 2 ^ 16 % 256) * 2 ^ 16 + n / 2 ^ 8 % 256 * 2 ^ 8 = (n / 2 ^ 24 % 256 * 65536 + n / 2 ^ 16 % 256 * 256 + n / 2 ^ 8 % 256) * 2 ^ 8 by omega, or32 _ 8 _ (by omega) (by omega)]
  congr 2
  omega

/-- a frame of a text, as far as its sum is told -/
def Fr (t f : List UInt8) : Prop := ∃ σ : Nat, σ < 4294967296 ∧ seal_Sum k [fb t.length, t] = some (σ : Int) ∧ f = fb t.length ++ fb σ ++ t
theorem Fr.len {t f : List UInt8} (h : Fr k t f) : f.length = t.length + 8 := by
  obtain ⟨σ, _, _, rfl⟩ := h
  simp [fb_len] <;> omega

theorem frame_at (hk : 20 < k) (t : List UInt8) (h1 : t.length < k) (h2 : t.length < 900000) : ∃ f, seal_Frame k [t] = some f ∧ Fr k t f := by
  obtain ⟨σ, hs, hσ⟩ := sum_total k hk (fb t.length) t (by rw [fb_len]; omega) h1 (by rw [fb_len]; omega) (by omega)
  refine ⟨fb t.length ++ fb σ ++ t, ?_, σ, hσ, hs, rfl⟩
  unfold seal_Frame
  obtain ⟨j, hj⟩ : ∃ j, k = j + 1 + 1 := ⟨k - 2, by omega⟩
  have e1 : seal_Frame_l1 k [t] k 0 0 = some (t.length : Int) := by
    have e : seal_Frame_l1 k [t] (j + 1 + 1) 0 0 = some (t.length : Int) := by
      rw [seal_Frame_l1, if_pos (by simp), show gt [t] (0 : Int) = some t from rfl]
      simp only [bind_some]
      rw [wr (by omega), show IntKind.i64.wrap ((0 : Int) + 1) = 1 from by rw [wr (by omega)]; rfl, seal_Frame_l1, if_neg (by simp)]
      congr 1; omega
    rw [← hj] at e
    exact e
  have e2 : ∀ acc : List UInt8, acc.length ≤ 100 → seal_Frame_l2 k [t] k acc 0 = some (acc ++ t) := fun acc ha => by
    have e : seal_Frame_l2 k [t] (j + 1 + 1) acc 0 = some (acc ++ t) := by
      rw [seal_Frame_l2, if_pos (by simp), show gt [t] (0 : Int) = some t from rfl]
      simp only [bind_some]
      rw [cat_of (by omega)]
      simp only [bind_some]
      rw [show IntKind.i64.wrap ((0 : Int) + 1) = 1 from by rw [wr (by omega)]; rfl, seal_Frame_l2, if_neg (by simp)]
    rw [← hj] at e
    exact e
  rw [e1]
  simp only [bind_some]
  rw [show IntKind.u32.wrap (t.length : Int) = (t.length : Int) by rw [u32w]; omega, four_at]
  simp only [bind_some]
  rw [if_pos (room_of (by simp) (by omega)), show [fb t.length] ++ [t] = [fb t.length, t] from rfl, hs]
  simp only [bind_some, four_at]
  rw [cat_of (by simp [fb_len])]
  simp only [bind_some]
  rw [e2 _ (by simp [fb_len])]
  rfl

theorem open_at {t f : List UInt8} (h : Fr k t f) (h2 : t.length < 900000) (rest : List UInt8) (hr : rest.length < 100000000) : seal_Open k (f ++ rest) = some (t, ((f.length : Nat) : Int), 0) := by
  have hl := h.len
  obtain ⟨σ, hσ, hs, rfl⟩ := h
  unfold seal_Open
  have hlen : (fb t.length ++ fb σ ++ t ++ rest).length = t.length + 8 + rest.length := by simp [fb_len] <;> omega
  rw [hlen, if_neg (by simp; omega), show fb t.length ++ fb σ ++ t ++ rest = fb t.length ++ (fb σ ++ t ++ rest) by simp [List.append_assoc], number_at k _ (by omega)]
  simp only [bind_some]
  rw [wr (n := (t.length : Int)) (by omega), if_neg (by simp; omega), wr (by omega), if_neg (by simp; omega), wr (by omega)]
  have s1 : sl (fb t.length ++ (fb σ ++ t ++ rest)) 8 (8 + (t.length : Int)) = some t := by
    rw [sl_of _ (by omega) (by omega) (by simp [fb_len] <;> omega)]
    congr 1
    rw [show (8 + (t.length : Int)).toNat = 8 + t.length by omega, show (8 : Int).toNat = 8 from rfl, show fb t.length ++ (fb σ ++ t ++ rest) = (fb t.length ++ fb σ ++ t) ++ rest by simp [List.append_assoc], List.take_append_of_le_length (by simp [fb_len] <;> omega), List.take_of_length_le (by simp [fb_len] <;> omega)]
    rw [List.drop_append_of_le_length (by simp [fb_len]), List.drop_of_length_le (by simp [fb_len])]
    rfl
  have s2 : sl (fb t.length ++ (fb σ ++ t ++ rest)) 0 4 = some (fb t.length) := by
    rw [show (4 : Int) = ((4 : Nat) : Int) from rfl, sl0 _ _ (by simp [fb_len] <;> omega)]
    rfl
  have s3 : sl (fb t.length ++ (fb σ ++ t ++ rest)) 4 ((t.length + 8 + rest.length : Nat) : Int) = some (fb σ ++ (t ++ rest)) := by
    rw [sl_of _ (by omega) (by omega) (by simp [fb_len] <;> omega), Int.toNat_natCast, List.take_of_length_le (by simp [fb_len] <;> omega)]
    simp only [fb, List.append_assoc]
    rfl
  rw [s1]
  simp only [bind_some]
  rw [s2]
  simp only [bind_some]
  rw [s3]
  simp only [bind_some]
  rw [hs]
  simp only [bind_some]
  rw [number_at k σ hσ]
  simp only [bind_some]
  rw [if_neg (by simp), hl, show ((t.length + 8 : Nat) : Int) = 8 + (t.length : Int) by omega]

theorem open_nil : seal_Open k [] = some ([], 0, 2) := by
  unfold seal_Open
  rw [if_pos (by simp)]

theorem only_at {t f : List UInt8} (h : Fr k t f) (h2 : t.length < 900000) : seal_Only k f = some (t, 0) := by
  unfold seal_Only
  have := open_at k h h2 [] (by simp)
  rw [List.append_nil] at this
  rw [this]
  simp only [bind_some]
  rw [if_pos (by simp)]
  simp only [bind_some]
  rw [if_neg (by simp)]

theorem scan_loop (x : List UInt8) (hx : x.length < 1000000) : ∀ (ts fs : List (List UInt8)) (j at' : Nat) (acc : List (List UInt8)), ts.length < j → at' ≤ x.length → acc.length + ts.length ≤ 900000 → All2 (fun t f => Fr k t f ∧ t.length < 900000) ts fs → x.drop at' = fs.flatten →
    seal_Scan_l1 k x j acc (at' : Int) = some (Flow.ret (acc ++ ts, (x.length : Int)))
  | [], fs, 0, _, _, hj, _, _, _, _ => by simp at hj
  | [], fs, j + 1, at', acc, _, ha, _, hf, hd => by
    cases fs with
    | cons _ _ => exact hf.elim
    | nil =>
      have hl : x.length ≤ at' := by
        have := congrArg List.length hd
        simp at this
        omega
      rw [seal_Scan_l1, sl_of _ (by omega) (by omega) (by omega)]
      simp only [bind_some]
      rw [Int.toNat_natCast, Int.toNat_natCast, List.take_of_length_le (Nat.le_refl _), hd, show ([] : List (List UInt8)).flatten = [] from rfl, open_nil]
      simp only [bind_some]
      rw [if_pos (by simp), List.append_nil, show at' = x.length by omega]
  | t :: ts, fs, 0, _, _, hj, _, _, _, _ => by simp at hj
  | t :: ts, fs, j + 1, at', acc, hj, ha, hl, hf, hd => by
    cases fs with
    | nil => exact hf.elim
    | cons f fs =>
      obtain ⟨⟨hf1, hf2⟩, hf3⟩ := hf
      have hlen : (x.drop at').length = f.length + fs.flatten.length := by rw [hd]; simp
      rw [List.length_drop] at hlen
      have hfl := hf1.len
      rw [seal_Scan_l1, sl_of _ (by omega) (by omega) (by omega)]
      simp only [bind_some]
      rw [Int.toNat_natCast, Int.toNat_natCast, List.take_of_length_le (Nat.le_refl _), hd, List.flatten_cons, open_at k hf1 hf2 _ (by omega)]
      simp only [bind_some]
      rw [if_neg (by simp), if_pos (room_of (by simp at hl ⊢; omega) (by omega)), wr (by omega), show ((at' : Int) + (f.length : Int)) = ((at' + f.length : Nat) : Int) by omega]
      rw [scan_loop x hx ts fs j (at' + f.length) (acc ++ [t]) (by simpa using hj) (by omega) (by simp at hl ⊢; omega) hf3 (by rw [← List.drop_drop, hd, List.flatten_cons, List.drop_left])]
      simp

theorem scan_at {ts fs : List (List UInt8)} (hf : All2 (fun t f => Fr k t f ∧ t.length < 900000) ts fs) (hl : fs.flatten.length < 1000000) (hk : ts.length < k) (ht : ts.length ≤ 900000) : seal_Scan k fs.flatten = some (ts, (fs.flatten.length : Int)) := by
  unfold seal_Scan
  have := scan_loop k fs.flatten hl ts fs k 0 [] hk (by omega) (by simpa using ht) hf rfl
  rw [show (0 : Int) = ((0 : Nat) : Int) from rfl, this]
  rfl

/-! ### taking -/
theorem byte_at (c : UInt8) (rest : List UInt8) (hl : rest.length < 1000000000) : wire_Dec_byte k ⟨c :: rest, 0⟩ = some ((c.toNat : Int), rest, 0) := by
  unfold wire_Dec_byte
  rw [if_pos (by simp), sEq_ne (by simp)]
  simp only [bind_some]
  rw [if_neg (by simp)]
  simp only [bind_some]
  rw [if_neg (by simp), show gt (c :: rest) (0 : Int) = some c from rfl]
  simp only [bind_some]
  rw [sl_of _ (by omega) (by simp; omega) (by simp)]
  simp only [bind_some]
  rw [Int.toNat_natCast, List.take_of_length_le (Nat.le_refl _)]
  rfl

theorem U_loop (v : Nat) (hv : v < 562949953421312) (rest : List UInt8) (hr : rest.length < 100000000) : ∀ (g j i : Nat), g ≤ 6 → g < j → i + g ≤ 100 → (i = 0 → v / 128 ^ (g + 1) = 0 ∧ (0 < g → v / 128 ^ g ≠ 0)) →
    wire_Dec_U_l1 k j ((v / 128 ^ (g + 1) : Nat) : Int) (i : Int) (bS (gb g v ++ [((v % 128 : Nat) : Int)]) ++ rest) 0 = some (Flow.ret ((v : Int), rest, 0))
  | _, 0, _, _, hj, _, _ => by omega
  | 0, j + 1, i, _, _, hi, h0 => by
    have hV : v / 128 ^ (0 + 1) < 2 ^ 57 := by simp; omega
    have hV2 : v / 128 ^ (0 + 1) = v / 128 := by simp
    rw [wire_Dec_U_l1, show gb 0 v ++ [((v % 128 : Nat) : Int)] = [((v % 128 : Nat) : Int)] from rfl, bS_one, List.singleton_append, byte_at k _ _ (by omega)]
    simp only [bind_some]
    rw [u8n _ (by omega)]
    have hsh : shR .u64 ((v / 128 ^ (0 + 1) : Nat) : Int) 57 = 0 := by
      rw [show (57 : Int) = ((57 : Nat) : Int) from rfl, shR64 _ _ (by omega), Nat.div_eq_of_lt hV]; rfl
    have hc : (if ((i : Int) == 0) = true then (if (((v % 128 : Nat) : Int) == 128) = true then some (true) else some (((shR .u64 ((v / 128 ^ (0 + 1) : Nat) : Int) 57) != 0))) else some (((shR .u64 ((v / 128 ^ (0 + 1) : Nat) : Int) 57) != 0))) = some false := by
      rw [hsh]
      by_cases hi0 : i = 0
      · rw [if_pos (by simp [hi0]), if_neg (by simp; omega)]; rfl
      · rw [if_neg (by simp; omega)]; rfl
    rw [hc]
    simp only [bind_some]
    rw [if_neg (by simp)]
    simp only [bind_some]
    rw [if_neg (by simp), if_pos (by simp; omega), shL64 _ hV, and8 _ (by omega), u64w]
    rw [show (((v % 128 % 128 : Nat) : Int) % 18446744073709551616) = ((v % 128 : Nat) : Int) by omega, hV2, or64 _ _ (by omega) (by omega)]
    congr 3
    omega
  | g + 1, j + 1, i, hg, hj, hi, h0 => by
    have hd := div_pow' v (g + 1)
    have hle : v / 128 ^ (g + 1) ≤ v := Nat.div_le_self _ _
    have hgb : gb (g + 1) v ++ [((v % 128 : Nat) : Int)] = (((v / 128 ^ (g + 1)) % 128 + 128 : Nat) : Int) :: (gb g v ++ [((v % 128 : Nat) : Int)]) := rfl
    have ih := fun hj' => U_loop v hv rest hr g j (i + 1) (by omega) hj' (by omega) (fun h => absurd h (by omega))
    rw [hd] at h0 ⊢
    rw [hgb]
    generalize v / 128 ^ (g + 1) = a at hle h0 ih ⊢
    have hV : a / 128 < 2 ^ 57 := by omega
    rw [wire_Dec_U_l1, bS_cons, List.cons_append, byte_at k _ _ (by simp [bS_len, gb_len]; omega)]
    simp only [bind_some]
    rw [u8n _ (by omega)]
    have hsh : shR .u64 ((a / 128 : Nat) : Int) 57 = 0 := by
      rw [show (57 : Int) = ((57 : Nat) : Int) from rfl, shR64 _ _ (by omega), Nat.div_eq_of_lt hV]; rfl
    have hc : (if ((i : Int) == 0) = true then (if (((a % 128 + 128 : Nat) : Int) == 128) = true then some (true) else some (((shR .u64 ((a / 128 : Nat) : Int) 57) != 0))) else some (((shR .u64 ((a / 128 : Nat) : Int) 57) != 0))) = some false := by
      rw [hsh]
      by_cases hi0 : i = 0
      · obtain ⟨z1, z2⟩ := h0 hi0
        have z3 := z2 (by omega)
        rw [if_pos (by simp [hi0]), if_neg (by rw [beq_iff_eq]; omega)]
        rfl
      · rw [if_neg (by simp; omega)]
        rfl
    rw [hc]
    simp only [bind_some]
    rw [if_neg (by simp)]
    simp only [bind_some]
    rw [if_neg (by simp), if_neg (by rw [decide_eq_true_eq]; omega), shL64 _ hV, and8 _ (by omega), u64w]
    rw [show (((a % 128 + 128) % 128 : Nat) : Int) % 18446744073709551616 = ((a % 128 : Nat) : Int) by omega, or64 _ _ (by omega) (by omega), wrN i (by omega)]
    rw [show a / 128 * 2 ^ 7 + a % 128 = a by omega]
    exact ih (by omega)

theorem decU_at (hk : 20 < k) (v : Nat) (hv : v < 562949953421312) (rest : List UInt8) (hr : rest.length < 100000000) : wire_Dec_U k ⟨vb v ++ rest, 0⟩ = some ((v : Int), rest, 0) := by
  unfold wire_Dec_U
  have hg := grp_le v hv
  have h1 := grp_lt v
  have h2 := grp_ge v
  have e0 : v / 128 ^ (grp v + 1) = 0 := by rw [div_pow']; generalize v / 128 ^ grp v = x at h1 ⊢; omega
  have := U_loop k v hv rest hr (grp v) k 0 (by omega) (by omega) (by omega) (fun _ => ⟨e0, fun hp => by
    have := h2 (grp v - 1) (by omega)
    have hd := div_pow' v (grp v - 1)
    rw [show grp v - 1 + 1 = grp v by omega] at hd
    rw [hd]
    generalize v / 128 ^ (grp v - 1) = x at this ⊢
    omega⟩)
  rw [e0] at this
  show (Option.bind (wire_Dec_U_l1 k k 0 0 (bS (gb (grp v) v ++ [((v % 128 : Nat) : Int)]) ++ rest) 0) _) = _
  rw [show (0 : Int) = ((0 : Nat) : Int) from rfl] at this ⊢
  rw [this]
  rfl
theorem decI_at (hk : 20 < k) (v : Nat) (hv : v < 562949953421312) (most : Nat) (hm : v ≤ most) (hm2 : most < 562949953421312) (rest : List UInt8) (hr : rest.length < 100000000) : wire_Dec_I k ⟨vb v ++ rest, 0⟩ (most : Int) = some ((v : Int), rest, 0) := by
  unfold wire_Dec_I
  rw [decU_at k hk v hv rest hr]
  simp only [bind_some]
  rw [show mx2 (most : Int) 0 = (most : Int) from by unfold mx2; rw [if_neg (by omega)], u64w, if_neg (by simp; omega), wr (by omega)]
theorem decS_at (hk : 20 < k) (s : List UInt8) (most : Nat) (hm : s.length ≤ most) (hm2 : most ≤ 10000000) (rest : List UInt8) (hr : rest.length < 10000000) : wire_Dec_S k ⟨vb s.length ++ (s ++ rest), 0⟩ (most : Int) = some (s, rest, 0) := by
  unfold wire_Dec_S
  rw [decI_at k hk s.length (by omega) most hm (by omega) (s ++ rest) (by simp; omega)]
  simp only [bind_some]
  rw [if_pos (by simp)]
  simp only [bind_some]
  rw [if_neg (by simp; omega)]
  simp only [bind_some]
  rw [if_neg (by simp), sl0 _ _ (by simp)]
  simp only [bind_some]
  rw [sl_of _ (by omega) (by simp; omega) (by simp)]
  simp only [bind_some]
  rw [Int.toNat_natCast, Int.toNat_natCast, List.take_of_length_le (Nat.le_refl _), List.take_left, List.drop_left]
theorem done_at : wire_Dec_Done k ⟨[], 0⟩ = some 0 := by
  unfold wire_Dec_Done
  rw [sEq_self, if_neg (by simp)]
  rfl
end
end Go.Proofs.YtpldjopnhhbjpaaGreat
