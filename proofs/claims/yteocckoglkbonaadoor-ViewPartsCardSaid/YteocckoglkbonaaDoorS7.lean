/- Vectors of nodes as plain functions. -/
import Derived.Test.YteocckoglkbonaaDoorWS
import Derived.Test.YteocckoglkbonaaDoorEZ
set_option linter.unusedVariables false
set_option linter.unusedSimpArgs false
namespace Go.Abs

theorem and_mask (x : Int) (k : Nat) (hk : k ≤ 62) : IntKind.wrap .i64 (BitVec.toNat ((BitVec.ofInt 64 x) &&& (BitVec.ofInt 64 (2 ^ k - 1)))) = x % 2 ^ k := by
  have e1 : (BitVec.ofInt 64 ((2 : Int) ^ k - 1)).toNat = 2 ^ k - 1 := by
    rw [BitVec.toNat_ofInt]
    have h1 : (2 : Int) ^ k = ((2 ^ k : Nat) : Int) := by simp
    have h2 : 2 ^ k ≤ 2 ^ 62 := Nat.pow_le_pow_right (by decide) hk
    have h3 : 1 ≤ 2 ^ k := Nat.one_le_two_pow
    rw [h1]; omega
  rw [BitVec.toNat_and, e1, Nat.and_two_pow_sub_one_eq_mod, BitVec.toNat_ofInt]
  have h1 : (2 : Int) ^ k = ((2 ^ k : Nat) : Int) := by simp
  have h2 : 2 ^ k ≤ 2 ^ 62 := Nat.pow_le_pow_right (by decide) hk
  have h3 : 1 ≤ 2 ^ k := Nat.one_le_two_pow
  have hd : ((2 ^ k : Nat) : Int) ∣ ((2 ^ 64 : Nat) : Int) := by
    exact_mod_cast Nat.pow_dvd_pow 2 (by omega : k ≤ 64)
  have e2 : (((x % ((2 ^ 64 : Nat) : Int)).toNat % 2 ^ k : Nat) : Int) = x % 2 ^ k := by
    rw [Int.natCast_emod, Int.toNat_of_nonneg (Int.emod_nonneg _ (by decide)), Int.emod_emod_of_dvd _ hd, h1]
  rw [IntKind.wrap_i64, e2]
  have a1 : 0 ≤ x % 2 ^ k := Int.emod_nonneg _ (by omega)
  have a2 : x % 2 ^ k < 2 ^ k := Int.emod_lt_of_pos _ (by omega)
  omega
theorem and1_i64 (x : Int) : AV.int .i64 (IntKind.wrap .i64 (BitVec.toNat (((· &&& ·)) (BitVec.ofInt (IntKind.bits .i64) x) (BitVec.ofInt (IntKind.bits .i64) 1)))) = AV.int .i64 (x % 2) := congrArg _ (and_mask x 1 (by decide))
theorem and65535_i64 (x : Int) : AV.int .i64 (IntKind.wrap .i64 (BitVec.toNat (((· &&& ·)) (BitVec.ofInt (IntKind.bits .i64) x) (BitVec.ofInt (IntKind.bits .i64) 65535)))) = AV.int .i64 (x % 65536) := congrArg _ (and_mask x 16 (by decide))

def nodeS (n : Int) : Bool := decide (0 ≤ n ∧ n < 16)
/-- Is n's bit set? -/
def bitS (v n : Int) : Bool := decide ((Int.fdiv v (2 ^ min n.toNat (IntKind.bits .i64))) % 2 = 1)
def hasS (v n : Int) : Bool := nodeS n && bitS v n
def withS (v n : Int) : Int := if nodeS n && !bitS v n then v % 65536 + 2 ^ n.toNat else v % 65536
def listN (v : Int) (n : Nat) : List Int := ((List.range n).map (fun i : Nat => (i : Int))).filter (fun i => bitS v i)
def listS (v : Int) : List Int := listN v 16
def countS (v : Int) : Int := ((listS v).length : Int)
theorem listN_succ (v : Int) (n : Nat) : listN v (n + 1) = if bitS v n then listN v n ++ [(n : Int)] else listN v n := by
  unfold listN
  rw [List.range_succ, List.map_append, List.filter_append]
  simp only [List.map_cons, List.map_nil, List.filter_cons, List.filter_nil]
  split <;> simp
theorem listN_length (v : Int) (n : Nat) : (listN v n).length ≤ n := by
  unfold listN
  have := List.length_filter_le (fun i => bitS v i) ((List.range n).map (fun i : Nat => (i : Int)))
  simpa using this
theorem listS_length (v : Int) : (listS v).length ≤ 16 := listN_length v 16
theorem mem_listN {v : Int} {n : Nat} {i : Int} : i ∈ listN v n ↔ (0 ≤ i ∧ i < n) ∧ bitS v i = true := by
  unfold listN
  rw [List.mem_filter, List.mem_map]
  constructor
  · rintro ⟨⟨k, h1, rfl⟩, h2⟩; simp at h1; exact ⟨⟨by omega, by omega⟩, h2⟩
  · rintro ⟨⟨h1, h2⟩, h3⟩; exact ⟨⟨i.toNat, by simp; omega, by omega⟩, h3⟩
theorem mem_listS {v i : Int} : i ∈ listS v ↔ hasS v i = true := by
  unfold listS hasS nodeS
  rw [mem_listN]; simp
theorem mod_tmod (n : Int) : (if Int.tmod n 65536 < 0 then Int.tmod n 65536 + 65536 else Int.tmod n 65536) = n % 65536 := by
  rcases Int.le_total 0 n with h | h
  · rw [Int.tmod_eq_emod_of_nonneg h, if_neg (by omega)]
  · obtain ⟨m, rfl⟩ : ∃ m : Int, n = -m := ⟨-n, by omega⟩
    rw [Int.neg_tmod, Int.tmod_eq_emod_of_nonneg (by omega)]
    split <;> omega
theorem bit_mod {v n : Int} (h0 : 0 ≤ n) (h1 : n < 16) : bitS (v % 65536) n = bitS v n := by
  obtain ⟨k, rfl⟩ : ∃ k : Nat, n = (k : Int) := ⟨n.toNat, by omega⟩
  have hk : k < 16 := by omega
  unfold bitS
  have hm : min ((k : Int).toNat) (IntKind.bits .i64) = k := by
    have : IntKind.bits .i64 = 64 := rfl
    rw [this]; simp; omega
  rw [hm]
  have key : ∀ d : Nat, d ∣ 32768 → ((v % 65536).fdiv (d : Int)) % 2 = (v.fdiv (d : Int)) % 2 := by
    intro d hd
    obtain ⟨e, he⟩ := hd
    have hd0 : (0 : Int) < (d : Int) := by
      rcases Nat.eq_zero_or_pos d with h | h
      · rw [h, Nat.zero_mul] at he; cases he
      · omega
    rw [Int.fdiv_eq_ediv_of_nonneg _ (by omega), Int.fdiv_eq_ediv_of_nonneg _ (by omega)]
    have e1 : (65536 : Int) = (d : Int) * (2 * e) := by
      have : (32768 : Int) = (d : Int) * e := by rw [← Int.natCast_mul, ← he]; rfl
      rw [show (65536 : Int) = 2 * 32768 from rfl, this, Int.mul_left_comm]
    have e2 : v = v % 65536 + (d : Int) * (2 * (e * (v / 65536))) := by
      have := Int.emod_add_mul_ediv v 65536
      have h3 : (d : Int) * (2 * (e * (v / 65536))) = 65536 * (v / 65536) := by
        rw [e1, Int.mul_assoc, Int.mul_assoc]
      rw [h3]; omega
    have e3 : v / (d : Int) = (v % 65536) / (d : Int) + 2 * (e * (v / 65536)) := by
      conv => lhs; rw [e2]
      rw [Int.add_mul_ediv_left _ _ (by omega)]
    rw [e3]; omega
  have := key (2 ^ k) (by
    have : (32768 : Nat) = 2 ^ 15 := by decide
    rw [this]; exact Nat.pow_dvd_pow 2 (by omega))
  have e : ((2 ^ k : Nat) : Int) = (2 : Int) ^ k := by simp
  rw [e] at this
  rw [this]
theorem nat_or_bit (y k : Nat) (hy : y < 65536) (hk : k < 16) : y ||| 2 ^ k = if y.testBit k then y else y + 2 ^ k := by
  have hp : 2 ^ k ≤ 2 ^ 15 := Nat.pow_le_pow_right (by decide) (by omega)
  split
  · rename_i h
    refine Nat.eq_of_testBit_eq (fun i => ?_)
    rw [Nat.testBit_or, Nat.testBit_two_pow]
    by_cases e : k = i
    · subst e; simp [h]
    · simp [e]
  · rename_i h
    have h1 : (BitVec.ofNat 64 y) &&& (BitVec.twoPow 64 k) = 0#64 := by
      rw [BitVec.and_twoPow, if_neg]
      rw [BitVec.getLsbD_ofNat]
      simp; intro _; simpa using h
    have h2 := BitVec.add_eq_or_of_and_eq_zero _ _ h1
    have h3 := congrArg BitVec.toNat h2
    rw [BitVec.toNat_add, BitVec.toNat_or, BitVec.toNat_ofNat, BitVec.toNat_twoPow] at h3
    rw [Nat.mod_eq_of_lt (by omega : y < 2 ^ 64), Nat.mod_eq_of_lt (by omega : 2 ^ k < 2 ^ 64), Nat.mod_eq_of_lt (by omega)] at h3
    exact h3.symm
theorem bit_nat {v : Int} {k : Nat} (hk : k < 16) : bitS v (k : Int) = ((v % 65536).toNat).testBit k := by
  rw [← bit_mod (v := v) (by omega) (by omega)]
  obtain ⟨y, hy⟩ : ∃ y : Nat, v % 65536 = (y : Int) := ⟨(v % 65536).toNat, by omega⟩
  rw [hy]
  unfold bitS
  have hm : min ((k : Int).toNat) (IntKind.bits .i64) = k := by
    have : IntKind.bits .i64 = 64 := rfl
    rw [this]; simp; omega
  rw [hm, Int.toNat_natCast, Nat.testBit_eq_decide_div_mod_eq]
  have e : (2 : Int) ^ k = ((2 ^ k : Nat) : Int) := by simp
  rw [e]
  generalize 2 ^ k = d
  rw [Int.fdiv_eq_ediv_of_nonneg _ (by omega), ← Int.natCast_ediv]
  congr 1
  apply propext
  omega
theorem with_raw {v n : Int} (h : nodeS n = true) : IntKind.wrap .i64 (BitVec.toNat (((· ||| ·)) (BitVec.ofInt (IntKind.bits .i64) v) (BitVec.ofInt (IntKind.bits .i64) (IntKind.wrap .i64 (1 * 2 ^ min (n : Int).toNat (IntKind.bits .i64)))))) % 65536 = withS v n := by
  have hn : 0 ≤ n ∧ n < 16 := of_decide_eq_true h
  obtain ⟨k, rfl⟩ : ∃ k : Nat, n = (k : Int) := ⟨n.toNat, by omega⟩
  have hk : k < 16 := by omega
  have hm : min ((k : Int).toNat) (IntKind.bits .i64) = k := by
    have : IntKind.bits .i64 = 64 := rfl
    rw [this]; simp; omega
  have hp : 2 ^ k ≤ 2 ^ 15 := Nat.pow_le_pow_right (by decide) (by omega)
  have e : (2 : Int) ^ k = ((2 ^ k : Nat) : Int) := by simp
  have hw : ∀ t : Int, IntKind.wrap .i64 t % 65536 = t % 65536 := fun t => by rw [IntKind.wrap_i64]; omega
  rw [hw, hm]
  have e1 : (BitVec.ofInt (IntKind.bits .i64) (IntKind.wrap .i64 (1 * 2 ^ k))).toNat = 2 ^ k := by
    rw [e, BitVec.toNat_ofInt, IntKind.wrap_i64]
    have : ((2 ^ (IntKind.bits .i64) : Nat) : Int) = 18446744073709551616 := rfl
    rw [this]
    generalize 2 ^ k = d at hp
    omega
  rw [BitVec.toNat_or, e1, BitVec.toNat_ofInt]
  have e2 : (((v % ((2 ^ (IntKind.bits .i64) : Nat) : Int)).toNat ||| 2 ^ k : Nat) : Int) % 65536 = ((((v % 65536).toNat ||| 2 ^ k : Nat)) : Int) := by
    have h1 : ((v % ((2 ^ (IntKind.bits .i64) : Nat) : Int)).toNat ||| 2 ^ k) % 2 ^ 16 = (v % 65536).toNat ||| 2 ^ k := by
      rw [Nat.or_mod_two_pow, Nat.mod_eq_of_lt (by omega : 2 ^ k < 2 ^ 16)]
      congr 1
      have : ((2 ^ (IntKind.bits .i64) : Nat) : Int) = 18446744073709551616 := rfl
      rw [this]; omega
    rw [← h1, Int.natCast_emod]; rfl
  rw [e2, nat_or_bit _ _ (by omega) hk, withS, h, bit_nat hk]
  have hnn : 0 ≤ v % 65536 := by omega
  cases ((v % 65536).toNat).testBit k <;> simp <;> omega
end Go.Abs
