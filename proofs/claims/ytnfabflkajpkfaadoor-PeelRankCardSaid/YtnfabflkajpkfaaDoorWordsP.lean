/- The contracts of package words' functions that count and look, of those of its reference, of the two functions of math/bits. -/
import Derived.Test.YtnfabflkajpkfaaDoorWordsS
import Derived.Test.YtnfabflkajpkfaaDoorOnes
import Derived.Test.YtnfabflkajpkfaaDoorPeelP
import Derived.Shelf.Spec.TrailingZeros
namespace Go.Proofs.YtnfabflkajpkfaaDoor.WordsP
open Go Go.RowKit Go.Proofs.YtnfabflkajpkfaaDoorW.PrintWords Go.Proofs.YtnfabflkajpkfaaDoor.Base Go.Proofs.YtnfabflkajpkfaaDoor.Bits Go.Proofs.YtnfabflkajpkfaaDoor.BitsN Go.Proofs.YtnfabflkajpkfaaDoor.Ones Go.Proofs.YtnfabflkajpkfaaDoor.Words Go.Proofs.YtnfabflkajpkfaaDoor.WordsS Go.Proofs.YtnfabflkajpkfaaDoor.PeelP
set_option linter.unusedVariables false
set_option linter.unusedSimpArgs false

theorem and_nat (a b : Nat) (ha : a < 18446744073709551616) (hb : b < 18446744073709551616) : bits .and .u64 (a : Int) (b : Int) = ((a &&& b : Nat) : Int) := bits_and_u64_nat a b ha hb
theorem and_i64 (a b : Nat) (ha : a < 9223372036854775808) (hb : b < 9223372036854775808) : bits .and .i64 (a : Int) (b : Int) = ((a &&& b : Nat) : Int) := by
  have hx : a &&& b < 2 ^ 63 := Nat.and_lt_two_pow _ (by omega)
  have h1 : (BitVec.ofInt 64 (a : Int)).toNat = a := by
    rw [BitVec.ofInt_natCast, BitVec.toNat_ofNat]; exact Nat.mod_eq_of_lt (by omega)
  have h2 : (BitVec.ofInt 64 (b : Int)).toNat = b := by
    rw [BitVec.ofInt_natCast, BitVec.toNat_ofNat]; exact Nat.mod_eq_of_lt (by omega)
  show IntKind.i64.wrap ((BitVec.ofInt 64 (a : Int) &&& BitVec.ofInt 64 (b : Int)).toNat : Int) = _
  rw [BitVec.toNat_and, h1, h2]
  simp only [IntKind.wrap, IntKind.signed, IntKind.bits]
  generalize a &&& b = z at hx
  simp; omega
set_option maxHeartbeats 800000 in
theorem OnesCount64_any (x : Nat) (w : World) (hx : x < 18446744073709551616) :
    Calls Tryd.prog 67 #[.int .u64 x] w fun e w' => e = .returned (.int .i64 (pc x : Nat)) ∧ w = w' := by
  obtain ⟨x1, h1⟩ : ∃ x1, x1 = (x / 2 &&& 6148914691236517205) + (x &&& 6148914691236517205) := ⟨_, rfl⟩
  obtain ⟨x2, h2⟩ : ∃ x2, x2 = (x1 / 4 &&& 3689348814741910323) + (x1 &&& 3689348814741910323) := ⟨_, rfl⟩
  obtain ⟨x3, h3⟩ : ∃ x3, x3 = (x2 / 16 + x2) &&& 1085102592571150095 := ⟨_, rfl⟩
  obtain ⟨c0, c1, c2, c3, c4, c5, c6, c7, l0, l1, l2, l3, l4, l5, l6, l7, hp, he⟩ := ones x x1 x2 x3 hx h1 h2 h3
  obtain ⟨f1, f2, f3, f4⟩ := fold8 l0 l1 l2 l3 l4 l5 l6 l7 he
  clear l0 l1 l2 l3 l4 l5 l6 l7 he
  obtain ⟨a1, ha1⟩ : ∃ a, a = x / 2 &&& 6148914691236517205 := ⟨_, rfl⟩
  obtain ⟨b1, hb1⟩ : ∃ a, a = x &&& 6148914691236517205 := ⟨_, rfl⟩
  obtain ⟨a2, ha2⟩ : ∃ a, a = x1 / 4 &&& 3689348814741910323 := ⟨_, rfl⟩
  obtain ⟨b2, hb2⟩ : ∃ a, a = x1 &&& 3689348814741910323 := ⟨_, rfl⟩
  have q1 : a1 ≤ 6148914691236517205 := by rw [ha1]; exact Nat.and_le_right
  have q2 : b1 ≤ 6148914691236517205 := by rw [hb1]; exact Nat.and_le_right
  have q3 : a2 ≤ 3689348814741910323 := by rw [ha2]; exact Nat.and_le_right
  have q4 : b2 ≤ 3689348814741910323 := by rw [hb2]; exact Nat.and_le_right
  have q5 : x2 / 16 + x2 < 18446744073709551616 := by rw [← ha2, ← hb2] at h2; omega
  have e1 : x1 = a1 + b1 := by rw [ha1, hb1]; exact h1
  have e2 : x2 = a2 + b2 := by rw [ha2, hb2]; exact h2
  have k1 : bits .and .u64 ((x : Int) / 2) 6148914691236517205 = (a1 : Int) := by
    have := and_nat (x / 2) 6148914691236517205 (by omega) (by omega)
    rw [← ha1] at this; exact this
  have k2 : bits .and .u64 (x : Int) 6148914691236517205 = (b1 : Int) := by
    have := and_nat x 6148914691236517205 (by omega) (by omega)
    rw [← hb1] at this; exact this
  have k3 : bits .and .u64 ((x1 : Int) / 4) 3689348814741910323 = (a2 : Int) := by
    have := and_nat (x1 / 4) 3689348814741910323 (by omega) (by omega)
    rw [← ha2] at this; exact this
  have k4 : bits .and .u64 (x1 : Int) 3689348814741910323 = (b2 : Int) := by
    have := and_nat x1 3689348814741910323 (by omega) (by omega)
    rw [← hb2] at this; exact this
  have k5 : bits .and .u64 ((x2 : Int) / 16 + x2) 1085102592571150095 = (x3 : Int) := by
    have := and_nat (x2 / 16 + x2) 1085102592571150095 q5 (by omega)
    rw [← h3] at this; exact this
  have s1 : IntKind.u64.wrap ((a1 : Int) + b1) = (x1 : Int) := by rw [e1, IntKind.wrap_u64]; omega
  have s2 : IntKind.u64.wrap ((a2 : Int) + b2) = (x2 : Int) := by rw [e2, IntKind.wrap_u64]; omega
  have s3 : IntKind.u64.wrap ((x2 : Int) / 16 + x2) = ((x2 / 16 + x2 : Nat) : Int) := by rw [IntKind.wrap_u64]; omega
  obtain ⟨y1, hy1⟩ : ∃ y, y = x3 + x3 / 256 := ⟨_, rfl⟩
  rw [← hy1] at f1 f2 f3 f4
  obtain ⟨y2, hy2⟩ : ∃ y, y = y1 + y1 / 65536 := ⟨_, rfl⟩
  rw [← hy2] at f2 f3 f4
  obtain ⟨y3, hy3⟩ : ∃ y, y = y2 + y2 / 4294967296 := ⟨_, rfl⟩
  rw [← hy3] at f3 f4
  have s4 : IntKind.u64.wrap ((x3 : Int) + (x3 : Int) / 256) = (y1 : Int) := by rw [hy1, IntKind.wrap_u64]; omega
  have s5 : IntKind.u64.wrap ((y1 : Int) + (y1 : Int) / 65536) = (y2 : Int) := by rw [hy2, IntKind.wrap_u64]; omega
  have s6 : IntKind.u64.wrap ((y2 : Int) + (y2 : Int) / 4294967296) = (y3 : Int) := by rw [hy3, IntKind.wrap_u64]; omega
  have s7 : ∃ z : Int, wrap64 (y3 : Int) = z ∧ bits .and .i64 z 127 = (pc x : Nat) := by
    have q6 : x3 ≤ 1085102592571150095 := by rw [h3]; exact Nat.and_le_right
    have q7 : y3 < 9223372036854775808 := by
      have t1 : y1 ≤ 1090000000000000000 := by clear f1 f2 f3 f4 hy2 hy3; omega
      have t2 : y2 ≤ 1100000000000000000 := by clear f1 f2 f3 f4 hy1 hy3; omega
      clear f1 f2 f3 f4 hy1 hy2; omega
    refine ⟨y3, IntWalk.wrap64_in _ ⟨by omega, by omega⟩, ?_⟩
    have := and_i64 y3 127 q7 (by omega)
    rw [show y3 &&& 127 = y3 % 128 from Nat.and_two_pow_sub_one_eq_mod y3 7, f4, ← hp] at this
    exact this
  clear h1 h2 h3 hy1 hy2 hy3 ha1 hb1 ha2 hb2 e1 e2
  clear f1 f2 f3 f4 hp q1 q2 q3 q4 q5
  obtain ⟨z, z1, z2⟩ := s7
  go_enter Tryd.func67, Tryd.ntmps67
  go_wp2_with (simp only [k1, k2, k3, k4, k5, s1, s2, s3, s4, s5, s6, z1, z2])
  go_ret
  exact ⟨rfl, rfl⟩

set_option maxHeartbeats 400000 in
theorem Count_any (A : Option Addr) (c : Nat) (v : List UInt64) (w : World) (hC : Kw.C w A v.length v) (hv : v.length ≤ 17592186044416) :
    Calls Tryd.prog 39 #[.slice A v.length c] w fun e w' => e = .returned (.int .i64 (cntW v : Nat)) ∧ w = w' := by
  have hm := C_max hC
  have HC := Aside0.mk hC
  clear hC
  go_enter Tryd.func39, Tryd.ntmps39
  go_wp2
  go_loop [3, 8] (fun n i => ∃ k : Nat, k ≤ v.length ∧ i = .int .i64 k ∧ n = .int .i64 (cntW (v.take k) : Nat)) (fun _ i => v.length - (intOf i).toNat)
  case atStart => exact ⟨0, Nat.zero_le _, rfl, rfl⟩
  case round =>
    obtain ⟨k, hk, rfl, rfl⟩ := hrel
    by_cases hlt : k < v.length
    · obtain ⟨ad, rfl, hc⟩ := at_w HC.out k hlt
      have hx64 : (v[k]).toNat < 18446744073709551616 := (v[k]).toNat_lt
      have hs := cntW_snoc v k hlt
      have hle := cntW_le (v.take k)
      rw [List.length_take] at hle
      have hp := pc_le 64 (v[k]).toNat hx64
      generalize (v[k]).toNat = x at *
      generalize hQ : pc x = Q at *
      have HS := Aside0.mk hs
      have HQ := Aside0.mk hQ
      clear hs hQ
      generalize hP : cntW (v.take k) = P at *
      have HP := Aside0.mk hP
      clear hP
      go_wp2_with (go_at_call 67; refine (OnesCount64_any _ _ hx64).mono ?_; rintro e w1 ⟨rfl, rfl⟩; simp only [HQ.out])
      go_round
      case rel => exact ⟨k + 1, by omega, by go_num, by rw [HS.out]; go_num⟩
      case measure => simp [intOf]; omega
    · have HE := Aside0.mk (List.take_of_length_le (show v.length ≤ k by omega))
      go_wp2
      go_ret
      exact ⟨by rw [HE.out]; rfl, rfl⟩

/-! ### the lowest bit of a word -/
def TzOk (w : World) : Prop := TabAt 0 Lib.deBruijn64tab w
theorem TzOk.below {w w' : World} (h : TzOk w) (hb : Below w.heap.size w w') : TzOk w' := fun i hi => pw_cell_below hb (h i hi)
set_option maxHeartbeats 400000 in
theorem tz64_core (x k idx : Nat) (w : World) (hx0 : ((x : Int) == 0) = false)
    (key : IntKind.u64.wrap (bits BinOp.and IntKind.u64 (x : Int) (IntKind.u64.wrap (-(x : Int))) * 285870213051353865) / 288230376151711744 = (idx : Int))
    (hi : idx < 64) (hk : k < 64) (hcell : w.cell? ⟨0, idx, none⟩ = some (.int .u8 k)) :
    Calls Tryd.prog 68 #[.int .u64 x] w fun e w' => e = .returned (.int .i64 k) ∧ w = w' := by
  go_enter Tryd.func68, Tryd.ntmps68
  go_wp2_with (simp only [key])
  go_ret
  exact ⟨rfl, rfl⟩
theorem TrailingZeros64_any (x : Nat) (w : World) (h0 : x ≠ 0) (hx : x < 18446744073709551616) (hT : TzOk w) :
    Calls Tryd.prog 68 #[.int .u64 x] w fun e w' => e = .returned (.int .i64 (Lib.ctz 64 x : Nat)) ∧ w = w' := by
  obtain ⟨hlow, hk⟩ := Lib.lowest_bit 64 x h0 hx
  obtain ⟨hi, htab⟩ := Lib.deBruijn64_at _ hk
  have hcell := hT _ hi
  rw [htab] at hcell
  exact tz64_core x _ _ w (by simp; omega) (tz64_key x _ hx h0 hlow) hi hk hcell
theorem ctz_bits (x : Nat) (h0 : x ≠ 0) (hx : x < 2 ^ 64) : Lib.ctz 64 x < 64 ∧ x.testBit (Lib.ctz 64 x) = true ∧ ∀ j, j < Lib.ctz 64 x → x.testBit j = false := by
  obtain ⟨m, hm, hk⟩ := Lib.ctzFrom_spec 64 x (by omega) hx
  have e : Lib.ctz 64 x = Lib.ctzFrom 64 x := by simp [Lib.ctz, h0]
  rw [e]
  generalize Lib.ctzFrom 64 x = c at *
  refine ⟨hk, ?_, fun j hj => ?_⟩
  · rw [hm, Nat.testBit_two_pow_mul]; simp
  · rw [hm, Nat.testBit_two_pow_mul]; simp; omega
/-- no bit in the first words -/
def None64 (v : List UInt64) (k : Nat) : Prop := ∀ j, j < 64 * k → getB v j = false
theorem None64.succ {v : List UInt64} {k : Nat} (h : None64 v k) (hk : k < v.length) (hz : (v[k]).toNat = 0) : None64 v (k + 1) := by
  intro j hj
  by_cases h1 : j < 64 * k
  · exact h j h1
  · have e : j / 64 = k := by omega
    have hin : j / 64 < v.length := by omega
    rw [getB_in v j hin]
    have : v[j / 64] = v[k] := by congr
    rw [this, hz]; simp
theorem none64_first {v : List UInt64} {k : Nat} (h : None64 v k) (hk : k < v.length) (hz : (v[k]).toNat ≠ 0) : firstW v = ((64 * k + Lib.ctz 64 (v[k]).toNat : Nat) : Int) := by
  obtain ⟨h1, h2, h3⟩ := ctz_bits _ hz (v[k]).toNat_lt
  have hb : ∀ j, j < 64 → getB v (64 * k + j) = (v[k]).toNat.testBit j := by
    intro j hj
    have hin : (64 * k + j) / 64 < v.length := by omega
    rw [getB_in v _ hin]
    have : v[(64 * k + j) / 64] = v[k] := by congr; omega
    rw [this, show (64 * k + j) % 64 = j by omega]
  refine firstW_eq (by rw [hb _ h1]; exact h2) fun j hj => ?_
  by_cases hl : j < 64 * k
  · exact h j hl
  · have := hb (j - 64 * k) (by omega)
    rw [show 64 * k + (j - 64 * k) = j by omega] at this
    rw [this]; exact h3 _ (by omega)
theorem none64_all {v : List UInt64} {k : Nat} (h : None64 v k) (hk : v.length ≤ k) : firstW v = -1 := by
  refine firstW_none (cnt_zero_iff.2 fun i => ?_)
  by_cases hl : i < 64 * k
  · exact h i hl
  · exact getB_far v i (by omega)

set_option maxHeartbeats 400000 in
theorem First_any (A : Option Addr) (c : Nat) (v : List UInt64) (w : World) (hC : Kw.C w A v.length v) (hv : v.length ≤ 17592186044416) (hT : TzOk w) :
    Calls Tryd.prog 40 #[.slice A v.length c] w fun e w' => e = .returned (.int .i64 (firstW v)) ∧ w = w' := by
  have hm := C_max hC
  have HC := Aside0.mk hC
  have HT := Aside0.mk hT
  clear hC hT
  go_enter Tryd.func40, Tryd.ntmps40
  go_wp2
  go_loop [7] (fun i => ∃ k : Nat, k ≤ v.length ∧ i = .int .i64 k ∧ None64 v k) (fun i => v.length - (intOf i).toNat)
  case atStart => exact ⟨0, Nat.zero_le _, rfl, fun j hj => by omega⟩
  case round =>
    obtain ⟨k, hk, rfl, hN⟩ := hrel
    have HN := Aside0.mk hN
    clear hN
    by_cases hlt : k < v.length
    · obtain ⟨ad, rfl, hc⟩ := at_w HC.out k hlt
      have hx64 : (v[k]).toNat < 18446744073709551616 := (v[k]).toNat_lt
      by_cases h0 : (v[k]).toNat = 0
      · have HN' := Aside0.mk (HN.out.succ hlt h0)
        rw [h0] at hc
        go_wp2
        go_round
        case rel => exact ⟨k + 1, by omega, by go_num, HN'.out⟩
        case measure => simp [intOf]; omega
      · have hF := none64_first HN.out hlt h0
        have hZ := (ctz_bits _ h0 hx64).1
        generalize (v[k]).toNat = x at *
        have hx0 : ((x : Int) == 0) = false := by simp; omega
        generalize hz : Lib.ctz 64 x = z at *
        have HF := Aside0.mk hF
        have Hz := Aside0.mk hz
        clear hF hz
        go_wp2_with (go_at_call 68; refine (TrailingZeros64_any _ _ h0 hx64 HT.out).mono ?_; rintro e w1 ⟨rfl, rfl⟩; simp only [Hz.out])
        go_ret
        exact ⟨by rw [HF.out]; go_num, rfl⟩
    · have HE := Aside0.mk (none64_all HN.out (by omega))
      go_wp2
      go_ret
      exact ⟨by rw [HE.out]; rfl, rfl⟩

set_option maxHeartbeats 400000 in
theorem refFirst_any (A : Option Addr) (c : Nat) (v : List UInt64) (w : World) (hC : Kw.C w A v.length v) (hv : v.length ≤ 17592186044416) :
    Calls Tryd.prog 22 #[.slice A v.length c] w fun e w' => e = .returned (.int .i64 (firstW v)) ∧ w = w' := by
  have hm := C_max hC
  have HC := Aside0.mk hC
  clear hC
  go_enter Tryd.func22, Tryd.ntmps22
  go_wp2
  go_loop [3] (fun i => ∃ k : Nat, k ≤ v.length ∧ i = .int .i64 k ∧ None64 v k) (fun i => v.length - (intOf i).toNat)
  case atStart => exact ⟨0, Nat.zero_le _, rfl, fun j hj => by omega⟩
  case round =>
    obtain ⟨k, hk, rfl, hN⟩ := hrel
    have HN := Aside0.mk hN
    clear hN
    by_cases hlt : k < v.length
    · obtain ⟨ad, rfl, hc⟩ := at_w HC.out k hlt
      have hx64 : (v[k]).toNat < 18446744073709551616 := (v[k]).toNat_lt
      by_cases h0 : (v[k]).toNat = 0
      · have HN' := Aside0.mk (HN.out.succ hlt h0)
        rw [h0] at hc
        go_wp2
        go_round
        case rel => exact ⟨k + 1, by omega, by go_num, HN'.out⟩
        case measure => simp [intOf]; omega
      · have hF := none64_first HN.out hlt h0
        have hZ := (ctz_bits _ h0 hx64).1
        have hcnt : cntW v ≠ 0 := fun e => by rw [firstW_none e] at hF; omega
        obtain ⟨f, e1, e2, e3, e4⟩ := firstW_some hcnt
        have hf1 : 64 * k ≤ f := by omega
        have hf2 : f ≤ 64 * k + 63 := by omega
        have HF := Aside0.mk e1
        have H2 := Aside0.mk e2
        have H3 := Aside0.mk e3
        generalize (v[k]).toNat = x at *
        have hx0 : ((x : Int) == 0) = false := by simp; omega
        clear hF e1 e2 e3 hZ
        go_wp2
        go_loop [4] (fun y => ∃ n : Nat, y = .int .i64 n ∧ n ≤ f) (fun y => f - (intOf y).toNat)
        case atStart => exact ⟨64 * k, by go_num, hf1⟩
        case round =>
          obtain ⟨n, rfl, hn⟩ := hrel
          by_cases hnf : n < f
          · have hg := H3.out n hnf
            have hgt := refGet_any (some ad) c v n w HC.out (by omega)
            rw [hg] at hgt
            have HGT := Aside0.mk hgt
            clear hgt hg
            go_wp2_with (go_at_call 24; refine HGT.out.mono ?_; rintro e w1 ⟨rfl, rfl⟩)
            go_round
            case rel => exact ⟨n + 1, by go_num, by omega⟩
            case measure => simp [intOf]; omega
          · obtain rfl : n = f := by omega
            have hgt := refGet_any (some ad) c v n w HC.out (by omega)
            rw [H2.out] at hgt
            have HGT := Aside0.mk hgt
            clear hgt
            go_wp2_with (go_at_call 24; refine HGT.out.mono ?_; rintro e w1 ⟨rfl, rfl⟩)
            go_ret
            exact ⟨by rw [HF.out]; rfl, rfl⟩
    · have HE := Aside0.mk (none64_all HN.out (by omega))
      go_wp2
      go_ret
      exact ⟨by rw [HE.out]; rfl, rfl⟩

/-! ### rows that may be -/
theorem validW_size {k : Int} {v : List UInt64} (h : (v.length : Int) ≠ sizeW k) : validW k v = false := by
  cases hv : validW k v with
  | false => rfl
  | true => exact absurd (validW_iff.1 hv).2.2.1 h
theorem validW_range {k : Int} {v : List UInt64} (h : k < 1 ∨ 128 < k) : validW k v = false := by
  cases hv : validW k v with
  | false => rfl
  | true => have := validW_iff.1 hv; omega
theorem validW_whole {n : Nat} {v : List UInt64} (h1 : 1 ≤ n) (h2 : n ≤ 128) (hl : v.length = sizeN n) (h0 : n % 64 = 0) : validW n v = true := by
  refine validW_iff.2 ⟨by omega, by omega, by rw [sizeW_nat n h1 h2, hl], fun i hi => getB_far v i ?_⟩
  have : sizeN n = n / 64 := by unfold sizeN; omega
  rw [hl, this]; omega
theorem validW_last {n : Nat} {v : List UInt64} (h1 : 1 ≤ n) (h2 : n ≤ 128) (hl : v.length = sizeN n) (h0 : n % 64 ≠ 0) (hk : sizeN n - 1 < v.length) : validW n v = decide ((v[sizeN n - 1]).toNat / 2 ^ (n % 64) = 0) := by
  have e1 : sizeN n - 1 = n / 64 := by unfold sizeN; omega
  have e2 : 64 * v.length = 64 * (n / 64) + 64 := by rw [hl]; unfold sizeN; omega
  have hb : ∀ j, j < 64 → getB v (64 * (n / 64) + j) = (v[sizeN n - 1]).toNat.testBit j := by
    intro j hj
    have hin : (64 * (n / 64) + j) / 64 < v.length := by omega
    rw [getB_in v _ hin]
    have : v[(64 * (n / 64) + j) / 64] = v[sizeN n - 1] := by congr; omega
    rw [this, show (64 * (n / 64) + j) % 64 = j by omega]
  have hx := (v[sizeN n - 1]).toNat_lt
  generalize (v[sizeN n - 1]).toNat = x at *
  have key : validW n v = true ↔ x / 2 ^ (n % 64) = 0 := by
    rw [validW_iff]
    constructor
    · rintro ⟨_, _, _, h4⟩
      apply Nat.eq_of_testBit_eq
      intro i
      rw [Nat.testBit_div_two_pow, Nat.zero_testBit, Nat.add_comm i]
      by_cases hi : n % 64 + i < 64
      · rw [← hb _ hi]
        exact h4 _ (by omega)
      · exact Nat.testBit_lt_two_pow (Nat.lt_of_lt_of_le hx (Nat.pow_le_pow_right (by decide) (by omega)))
    · intro h
      refine ⟨by omega, by omega, by rw [sizeW_nat n h1 h2, hl], fun i hi => ?_⟩
      by_cases hf : i < 64 * v.length
      · have := hb (i % 64) (by omega)
        rw [show 64 * (n / 64) + i % 64 = i by omega] at this
        rw [this]
        have h3 : (x / 2 ^ (n % 64)).testBit (i % 64 - n % 64) = false := by rw [h, Nat.zero_testBit]
        rw [Nat.testBit_div_two_pow] at h3
        rwa [show i % 64 - n % 64 + n % 64 = i % 64 by omega] at h3
      · exact getB_far v i (by omega)
  cases hv : validW n v with
  | false => exact (decide_eq_false fun e => by rw [key.2 e] at hv; cases hv).symm
  | true => exact (decide_eq_true (key.1 hv)).symm
theorem validW_bit {k : Int} {v : List UInt64} {i : Nat} (hi : k ≤ i) (hb : getB v i = true) : validW k v = false := by
  cases hv : validW k v with
  | false => rfl
  | true => rw [(validW_iff.1 hv).2.2.2 i hi] at hb; cases hb

theorem shr_zero (x m : Nat) : ((x : Int) / 2 ^ m == 0) = decide (x / 2 ^ m = 0) := by
  have e : (x : Int) / 2 ^ m = ((x / 2 ^ m : Nat) : Int) := by simp
  rw [e]
  cases h : x / 2 ^ m <;> simp
  omega

set_option maxHeartbeats 400000 in
theorem Valid_any (A : Option Addr) (c : Nat) (v : List UInt64) (k : Int) (w : World) (hC : Kw.C w A v.length v) (h0 : -9223372036854775808 ≤ k) (h1 : k ≤ 9223372036854775807) :
    Calls Tryd.prog 66 #[.int .i64 k, .slice A v.length c] w fun e w' => e = .returned (.bool (validW k v)) ∧ w = w' := by
  have hm := C_max hC
  have HC := Aside0.mk hC
  clear hC
  have hs := fun w => Size_any k w h0 h1
  by_cases ha : k < 1 ∨ 128 < k
  · have HV := Aside0.mk (validW_range (v := v) ha)
    rw [sizeW_no ha] at hs
    clear ha
    go_enter Tryd.func66, Tryd.ntmps66
    go_wp2_with (go_at_call 78; refine (hs _).mono ?_; rintro e w1 ⟨rfl, rfl⟩)
    go_ret
    exact ⟨by rw [HV.out]; rfl, rfl⟩
  · obtain ⟨n, rfl⟩ : ∃ n : Nat, k = n := ⟨k.toNat, by omega⟩
    have hsz := sizeW_nat n (by omega) (by omega)
    have hs1 : 1 ≤ sizeN n := by unfold sizeN; omega
    have hs2 : sizeN n ≤ 2 := by unfold sizeN; omega
    have hg : decide ((0 : Int) < (sizeN n : Int)) = true := decide_eq_true (by omega)
    rw [hsz] at hs
    by_cases hl : v.length = sizeN n
    · have hle : ((v.length : Int) == (sizeN n : Int)) = true := by simp; omega
      by_cases hr : n % 64 = 0
      · have HV := Aside0.mk (validW_whole (by omega) (by omega) hl hr)
        have hre : ((n : Int) % 64 == 0) = true := by simp; omega
        generalize sizeN n = M at *
        subst hl
        go_enter Tryd.func66, Tryd.ntmps66
        go_wp2_with (go_at_call 78; refine (hs _).mono ?_; rintro e w1 ⟨rfl, rfl⟩)
        go_ret
        exact ⟨by rw [HV.out]; rfl, rfl⟩
      · have HV := Aside0.mk (validW_last (by omega) (by omega) hl hr (by omega))
        have hre : ((n : Int) % 64 == 0) = false := by simp; omega
        obtain ⟨ad, rfl, hc⟩ := at_w HC.out (sizeN n - 1) (by omega)
        generalize (v[sizeN n - 1]).toNat = x at *
        generalize sizeN n = M at *
        subst hl
        go_enter Tryd.func66, Tryd.ntmps66
        go_wp2_with (go_at_call 78; refine (hs _).mono ?_; rintro e w1 ⟨rfl, rfl⟩)
        go_ret
        refine ⟨?_, rfl⟩
        rw [HV.out, ← shr_zero]
        rfl
    · have HV := Aside0.mk (validW_size (k := n) (v := v) (by rw [hsz]; omega))
      have hle : ((v.length : Int) == (sizeN n : Int)) = false := by simp; omega
      generalize sizeN n = M at *
      go_enter Tryd.func66, Tryd.ntmps66
      go_wp2_with (go_at_call 78; refine (hs _).mono ?_; rintro e w1 ⟨rfl, rfl⟩)
      go_ret
      exact ⟨by rw [HV.out]; rfl, rfl⟩

set_option maxHeartbeats 400000 in
theorem refValid_any (A : Option Addr) (c : Nat) (v : List UInt64) (k : Int) (w : World) (hC : Kw.C w A v.length v) (h0 : -9223372036854775808 ≤ k) (h1 : k ≤ 9223372036854775807) :
    Calls Tryd.prog 52 #[.int .i64 k, .slice A v.length c] w fun e w' => e = .returned (.bool (validW k v)) ∧ w = w' := by
  have hm := C_max hC
  have HC := Aside0.mk hC
  clear hC
  have hs := fun w => refSize_any k w h0 h1
  by_cases ha : k < 1 ∨ 128 < k
  · have HV := Aside0.mk (validW_range (v := v) ha)
    rw [sizeW_no ha] at hs
    clear ha
    go_enter Tryd.func52, Tryd.ntmps52
    go_wp2_with (go_at_call 55; refine (hs _).mono ?_; rintro e w1 ⟨rfl, rfl⟩)
    go_ret
    exact ⟨by rw [HV.out]; rfl, rfl⟩
  · obtain ⟨n, rfl⟩ : ∃ n : Nat, k = n := ⟨k.toNat, by omega⟩
    have hsz := sizeW_nat n (by omega) (by omega)
    have hs1 : 1 ≤ sizeN n := by unfold sizeN; omega
    have hs2 : sizeN n ≤ 2 := by unfold sizeN; omega
    have hg : ((sizeN n : Int) == 0) = false := by simp; omega
    have hnl : n ≤ 64 * sizeN n := by unfold sizeN; omega
    rw [hsz] at hs
    by_cases hl : v.length = sizeN n
    · have hle : ((v.length : Int) == (sizeN n : Int)) = true := by simp; omega
      have hV : (∀ i : Nat, n ≤ i → getB v i = false) → validW n v = true := fun h => validW_iff.2 ⟨by omega, by omega, by rw [hsz, hl], fun i hi => h i (by omega)⟩
      generalize sizeN n = M at *
      have HV := Aside0.mk hV
      clear hV
      subst hl
      go_enter Tryd.func52, Tryd.ntmps52
      go_wp2_with (go_at_call 55; refine (hs _).mono ?_; rintro e w1 ⟨rfl, rfl⟩)
      go_loop [5] (fun y => ∃ i : Nat, y = .int .i64 i ∧ n ≤ i ∧ i ≤ 64 * v.length ∧ Aside0 (∀ j : Nat, n ≤ j → j < i → getB v j = false)) (fun y => 64 * v.length - (intOf y).toNat)
      case atStart => exact ⟨n, rfl, Nat.le_refl _, by omega, ⟨fun j hj1 hj2 => by omega⟩⟩
      case round =>
        obtain ⟨i, rfl, hi1, hi2, HI⟩ := hrel
        by_cases hlt : i < 64 * v.length
        · have hgt := refGet_any A c v i w HC.out (by omega)
          cases hb : getB v i with
          | true =>
            rw [hb] at hgt
            have HE := Aside0.mk (validW_bit (k := n) (by omega) hb)
            have HGT := Aside0.mk hgt
            clear hgt hb
            go_wp2_with (go_at_call 24; refine HGT.out.mono ?_; rintro e w1 ⟨rfl, rfl⟩)
            go_ret
            exact ⟨by rw [HE.out]; rfl, rfl⟩
          | false =>
            rw [hb] at hgt
            have HE := Aside0.mk hb
            have HGT := Aside0.mk hgt
            clear hgt hb
            go_wp2_with (go_at_call 24; refine HGT.out.mono ?_; rintro e w1 ⟨rfl, rfl⟩)
            go_round
            case rel =>
              refine ⟨i + 1, by go_num, by omega, by omega, ⟨fun j hj1 hj2 => ?_⟩⟩
              by_cases hji : j < i
              · exact HI.out j hj1 hji
              · rw [show j = i by omega]; exact HE.out
            case measure => simp [intOf]; omega
        · have HE := Aside0.mk (HV.out fun j hj => by
            by_cases hjl : j < 64 * v.length
            · exact HI.out j hj (by omega)
            · exact getB_far v j (by omega))
          go_wp2
          go_ret
          exact ⟨by rw [HE.out]; rfl, rfl⟩
    · have HV := Aside0.mk (validW_size (k := n) (v := v) (by rw [hsz]; omega))
      have hle : ((v.length : Int) == (sizeN n : Int)) = false := by simp; omega
      generalize sizeN n = M at *
      go_enter Tryd.func52, Tryd.ntmps52
      go_wp2_with (go_at_call 55; refine (hs _).mono ?_; rintro e w1 ⟨rfl, rfl⟩)
      go_ret
      exact ⟨by rw [HV.out]; rfl, rfl⟩

end Go.Proofs.YtnfabflkajpkfaaDoor.WordsP
