/- How many bits a word has, counted by adding neighbours; plain laws. Over any program. No condition. -/
import Derived.Test.YtnfabflkajpkfaaDoorBits
namespace Go.Proofs.YtnfabflkajpkfaaDoor.Ones
open Go Go.RowKit Go.Proofs.YtnfabflkajpkfaaDoorW.PrintWords Go.Proofs.YtnfabflkajpkfaaDoor.Base Go.Proofs.YtnfabflkajpkfaaDoor.Bits
set_option linter.unusedVariables false
set_option linter.unusedSimpArgs false

def ofB : List Nat → Nat
  | [] => 0
  | b :: l => b + 256 * ofB l
theorem and256 (b c y z : Nat) (hb : b < 256) (hc : c < 256) : (b + 256 * y) &&& (c + 256 * z) = (b &&& c) + 256 * (y &&& z) := by
  have hbc : b &&& c < 2 ^ 8 := Nat.and_lt_two_pow _ (by simpa using hc)
  apply Nat.eq_of_testBit_eq
  intro i
  rw [Nat.testBit_and, show b + 256 * y = 2 ^ 8 * y + b by omega, show c + 256 * z = 2 ^ 8 * z + c by omega, show (b &&& c) + 256 * (y &&& z) = 2 ^ 8 * (y &&& z) + (b &&& c) by omega,
    Nat.testBit_two_pow_mul_add _ (by simpa using hb), Nat.testBit_two_pow_mul_add _ (by simpa using hc), Nat.testBit_two_pow_mul_add _ hbc]
  by_cases h : i < 8 <;> simp [h, Nat.testBit_and]
theorem add_map (f g : Nat → Nat) (l : List Nat) : ofB (l.map f) + ofB (l.map g) = ofB (l.map fun b => f b + g b) := by
  induction l with
  | nil => rfl
  | cons b l ih => simp only [List.map_cons, ofB]; rw [← ih]; omega
theorem and_map (m : Nat) (hm : m < 256) (l : List Nat) (hl : ∀ b ∈ l, b < 256) : ofB l &&& ofB (List.replicate l.length m) = ofB (l.map fun b => b &&& m) := by
  induction l with
  | nil => simp [ofB]
  | cons b l ih =>
    simp only [List.length_cons, List.replicate_succ, ofB, List.map_cons]
    rw [and256 _ _ _ _ (hl b (by simp)) hm, ih fun x hx => hl x (by simp [hx])]
theorem d1 : ∀ b < 256, ∀ c < 2, (b / 2 + 128 * c) &&& 85 = b / 2 &&& 85 := by decide +kernel
theorem d2 : ∀ b < 256, ∀ c < 4, (b / 4 + 64 * c) &&& 51 = b / 4 &&& 51 := by decide +kernel
theorem shr1 (l : List Nat) (hl : ∀ b ∈ l, b < 256) : ofB l / 2 &&& ofB (List.replicate l.length 85) = ofB (l.map fun b => b / 2 &&& 85) := by
  induction l with
  | nil => simp [ofB]
  | cons b l ih =>
    have hb := hl b (by simp)
    simp only [List.length_cons, List.replicate_succ, ofB, List.map_cons]
    rw [show (b + 256 * ofB l) / 2 = (b / 2 + 128 * (ofB l % 2)) + 256 * (ofB l / 2) by omega, and256 _ _ _ _ (by omega) (by omega), ih fun x hx => hl x (by simp [hx]), d1 b hb _ (Nat.mod_lt _ (by omega))]
theorem shr2 (l : List Nat) (hl : ∀ b ∈ l, b < 256) : ofB l / 4 &&& ofB (List.replicate l.length 51) = ofB (l.map fun b => b / 4 &&& 51) := by
  induction l with
  | nil => simp [ofB]
  | cons b l ih =>
    have hb := hl b (by simp)
    simp only [List.length_cons, List.replicate_succ, ofB, List.map_cons]
    rw [show (b + 256 * ofB l) / 4 = (b / 4 + 64 * (ofB l % 4)) + 256 * (ofB l / 4) by omega, and256 _ _ _ _ (by omega) (by omega), ih fun x hx => hl x (by simp [hx]), d2 b hb _ (Nat.mod_lt _ (by omega))]
def sm (b : Nat) : Bool := decide (b < 69) && decide (b % 16 < 5)
theorem d3 : ∀ b < 69, b % 16 < 5 → ∀ c < 5, (b / 16 + b + 16 * c) < 256 ∧ (b / 16 + b + 16 * c) &&& 15 = (b / 16 + b) &&& 15 := by decide +kernel
theorem shr4 (l : List Nat) (hl : ∀ b ∈ l, b < 69 ∧ b % 16 < 5) : (ofB l / 16 + ofB l) &&& ofB (List.replicate l.length 15) = ofB (l.map fun b => (b / 16 + b) &&& 15) ∧ ofB l % 16 < 5 := by
  induction l with
  | nil => simp [ofB]
  | cons b l ih =>
    obtain ⟨h1, h2⟩ := hl b (by simp)
    obtain ⟨i1, i2⟩ := ih fun x hx => hl x (by simp [hx])
    obtain ⟨e1, e2⟩ := d3 b h1 h2 _ i2
    simp only [List.length_cons, List.replicate_succ, ofB, List.map_cons]
    refine ⟨?_, by omega⟩
    rw [show (b + 256 * ofB l) / 16 + (b + 256 * ofB l) = (b / 16 + b + 16 * (ofB l % 16)) + 256 * (ofB l / 16 + ofB l) by omega, and256 _ _ _ _ e1 (by omega), i1, e2]
def p8 (b : Nat) : Nat := (b / 2 &&& 85) + (b &&& 85)
def q8 (b : Nat) : Nat := (b / 4 &&& 51) + (b &&& 51)
def c8 (b : Nat) : Nat := b % 2 + b / 2 % 2 + b / 4 % 2 + b / 8 % 2 + b / 16 % 2 + b / 32 % 2 + b / 64 % 2 + b / 128 % 2
theorem d4 : ∀ b < 256, p8 b < 256 ∧ q8 (p8 b) < 69 ∧ q8 (p8 b) % 16 < 5 ∧ ((q8 (p8 b) / 16 + q8 (p8 b)) &&& 15) = c8 b ∧ c8 b < 9 := by decide +kernel
/-- the first three steps -/
theorem steps (l : List Nat) (hl : ∀ b ∈ l, b < 256) (x1 x2 x3 : Nat) (h1 : x1 = (ofB l / 2 &&& ofB (List.replicate l.length 85)) + (ofB l &&& ofB (List.replicate l.length 85)))
    (h2 : x2 = (x1 / 4 &&& ofB (List.replicate l.length 51)) + (x1 &&& ofB (List.replicate l.length 51))) (h3 : x3 = (x2 / 16 + x2) &&& ofB (List.replicate l.length 15)) : x3 = ofB (l.map c8) := by
  rw [shr1 l hl, and_map 85 (by omega) l hl, add_map] at h1
  have hp : ∀ b ∈ l.map p8, b < 256 := by
    intro b hb
    obtain ⟨a, ha, rfl⟩ := List.mem_map.1 hb
    exact (d4 a (hl a ha)).1
  have e1 : x1 = ofB (l.map p8) := h1
  have hlen : (l.map p8).length = l.length := by simp
  rw [e1, ← hlen, shr2 _ hp, and_map 51 (by omega) _ hp, add_map] at h2
  have e2 : x2 = ofB ((l.map p8).map q8) := h2
  have hlen2 : ((l.map p8).map q8).length = l.length := by simp
  have hq : ∀ b ∈ (l.map p8).map q8, b < 69 ∧ b % 16 < 5 := by
    intro b hb
    simp only [List.map_map, List.mem_map, Function.comp] at hb
    obtain ⟨a, ha, rfl⟩ := hb
    exact ⟨(d4 a (hl a ha)).2.1, (d4 a (hl a ha)).2.2.1⟩
  rw [e2, ← hlen2, (shr4 _ hq).1] at h3
  rw [h3, List.map_map, List.map_map]
  congr 1
  apply List.map_congr_left
  intro b hb
  exact (d4 b (hl b hb)).2.2.2.1
theorem pc_step (n : Nat) : pc n = n % 2 + pc (n / 2) := by
  rcases Nat.eq_zero_or_pos n with rfl | h
  · simp [pc_zero]
  · exact pc_pos n h
theorem pc_byte (b y : Nat) (hb : b < 256) : pc (b + 256 * y) = c8 b + pc y := by
  rw [pc_step, pc_step, pc_step, pc_step, pc_step, pc_step, pc_step, pc_step]
  have e : (b + 256 * y) / 2 / 2 / 2 / 2 / 2 / 2 / 2 / 2 = y := by omega
  rw [e]
  unfold c8
  omega
theorem pc_ofB (l : List Nat) (hl : ∀ b ∈ l, b < 256) : pc (ofB l) = (l.map c8).sum := by
  induction l with
  | nil => simp [ofB, pc_zero]
  | cons b l ih =>
    rw [ofB, pc_byte b _ (hl b (by simp)), ih fun x hx => hl x (by simp [hx])]; simp
def bytes8 (x : Nat) : List Nat := [x % 256, x / 256 % 256, x / 65536 % 256, x / 16777216 % 256, x / 4294967296 % 256, x / 1099511627776 % 256, x / 281474976710656 % 256, x / 72057594037927936 % 256]
theorem ofB_bytes8 (x : Nat) (h : x < 18446744073709551616) : ofB (bytes8 x) = x := by
  simp only [bytes8, ofB]; omega
theorem bytes8_lt (x : Nat) : ∀ b ∈ bytes8 x, b < 256 := by
  intro b hb
  simp only [bytes8, List.mem_cons, List.not_mem_nil, or_false] at hb
  rcases hb with h | h | h | h | h | h | h | h <;> omega
/-- all of it -/
theorem ones (x x1 x2 x3 : Nat) (hx : x < 18446744073709551616) (h1 : x1 = (x / 2 &&& 6148914691236517205) + (x &&& 6148914691236517205))
    (h2 : x2 = (x1 / 4 &&& 3689348814741910323) + (x1 &&& 3689348814741910323)) (h3 : x3 = (x2 / 16 + x2) &&& 1085102592571150095) :
    ∃ c0 c1 c2 c3 c4 c5 c6 c7 : Nat, c0 ≤ 8 ∧ c1 ≤ 8 ∧ c2 ≤ 8 ∧ c3 ≤ 8 ∧ c4 ≤ 8 ∧ c5 ≤ 8 ∧ c6 ≤ 8 ∧ c7 ≤ 8 ∧ pc x = c0 + c1 + c2 + c3 + c4 + c5 + c6 + c7 ∧
      x3 = c0 + 256 * (c1 + 256 * (c2 + 256 * (c3 + 256 * (c4 + 256 * (c5 + 256 * (c6 + 256 * c7)))))) := by
  have hb := bytes8_lt x
  have hx' := ofB_bytes8 x hx
  have e85 : ofB (List.replicate (bytes8 x).length 85) = 6148914691236517205 := by simp [bytes8, ofB, List.replicate]
  have e51 : ofB (List.replicate (bytes8 x).length 51) = 3689348814741910323 := by simp [bytes8, ofB, List.replicate]
  have e15 : ofB (List.replicate (bytes8 x).length 15) = 1085102592571150095 := by simp [bytes8, ofB, List.replicate]
  have hs := steps (bytes8 x) hb x1 x2 x3 (by rw [e85, hx']; exact h1) (by rw [e51]; exact h2) (by rw [e15]; exact h3)
  have hp := pc_ofB (bytes8 x) hb
  rw [hx'] at hp
  have hc : ∀ b ∈ bytes8 x, c8 b ≤ 8 := fun b h => by have := (d4 b (hb b h)).2.2.2.2; omega
  simp only [bytes8, List.map_cons, List.map_nil, List.sum_cons, List.sum_nil, ofB] at hs hp
  simp only [bytes8, List.mem_cons, List.not_mem_nil, or_false] at hc
  refine ⟨_, _, _, _, _, _, _, _, hc _ (.inl rfl), hc _ (.inr (.inl rfl)), hc _ (.inr (.inr (.inl rfl))), hc _ (.inr (.inr (.inr (.inl rfl)))), hc _ (.inr (.inr (.inr (.inr (.inl rfl))))), hc _ (.inr (.inr (.inr (.inr (.inr (.inl rfl)))))), hc _ (.inr (.inr (.inr (.inr (.inr (.inr (.inl rfl))))))), hc _ (.inr (.inr (.inr (.inr (.inr (.inr (.inr rfl))))))), by rw [hp]; simp only [Nat.add_zero, Nat.add_assoc], by rw [hs]; simp only [Nat.mul_zero, Nat.add_zero]⟩
theorem fold8 {c0 c1 c2 c3 c4 c5 c6 c7 x3 : Nat} (h0 : c0 ≤ 8) (h1 : c1 ≤ 8) (h2 : c2 ≤ 8) (h3 : c3 ≤ 8) (h4 : c4 ≤ 8) (h5 : c5 ≤ 8) (h6 : c6 ≤ 8) (h7 : c7 ≤ 8)
    (hx : x3 = c0 + 256 * (c1 + 256 * (c2 + 256 * (c3 + 256 * (c4 + 256 * (c5 + 256 * (c6 + 256 * c7))))))) :
    x3 + x3 / 256 < 18446744073709551616 ∧ (x3 + x3 / 256) + (x3 + x3 / 256) / 65536 < 18446744073709551616 ∧
    ((x3 + x3 / 256) + (x3 + x3 / 256) / 65536) + ((x3 + x3 / 256) + (x3 + x3 / 256) / 65536) / 4294967296 < 18446744073709551616 ∧
    (((x3 + x3 / 256) + (x3 + x3 / 256) / 65536) + ((x3 + x3 / 256) + (x3 + x3 / 256) / 65536) / 4294967296) % 128 = c0 + c1 + c2 + c3 + c4 + c5 + c6 + c7 := by
  obtain ⟨z6, e6⟩ : ∃ z, z = c6 + 256 * c7 := ⟨_, rfl⟩
  obtain ⟨z5, e5⟩ : ∃ z, z = c5 + 256 * z6 := ⟨_, rfl⟩
  obtain ⟨z4, e4⟩ : ∃ z, z = c4 + 256 * z5 := ⟨_, rfl⟩
  obtain ⟨z3, e3⟩ : ∃ z, z = c3 + 256 * z4 := ⟨_, rfl⟩
  obtain ⟨z2, e2⟩ : ∃ z, z = c2 + 256 * z3 := ⟨_, rfl⟩
  obtain ⟨z1, e1⟩ : ∃ z, z = c1 + 256 * z2 := ⟨_, rfl⟩
  rw [← e6, ← e5, ← e4, ← e3, ← e2, ← e1] at hx
  have b6 : z6 ≤ 8 * 257 := by omega
  have b5 : z5 ≤ 8 + 256 * 2056 := by omega
  have b4 : z4 ≤ 134744072 := by omega
  have b3 : z3 ≤ 34494482440 := by omega
  have b2 : z2 ≤ 8830587504648 := by omega
  have b1 : z1 ≤ 2260630401189896 := by omega
  have d1 : x3 / 256 = z1 := by clear e1 e2 e3 e4 e5 e6; omega
  rw [d1]
  have d2 : (x3 + z1) / 65536 = z2 + z3 := by clear e4 e5 e6 b4 b5 b6 d1; omega
  rw [d2]
  have d3 : (x3 + z1 + (z2 + z3)) / 4294967296 = z4 + z5 + z6 + c7 := by clear d1 d2 b1 b2 b3 b4 b5 b6; omega
  rw [d3]
  have d4 : (x3 + z1 + (z2 + z3) + (z4 + z5 + z6 + c7)) % 128 = c0 + c1 + c2 + c3 + c4 + c5 + c6 + c7 := by clear d1 d2 d3 b1 b2 b3 b4 b5 b6; omega
  refine ⟨?_, ?_, ?_, d4⟩
  · clear d1 d2 d3 d4 e2 e3 e4 e5 e6; omega
  · clear d1 d2 d3 d4 e2 e3 e4 e5 e6; omega
  · clear d1 d2 d3 d4 e2 e3 e4 e5 e6; omega

end Go.Proofs.YtnfabflkajpkfaaDoor.Ones
