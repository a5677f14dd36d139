/-
  Plain mathematics of the checksum: the register as a linear map on numbers, and why a burst of up to 32 bits never leaves the register as it was. No program is named here. No conditions.
-/
import Derived.Laws.BitsAllLaws
namespace Go.Proofs.Ytfelhmcejkbpfaa
namespace Crc

def poly : Nat := 3988292384
/-- One bit. -/
def step (x : Nat) : Nat := x / 2 ^^^ (if x % 2 = 1 then poly else 0)
def steps : Nat → Nat → Nat
  | 0, x => x
  | n + 1, x => step (steps n x)
/-- The register after the bytes. -/
def more (s : Nat) (l : List UInt8) : Nat := l.foldl (fun s c => steps 8 (s ^^^ c.toNat)) s
/-- The bytes as one number, the first byte lowest. -/
def num : List UInt8 → Nat
  | [] => 0
  | c :: l => c.toNat + 256 * num l
/-- The bytes with the bits of e inverted. -/
def flip : List UInt8 → Nat → List UInt8
  | [], _ => []
  | c :: l, e => UInt8.ofNat (c.toNat ^^^ e % 256) :: flip l (e / 256)

theorem xor_div_two (a b : Nat) : (a ^^^ b) / 2 = a / 2 ^^^ b / 2 := by
  apply Nat.eq_of_testBit_eq
  intro i
  simp [Nat.testBit_div_two, Nat.testBit_xor]

theorem xor_mod_two (a b : Nat) : (a ^^^ b) % 2 = (a + b) % 2 := by
  have h : decide ((a ^^^ b) % 2 = 1) = (decide (a % 2 = 1) ^^ decide (b % 2 = 1)) := by simpa [Nat.testBit_zero] using Nat.testBit_xor a b 0
  rcases Nat.mod_two_eq_zero_or_one (a ^^^ b) with hx | hx <;> rcases Nat.mod_two_eq_zero_or_one a with ha | ha <;> rcases Nat.mod_two_eq_zero_or_one b with hb | hb <;> first | omega | (exfalso; revert h; simp [hx, ha, hb])

theorem xlc (a b c : Nat) : a ^^^ (b ^^^ c) = b ^^^ (a ^^^ c) := by rw [← Nat.xor_assoc, Nat.xor_comm a b, Nat.xor_assoc]

theorem step_xor (a b : Nat) : step (a ^^^ b) = step a ^^^ step b := by
  unfold step
  rw [xor_div_two]
  have hm := xor_mod_two a b
  have e1 : (a / 2 ^^^ (if a % 2 = 1 then poly else 0)) ^^^ (b / 2 ^^^ (if b % 2 = 1 then poly else 0)) = (a / 2 ^^^ b / 2) ^^^ ((if a % 2 = 1 then poly else 0) ^^^ (if b % 2 = 1 then poly else 0)) := by
    rw [Nat.xor_assoc, Nat.xor_assoc, xlc (if a % 2 = 1 then poly else 0)]
  rw [e1]
  congr 1
  rcases Nat.mod_two_eq_zero_or_one a with ha | ha <;> rcases Nat.mod_two_eq_zero_or_one b with hb | hb
  · rw [if_neg (by omega), if_neg (by omega), if_neg (by omega)]; rfl
  · rw [if_pos (by omega), if_neg (by omega), if_pos (by omega)]; simp
  · rw [if_pos (by omega), if_pos (by omega), if_neg (by omega)]; simp
  · rw [if_neg (by omega), if_pos (by omega), if_pos (by omega)]; simp

theorem steps_xor : ∀ (n a b : Nat), steps n (a ^^^ b) = steps n a ^^^ steps n b
  | 0, _, _ => rfl
  | n + 1, a, b => by show step (steps n (a ^^^ b)) = step (steps n a) ^^^ step (steps n b); rw [steps_xor n a b, step_xor]

theorem steps_add : ∀ (m n x : Nat), steps (m + n) x = steps m (steps n x)
  | 0, n, x => by rw [Nat.zero_add]; rfl
  | m + 1, n, x => by rw [Nat.add_right_comm]; show step (steps (m + n) x) = step (steps m (steps n x)); rw [steps_add m n x]

theorem step_two_mul (x : Nat) : step (2 * x) = x := by
  unfold step
  rw [if_neg (by omega), Nat.xor_zero]
  omega

theorem steps_shift : ∀ (k x : Nat), steps k (2 ^ k * x) = x
  | 0, x => by simp [steps]
  | k + 1, x => by
    rw [show k + 1 = k + 1 from rfl, steps_add k 1]
    have e : 2 ^ (k + 1) * x = 2 * (2 ^ k * x) := by rw [Nat.pow_succ]; ac_rfl
    rw [e]
    show steps k (step (2 * (2 ^ k * x))) = x
    rw [step_two_mul, steps_shift k x]

theorem step_lt {x : Nat} (h : x < 2 ^ 32) : step x < 2 ^ 32 := by
  unfold step
  refine Nat.xor_lt_two_pow (by omega) ?_
  unfold poly
  split <;> omega

theorem xor_eq_zero {a b : Nat} (h : a ^^^ b = 0) : a = b := by
  have : (a ^^^ b) ^^^ b = b := by rw [h, Nat.zero_xor]
  rwa [Nat.xor_assoc, Nat.xor_self, Nat.xor_zero] at this

theorem step_ne {x : Nat} (h : x < 2 ^ 32) (h0 : x ≠ 0) : step x ≠ 0 := by
  unfold step
  intro e
  have := xor_eq_zero e
  unfold poly at this
  split at this <;> omega

theorem steps_ok : ∀ (n : Nat) {x : Nat}, x < 2 ^ 32 → x ≠ 0 → steps n x < 2 ^ 32 ∧ steps n x ≠ 0
  | 0, _, h, h0 => ⟨h, h0⟩
  | n + 1, x, h, h0 => by
    obtain ⟨a, b⟩ := steps_ok n h h0
    exact ⟨step_lt a, step_ne a b⟩

theorem steps_lt : ∀ (n : Nat) {x : Nat}, x < 2 ^ 32 → steps n x < 2 ^ 32
  | 0, _, h => h
  | n + 1, _, h => step_lt (steps_lt n h)

/-! ### bytes and their number -/

theorem num_lt : ∀ l : List UInt8, num l < 256 ^ l.length
  | [] => by simp [num]
  | c :: l => by
    have := num_lt l
    have hc : c.toNat < 256 := c.toNat_lt
    simp only [num, List.length_cons, Nat.pow_succ]
    omega

theorem num_append : ∀ a b : List UInt8, num (a ++ b) = num a + 256 ^ a.length * num b
  | [], b => by simp [num]
  | c :: a, b => by
    simp only [List.cons_append, num, List.length_cons, Nat.pow_succ]
    rw [num_append a b, Nat.mul_add, ← Nat.add_assoc, ← Nat.mul_assoc, Nat.mul_comm (256 ^ a.length) 256]

theorem num_inj : ∀ {a b : List UInt8}, a.length = b.length → num a = num b → a = b
  | [], [], _, _ => rfl
  | [], _ :: _, h, _ => by simp at h
  | _ :: _, [], h, _ => by simp at h
  | c :: a, d :: b, h, e => by
    have hc : c.toNat < 256 := c.toNat_lt
    have hd : d.toNat < 256 := d.toNat_lt
    simp only [num] at e
    have e1 : c.toNat = d.toNat := by omega
    have e2 : num a = num b := by omega
    rw [UInt8.toNat_inj.1 e1, num_inj (by simpa using h) e2]

/-- A sum without a carry is an exclusive or. -/
theorem add_eq_xor (k x y : Nat) (h : x < 2 ^ k) : x + 2 ^ k * y = x ^^^ 2 ^ k * y := by
  apply Nat.eq_of_testBit_eq
  intro i
  rw [Nat.testBit_xor, Nat.add_comm, Nat.testBit_two_pow_mul_add _ h, Nat.testBit_two_pow_mul]
  by_cases hi : i < k
  · rw [if_pos hi]; simp [Nat.not_le.2 hi]
  · rw [if_neg hi]
    rw [Nat.testBit_lt_two_pow (Nat.lt_of_lt_of_le h (Nat.pow_le_pow_right (by omega) (by omega)))]
    simp [Nat.not_lt.1 hi]

theorem more_cons (s : Nat) (c : UInt8) (l : List UInt8) : more s (c :: l) = more (steps 8 (s ^^^ c.toNat)) l := rfl

theorem more_eq : ∀ (l : List UInt8) (s : Nat), more s l = steps (8 * l.length) (s ^^^ num l)
  | [], s => by simp [more, num, steps]
  | c :: l, s => by
    have hc : c.toNat < 2 ^ 8 := c.toNat_lt
    have e1 : num (c :: l) = c.toNat + 2 ^ 8 * num l := rfl
    have e2 : 8 * (c :: l).length = 8 * l.length + 8 := by rw [List.length_cons]; omega
    rw [more_cons, more_eq l, e1, e2, steps_add, add_eq_xor 8 _ _ hc, ← Nat.xor_assoc, steps_xor 8 (s ^^^ c.toNat), steps_shift]

theorem more_append (s : Nat) (a b : List UInt8) : more s (a ++ b) = more (more s a) b := by unfold more; rw [List.foldl_append]

theorem more_lt (l : List UInt8) : ∀ {s : Nat}, s < 2 ^ 32 → more s l < 2 ^ 32 := by
  induction l with
  | nil => intro s h; exact h
  | cons c l ih =>
    intro s h
    have hc : c.toNat < 256 := c.toNat_lt
    exact ih (steps_lt 8 (Nat.xor_lt_two_pow h (by omega)))

/-! ### the burst -/

theorem flip_length : ∀ (l : List UInt8) (e : Nat), (flip l e).length = l.length
  | [], _ => rfl
  | _ :: l, e => by simp [flip, flip_length l]

theorem xor_mod_two_pow (a b n : Nat) : (a ^^^ b) % 2 ^ n = a % 2 ^ n ^^^ b % 2 ^ n := by
  apply Nat.eq_of_testBit_eq
  intro i
  simp only [Nat.testBit_mod_two_pow, Nat.testBit_xor]
  by_cases h : i < n <;> simp [h]

theorem xor_div_two_pow (a b n : Nat) : (a ^^^ b) / 2 ^ n = a / 2 ^ n ^^^ b / 2 ^ n := by
  apply Nat.eq_of_testBit_eq
  intro i
  simp only [Nat.testBit_div_two_pow, Nat.testBit_xor]

theorem num_flip : ∀ (l : List UInt8) (e : Nat), num (flip l e) = num l ^^^ e % 256 ^ l.length
  | [], e => by simp [flip, num, Nat.mod_one]
  | c :: l, e => by
    have hc : c.toNat < 2 ^ 8 := c.toNat_lt
    have hx : c.toNat ^^^ e % 256 < 2 ^ 8 := Nat.xor_lt_two_pow hc (Nat.mod_lt _ (by omega))
    have e1 : (UInt8.ofNat (c.toNat ^^^ e % 256)).toNat = c.toNat ^^^ e % 256 := by
      rw [UInt8.toNat_ofNat']; exact Nat.mod_eq_of_lt hx
    show (UInt8.ofNat (c.toNat ^^^ e % 256)).toNat + 2 ^ 8 * num (flip l (e / 256)) = (c.toNat + 2 ^ 8 * num l) ^^^ _
    rw [e1, num_flip l, add_eq_xor 8 _ _ hx, add_eq_xor 8 _ _ hc]
    have e2 : e % 256 ^ (c :: l).length = e % 256 ^^^ 2 ^ 8 * (e / 256 % 256 ^ l.length) := by
      rw [← add_eq_xor 8 _ _ (Nat.mod_lt _ (by omega)), List.length_cons, Nat.pow_succ, Nat.mul_comm, Nat.mod_mul]
    rw [e2]
    have e3 : 2 ^ 8 * (num l ^^^ e / 256 % 256 ^ l.length) = 2 ^ 8 * num l ^^^ 2 ^ 8 * (e / 256 % 256 ^ l.length) := by
      apply Nat.eq_of_testBit_eq
      intro i
      simp only [Nat.testBit_two_pow_mul, Nat.testBit_xor]
      by_cases h : 8 ≤ i <;> simp [h]
    rw [e3, Nat.xor_assoc, Nat.xor_assoc, xlc (e % 256)]

theorem flip_flip (l : List UInt8) (e : Nat) : flip (flip l e) e = l := by
  refine num_inj (by rw [flip_length, flip_length]) ?_
  rw [num_flip, num_flip, flip_length, Nat.xor_assoc, Nat.xor_self, Nat.xor_zero]

/-- What a burst does to the number: bits from 'at' on. -/
theorem burst_ne (l : List UInt8) (b at_ : Nat) (hb : b < 2 ^ 32) (hodd : b % 2 = 1) (hat : at_ < 8 * l.length) :
    steps (8 * l.length) ((b * 2 ^ at_) % 256 ^ l.length) ≠ 0 ∧ (b * 2 ^ at_) % 256 ^ l.length ≠ 0 := by
  obtain ⟨L, hL⟩ : ∃ L, 8 * l.length = at_ + (L + 1) := ⟨8 * l.length - at_ - 1, by omega⟩
  have e0 : 256 ^ l.length = 2 ^ at_ * 2 ^ (L + 1) := by
    rw [← Nat.pow_add, ← hL, Nat.pow_mul]
  have e1 : (b * 2 ^ at_) % 256 ^ l.length = 2 ^ at_ * (b % 2 ^ (L + 1)) := by
    rw [e0, Nat.mul_comm b, Nat.mul_mod_mul_left]
  have hm : b % 2 ^ (L + 1) % 2 = 1 := by rw [Nat.mod_mod_of_dvd _ ⟨2 ^ L, by rw [Nat.pow_succ, Nat.mul_comm]⟩]; exact hodd
  have hlt : b % 2 ^ (L + 1) < 2 ^ 32 := Nat.lt_of_le_of_lt (Nat.mod_le _ _) hb
  have hne : b % 2 ^ (L + 1) ≠ 0 := by omega
  refine ⟨?_, ?_⟩
  · rw [e1, hL, Nat.add_comm, steps_add, steps_shift]
    exact (steps_ok _ hlt hne).2
  · rw [e1]
    have := Nat.two_pow_pos at_
    exact Nat.mul_ne_zero (by omega) hne

/-- A number's lowest four bytes. -/
def fix : Nat → Nat → List UInt8
  | 0, _ => []
  | w + 1, n => UInt8.ofNat (n % 256) :: fix w (n / 256)

theorem fix_length : ∀ w n, (fix w n).length = w
  | 0, _ => rfl
  | w + 1, n => by simp [fix, fix_length w]

theorem num_fix : ∀ w n, num (fix w n) = n % 256 ^ w
  | 0, n => by simp [fix, num, Nat.mod_one]
  | w + 1, n => by
    have e : (UInt8.ofNat (n % 256)).toNat = n % 256 := by rw [UInt8.toNat_ofNat']; omega
    show (UInt8.ofNat (n % 256)).toNat + 256 * num (fix w (n / 256)) = n % 256 ^ (w + 1)
    rw [num_fix w, e, Nat.pow_succ, Nat.mul_comm (256 ^ w) 256, Nat.mod_mul]

theorem fix_num (l : List UInt8) : fix l.length (num l) = l := by
  refine num_inj (fix_length _ _) ?_
  rw [num_fix]
  exact Nat.mod_eq_of_lt (num_lt l)

def F : Nat := 4294967295
def sumOf (l : List UInt8) : Nat := more F l ^^^ F
def sealedL (l : List UInt8) : List UInt8 := l ++ fix 4 (sumOf l)

theorem sumOf_lt (l : List UInt8) : sumOf l < 2 ^ 32 := Nat.xor_lt_two_pow (more_lt l (by unfold F; omega)) (by unfold F; omega)

/-- The register behind a sealed text is always the same. -/
theorem sealed_steps (l : List UInt8) : steps (8 * (sealedL l).length) (F ^^^ num (sealedL l)) = steps 32 F := by
  rw [← more_eq, sealedL, more_append, more_eq (fix 4 _), fix_length, num_fix, Nat.mod_eq_of_lt (show sumOf l < 256 ^ 4 from sumOf_lt l)]
  unfold sumOf
  rw [← Nat.xor_assoc, Nat.xor_self, Nat.zero_xor]

/-- THE BURST: no sealed text is another one with a burst in it. -/
theorem burst (a c : List UInt8) (b at_ : Nat) (hb : b < 2 ^ 32) (hodd : b % 2 = 1) (hat : at_ < 8 * (sealedL a).length) (h : flip (sealedL a) (b * 2 ^ at_) = sealedL c) : False := by
  have h1 := sealed_steps a
  have h2 := sealed_steps c
  rw [← h, flip_length, num_flip, ← Nat.xor_assoc, steps_xor, h1] at h2
  have h3 : steps 32 F ^^^ (steps 32 F ^^^ steps (8 * (sealedL a).length) ((b * 2 ^ at_) % 256 ^ (sealedL a).length)) = steps 32 F ^^^ steps 32 F := by rw [h2]
  rw [← Nat.xor_assoc, Nat.xor_self, Nat.zero_xor] at h3
  exact (burst_ne _ b at_ hb hodd hat).1 h3

theorem flip_ne (l : List UInt8) (b at_ : Nat) (hb : b < 2 ^ 32) (hodd : b % 2 = 1) (hat : at_ < 8 * l.length) : flip l (b * 2 ^ at_) ≠ l := by
  intro h
  have := num_flip l (b * 2 ^ at_)
  rw [h] at this
  refine (burst_ne l b at_ hb hodd hat).2 ?_
  have h2 : num l ^^^ num l = num l ^^^ (num l ^^^ (b * 2 ^ at_) % 256 ^ l.length) := by rw [← this]
  rw [← Nat.xor_assoc, Nat.xor_self, Nat.zero_xor] at h2
  exact h2.symm
end Crc
end Go.Proofs.Ytfelhmcejkbpfaa
