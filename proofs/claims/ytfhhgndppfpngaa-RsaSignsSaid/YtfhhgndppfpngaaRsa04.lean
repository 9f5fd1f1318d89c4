/- Fermat's law, Lucas and Lehmer's law, rows of limbs. No condition. -/
import GoSem.Core.View
import Derived.KernelRfl
set_option linter.unusedSimpArgs false
set_option linter.unusedVariables false
namespace Go.Mx

/-- A prime. -/
def IsPrime (p : Nat) : Prop := 2 ≤ p ∧ ∀ m, m ∣ p → m = 1 ∨ m = p

def prodL : List Nat → Nat
  | [] => 1
  | x :: xs => x * prodL xs
theorem prodL_perm {l l' : List Nat} (h : l.Perm l') : prodL l = prodL l' := by
  induction h with
  | nil => rfl
  | cons x _ ih => simp only [prodL, ih]
  | swap x y l => simp only [prodL]; rw [← Nat.mul_assoc, Nat.mul_comm y x, Nat.mul_assoc]
  | trans _ _ h1 h2 => exact h1.trans h2
theorem prodL_mul (a p : Nat) : ∀ l : List Nat, prodL (l.map fun x => a * x % p) % p = (a ^ l.length * prodL l) % p
  | [] => by simp [prodL]
  | x :: l => by
    simp only [List.map_cons, prodL, List.length_cons]
    have e : a ^ (l.length + 1) * (x * prodL l) = (a * x) * (a ^ l.length * prodL l) := by
      rw [Nat.pow_succ]; simp only [Nat.mul_comm, Nat.mul_left_comm, Nat.mul_assoc]
    rw [e, Nat.mul_mod, prodL_mul a p l, Nat.mod_mod, ← Nat.mul_mod]
theorem coprime_of_lt {p a : Nat} (hp : IsPrime p) (h0 : 0 < a) (h1 : a < p) : Nat.Coprime p a := by
  have hd := hp.2 (Nat.gcd p a) (Nat.gcd_dvd_left p a)
  rcases hd with h | h
  · exact h
  · have := Nat.le_of_dvd h0 (Nat.gcd_dvd_right p a)
    omega
theorem coprime_prod {p : Nat} : ∀ {l : List Nat}, (∀ x ∈ l, Nat.Coprime p x) → Nat.Coprime p (prodL l)
  | [], _ => Nat.gcd_one_right p
  | x :: l, h => Nat.Coprime.mul_right (h x (by simp)) (coprime_prod fun y hy => h y (by simp [hy]))
/-- What a coprime factor leaves equal is equal. -/
theorem cancel {p c a b : Nat} (hc : Nat.Coprime p c) (h : (c * a) % p = (c * b) % p) : a % p = b % p := by
  have key : ∀ a b : Nat, a ≤ b → (c * a) % p = (c * b) % p → a % p = b % p := by
    intro a b hab h
    have hd : p ∣ c * (b - a) := by
      rw [Nat.mul_sub]
      exact Nat.dvd_of_mod_eq_zero (Nat.sub_mod_eq_zero_of_mod_eq h.symm)
    have hd2 := Nat.Coprime.dvd_of_dvd_mul_left hc hd
    obtain ⟨k, hk⟩ := hd2
    have : b = a + p * k := by omega
    rw [this, Nat.add_mul_mod_self_left]
  rcases Nat.le_total a b with hab | hab
  · exact key a b hab h
  · exact (key b a hab h.symm).symm
theorem nodup_map {α β : Type} {f : α → β} : ∀ {l : List α}, (∀ x ∈ l, ∀ y ∈ l, f x = f y → x = y) → l.Nodup → (l.map f).Nodup
  | [], _, _ => by simp
  | x :: l, h, hn => by
    simp only [List.map_cons, List.nodup_cons, List.mem_map, not_exists, not_and] at hn ⊢
    refine ⟨fun y hy he => ?_, nodup_map (fun a ha b hb => h a (by simp [ha]) b (by simp [hb])) hn.2⟩
    have := h y (by simp [hy]) x (by simp) he
    subst this
    exact hn.1 hy
theorem fermat {p a : Nat} (hp : IsPrime p) (h0 : 0 < a) (h1 : a < p) : a ^ (p - 1) % p = 1 := by
  have hp2 := hp.1
  let l := (List.range (p - 1)).map (· + 1)
  have hl : l.length = p - 1 := by simp [l]
  have hmem : ∀ x, x ∈ l ↔ 0 < x ∧ x < p := by
    intro x
    simp only [l, List.mem_map, List.mem_range]
    constructor
    · rintro ⟨y, hy, rfl⟩; omega
    · rintro ⟨h2, h3⟩; exact ⟨x - 1, by omega, by omega⟩
  have hnd : l.Nodup := nodup_map (fun x _ y _ h => by omega) List.nodup_range
  have ha := coprime_of_lt hp h0 h1
  have hinj : ∀ x ∈ l, ∀ y ∈ l, a * x % p = a * y % p → x = y := by
    intro x hx y hy h
    have := cancel ha h
    rw [Nat.mod_eq_of_lt ((hmem x).1 hx).2, Nat.mod_eq_of_lt ((hmem y).1 hy).2] at this
    exact this
  have hnd2 : (l.map fun x => a * x % p).Nodup := nodup_map hinj hnd
  have hsub : (l.map fun x => a * x % p) ⊆ l := by
    intro z hz
    obtain ⟨x, hx, rfl⟩ := List.mem_map.1 hz
    rw [hmem]
    refine ⟨?_, Nat.mod_lt _ (by omega)⟩
    rcases Nat.eq_zero_or_pos (a * x % p) with h | h
    · have hd : p ∣ a * x := Nat.dvd_of_mod_eq_zero h
      have := Nat.le_of_dvd ((hmem x).1 hx).1 (Nat.Coprime.dvd_of_dvd_mul_left ha hd)
      have := ((hmem x).1 hx).2
      omega
    · exact h
  have hperm : (l.map fun x => a * x % p).Perm l := by
    rw [List.perm_ext_iff_of_nodup hnd2 hnd]
    intro x
    refine ⟨fun h => hsub h, fun h => ?_⟩
    apply Classical.byContradiction
    intro hn
    have hnd3 : (x :: l.map fun x => a * x % p).Nodup := List.nodup_cons.2 ⟨hn, hnd2⟩
    have := List.Nodup.length_le_of_subset hnd3 (fun z hz => by
      rcases List.mem_cons.1 hz with rfl | hz
      · exact h
      · exact hsub hz)
    simp at this
    omega
  have e1 := prodL_mul a p l
  rw [prodL_perm hperm, hl] at e1
  have hc : Nat.Coprime p (prodL l) := coprime_prod fun x hx => coprime_of_lt hp ((hmem x).1 hx).1 ((hmem x).1 hx).2
  have e2 : (prodL l * 1) % p = (prodL l * a ^ (p - 1)) % p := by rw [Nat.mul_one, e1, Nat.mul_comm]
  have := cancel hc e2
  rw [← this, Nat.mod_eq_of_lt (by omega)]
/-- A power that is undone by another one. -/
theorem power_back {p a d e : Nat} (hp : IsPrime p) (h1 : a < p) (hde : d * e % (p - 1) = 1) : (a ^ d % p) ^ e % p = a := by
  have hp2 := hp.1
  rw [← Nat.pow_mod, ← Nat.pow_mul]
  rcases Nat.eq_zero_or_pos a with rfl | h0
  · rw [Nat.zero_pow, Nat.zero_mod]
    rcases Nat.eq_zero_or_pos (d * e) with h | h
    · rw [h] at hde; simp at hde
    · exact h
  · have e1 : d * e = (p - 1) * (d * e / (p - 1)) + 1 := by
      have := Nat.div_add_mod (d * e) (p - 1)
      omega
    rw [e1, Nat.pow_succ, Nat.pow_mul, Nat.mul_mod, Nat.pow_mod, fermat hp h0 h1]
    by_cases h2 : p = 1
    · omega
    · rw [Nat.one_pow, Nat.mod_eq_of_lt (by omega : 1 < p), Nat.one_mul, Nat.mod_mod, Nat.mod_eq_of_lt h1]
end Go.Mx
namespace Go.Mx

/-- The row of s, by M. -/
def llGo (M : Nat) : Nat → Nat → Nat
  | 0, s => s
  | n + 1, s => llGo M n ((s * s + (M - 2)) % M)
/-- x + y times the root of 3, squared again and again. -/
def xy : Nat → Nat × Nat
  | 0 => (2, 1)
  | n + 1 => ((xy n).1 * (xy n).1 + 3 * ((xy n).2 * (xy n).2), 2 * ((xy n).1 * (xy n).2))
theorem xy_norm : ∀ n, (xy n).1 * (xy n).1 = 3 * ((xy n).2 * (xy n).2) + 1
  | 0 => rfl
  | n + 1 => by
    have h := xy_norm n
    simp only [xy]
    generalize (xy n).1 = x at h
    generalize (xy n).2 = y at h
    have e1 : (x * x + 3 * (y * y)) = 6 * (y * y) + 1 := by omega
    rw [e1]
    have e2 : 2 * (x * y) * (2 * (x * y)) = 4 * ((x * x) * (y * y)) := by simp only [Nat.mul_comm, Nat.mul_left_comm, Nat.mul_assoc]
    rw [e2, h]
    generalize y * y = z
    simp only [Nat.add_mul, Nat.mul_add, Nat.one_mul, Nat.mul_one]
    have : 6 * z * (6 * z) = 36 * (z * z) := by simp only [Nat.mul_comm, Nat.mul_left_comm, Nat.mul_assoc]
    have h2 : 3 * z * z = 3 * (z * z) := Nat.mul_assoc 3 z z
    omega
theorem xy_pos (n : Nat) : 1 ≤ (xy n).1 := by
  have := xy_norm n
  rcases Nat.eq_zero_or_pos (xy n).1 with h | h
  · rw [h] at this; omega
  · exact h
/-- s is twice x. -/
theorem s_step (n : Nat) : 2 * (xy (n + 1)).1 + 2 = (2 * (xy n).1) * (2 * (xy n).1) := by
  have h := xy_norm n
  simp only [xy]
  generalize (xy n).1 = x at h ⊢
  generalize (xy n).2 = y at h ⊢
  have : 2 * x * (2 * x) = 4 * (x * x) := by simp only [Nat.mul_comm, Nat.mul_left_comm, Nat.mul_assoc]
  omega
theorem ll_eq {M : Nat} (hM : 2 < M) : ∀ n i s, s = (2 * (xy i).1) % M → llGo M n s = (2 * (xy (i + n)).1) % M
  | 0, i, s, h => h
  | n + 1, i, s, h => by
    simp only [llGo]
    rw [ll_eq hM n (i + 1) _ ?_]
    · congr 3; congr 1; omega
    · subst h
      have h1 := s_step i
      have h2 : (2 * (xy i).1 % M * (2 * (xy i).1 % M) + (M - 2)) % M = ((2 * (xy i).1) * (2 * (xy i).1) + (M - 2)) % M := by
        rw [Nat.add_mod, ← Nat.mul_mod, ← Nat.add_mod]
      rw [h2, ← h1]
      have : 2 * (xy (i + 1)).1 + 2 + (M - 2) = 2 * (xy (i + 1)).1 + M := by omega
      rw [this, Nat.add_mod_right]

/-! ### Pairs by q -/
def mq (q : Nat) (a b : Nat × Nat) : Nat × Nat := ((a.1 * b.1 + 3 * (a.2 * b.2)) % q, (a.1 * b.2 + a.2 * b.1) % q)
theorem mq_comm (q : Nat) (a b : Nat × Nat) : mq q a b = mq q b a := by
  simp only [mq]
  rw [Nat.mul_comm a.1 b.1, Nat.mul_comm a.2 b.2, Nat.add_comm (a.1 * b.2), Nat.mul_comm a.1 b.2, Nat.mul_comm a.2 b.1]
theorem mq_assoc (q : Nat) (a b c : Nat × Nat) : mq q (mq q a b) c = mq q a (mq q b c) := by
  simp only [mq]
  congr 1
  · have e : ∀ x y z : Nat, (x % q * y + 3 * (z % q * c.2)) % q = (x * y + 3 * (z * c.2)) % q := by
      intro x y z
      have h1 : (x % q * y) % q = (x * y) % q := by rw [Nat.mod_mul_mod]
      have h2 : (3 * (z % q * c.2)) % q = (3 * (z * c.2)) % q := by rw [Nat.mul_left_comm, Nat.mod_mul_mod, Nat.mul_left_comm]
      rw [Nat.add_mod, h1, h2, ← Nat.add_mod]
    have e' : ∀ x y z w : Nat, (w * (x % q) + 3 * (y * (z % q))) % q = (w * x + 3 * (y * z)) % q := by
      intro x y z w
      have h1 : (w * (x % q)) % q = (w * x) % q := by rw [Nat.mul_mod_mod]
      have h2 : (3 * (y * (z % q))) % q = (3 * (y * z)) % q := by rw [← Nat.mul_assoc, Nat.mul_mod_mod, Nat.mul_assoc]
      rw [Nat.add_mod, h1, h2, ← Nat.add_mod]
    rw [e, e']
    congr 1
    simp only [Nat.add_mul, Nat.mul_add, Nat.mul_comm, Nat.mul_left_comm, Nat.mul_assoc]
    omega
  · have e : ∀ x y z w : Nat, (x % q * y + z % q * w) % q = (x * y + z * w) % q := by
      intro x y z w
      rw [Nat.add_mod, Nat.mod_mul_mod, Nat.mod_mul_mod, ← Nat.add_mod]
    have e' : ∀ x y z w : Nat, (y * (x % q) + w * (z % q)) % q = (y * x + w * z) % q := by
      intro x y z w
      rw [Nat.add_mod, Nat.mul_mod_mod, Nat.mul_mod_mod, ← Nat.add_mod]
    rw [e, e']
    congr 1
    simp only [Nat.add_mul, Nat.mul_add, Nat.mul_comm, Nat.mul_left_comm, Nat.mul_assoc]
    omega
def pq (q : Nat) (a : Nat × Nat) : Nat → Nat × Nat
  | 0 => (1 % q, 0)
  | n + 1 => mq q (pq q a n) a
theorem mq_one {q : Nat} {a : Nat × Nat} (h1 : a.1 < q) (h2 : a.2 < q) : mq q (1 % q, 0) a = a := by
  simp only [mq, Nat.zero_mul, Nat.mul_zero, Nat.add_zero]
  rw [Nat.mod_mul_mod, Nat.mod_mul_mod, Nat.one_mul, Nat.one_mul, Nat.mod_eq_of_lt h1, Nat.mod_eq_of_lt h2]
theorem pq_lt {q : Nat} (hq : 0 < q) (a : Nat × Nat) : ∀ n, (pq q a n).1 < q ∧ (pq q a n).2 < q
  | 0 => ⟨Nat.mod_lt _ hq, hq⟩
  | n + 1 => ⟨Nat.mod_lt _ hq, Nat.mod_lt _ hq⟩
theorem pq_add {q : Nat} (hq : 0 < q) (a : Nat × Nat) (m : Nat) : ∀ n, pq q a (m + n) = mq q (pq q a m) (pq q a n)
  | 0 => by
    simp only [Nat.add_zero, pq]
    rw [mq_comm, mq_one (pq_lt hq a m).1 (pq_lt hq a m).2]
  | n + 1 => by
    rw [← Nat.add_assoc]
    simp only [pq]
    rw [pq_add hq a m n, mq_assoc]
theorem pq_two {q : Nat} (hq : 0 < q) : ∀ n, pq q (2, 1) (2 ^ n) = ((xy n).1 % q, (xy n).2 % q)
  | 0 => by
    simp only [Nat.pow_zero, pq, mq, xy, Nat.zero_mul, Nat.mul_zero, Nat.add_zero, Nat.mul_one]
    rw [Nat.mod_mul_mod, Nat.one_mul, Nat.mod_mod]
  | n + 1 => by
    rw [Nat.pow_succ, Nat.mul_two, pq_add hq, pq_two hq n]
    simp only [mq, xy]
    congr 1
    · rw [Nat.add_mod, ← Nat.mul_mod, Nat.mul_mod 3, ← Nat.mul_mod (xy n).2, ← Nat.mul_mod 3, ← Nat.add_mod]
    · rw [Nat.add_mod, ← Nat.mul_mod, ← Nat.mul_mod, ← Nat.add_mod, Nat.mul_comm (xy n).2]
      congr 1
      omega
end Go.Mx
namespace Go.Mx

theorem pq_mul {q : Nat} (hq : 0 < q) {a : Nat × Nat} {m : Nat} (h : pq q a m = (1 % q, 0)) : ∀ k, pq q a (m * k) = (1 % q, 0)
  | 0 => rfl
  | k + 1 => by
    rw [Nat.mul_succ, pq_add hq, pq_mul hq h k, h, mq_one (Nat.mod_lt _ hq) hq]
theorem odd_part : ∀ t : Nat, 0 < t → ∃ k u, t = 2 ^ k * (2 * u + 1) := by
  intro t
  induction t using Nat.strongRecOn with
  | ind t ih =>
    intro ht
    rcases Nat.mod_two_eq_zero_or_one t with h | h
    · obtain ⟨k, u, hk⟩ := ih (t / 2) (by omega) (by omega)
      refine ⟨k + 1, u, ?_⟩
      rw [Nat.pow_succ, Nat.mul_right_comm, ← hk]
      omega
    · exact ⟨0, t / 2, by rw [Nat.pow_zero]; omega⟩
theorem lucas {n M : Nat} (hn : 3 ≤ n) (hM : M + 1 = 2 ^ n) (h : llGo M (n - 2) 4 = 0) : IsPrime M := by
  obtain ⟨c, rfl⟩ : ∃ c, n = c + 3 := ⟨n - 3, by omega⟩
  have hpow : 2 ^ (c + 3) = 8 * 2 ^ c := by rw [Nat.pow_succ, Nat.pow_succ, Nat.pow_succ]; omega
  have hc1 : 1 ≤ 2 ^ c := Nat.one_le_two_pow
  have hM7 : 7 ≤ M := by omega
  refine ⟨by omega, fun m hm => ?_⟩
  apply Classical.byContradiction
  intro hne
  have hne1 : m ≠ 1 := fun e => hne (.inl e)
  have hne2 : m ≠ M := fun e => hne (.inr e)
  -- a small factor
  obtain ⟨q, hq2, hqM, hqd⟩ : ∃ q, 2 ≤ q ∧ q * q ≤ M ∧ q ∣ M := by
    obtain ⟨k, hk⟩ := hm
    have hm0 : m ≠ 0 := fun e => by subst e; simp at hk; omega
    have hk0 : k ≠ 0 := fun e => by subst e; simp at hk; omega
    have hk1 : k ≠ 1 := fun e => by subst e; simp at hk; omega
    rcases Nat.le_total m k with hmk | hmk
    · exact ⟨m, by omega, by rw [hk]; exact Nat.mul_le_mul_left m hmk, ⟨k, hk⟩⟩
    · exact ⟨k, by omega, by rw [hk]; exact Nat.mul_le_mul_right k hmk, ⟨m, by rw [hk, Nat.mul_comm]⟩⟩
  have hq0 : 0 < q := by omega
  have hodd : q % 2 = 1 := by
    rcases Nat.mod_two_eq_zero_or_one q with h2 | h2
    · obtain ⟨k, hk⟩ := hqd
      have : M % 2 = 0 := by rw [hk, Nat.mul_mod, h2]; simp
      omega
    · exact h2
  have hq3 : 3 ≤ q := by omega
  have hcop : Nat.Coprime q 2 := by
    have h1 : Nat.gcd q 2 ∣ 2 := Nat.gcd_dvd_right q 2
    have h2 : Nat.gcd q 2 ∣ q := Nat.gcd_dvd_left q 2
    have h3 := Nat.le_of_dvd (by omega) h1
    have h4 : Nat.gcd q 2 ≠ 2 := fun e => by
      rw [e] at h2
      have := Nat.mod_eq_zero_of_dvd h2
      omega
    have h5 : 0 < Nat.gcd q 2 := Nat.gcd_pos_of_pos_right q (by omega)
    show Nat.gcd q 2 = 1
    omega
  -- the row of s
  have e0 := ll_eq (by omega : 2 < M) (c + 1) 0 4 (by rw [show (2 * (xy 0).1) = 4 from rfl, Nat.mod_eq_of_lt (by omega)])
  rw [show c + 3 - 2 = c + 1 by omega] at h
  rw [h, Nat.zero_add] at e0
  have hd1 : q ∣ 2 * (xy (c + 1)).1 := Nat.dvd_trans hqd (Nat.dvd_of_mod_eq_zero e0.symm)
  have hs := s_step (c + 1)
  have hx : q ∣ (xy (c + 2)).1 + 1 := by
    have : q ∣ 2 * ((xy (c + 2)).1 + 1) := by
      rw [Nat.mul_add, Nat.mul_one, hs]
      exact Nat.dvd_trans hd1 (Nat.dvd_mul_right _ _)
    exact Nat.Coprime.dvd_of_dvd_mul_left hcop this
  have hx' : (xy (c + 2)).1 % q = q - 1 := by
    obtain ⟨k, hk⟩ := hx
    have hk0 : k ≠ 0 := fun e => by subst e; simp at hk
    obtain ⟨k, rfl⟩ : ∃ r, k = r + 1 := ⟨k - 1, by omega⟩
    have : (xy (c + 2)).1 = (q - 1) + q * k := by rw [Nat.mul_succ] at hk; omega
    rw [this, Nat.add_mul_mod_self_left, Nat.mod_eq_of_lt (by omega)]
  have hy : (xy (c + 2)).2 % q = 0 := by
    apply Nat.mod_eq_zero_of_dvd
    show q ∣ 2 * ((xy (c + 1)).1 * (xy (c + 1)).2)
    rw [← Nat.mul_assoc]
    exact Nat.dvd_trans hd1 (Nat.dvd_mul_right _ _)
  have hm1 : pq q (2, 1) (2 ^ (c + 2)) = (q - 1, 0) := by rw [pq_two hq0, hx', hy]
  have h1q : 1 % q = 1 := Nat.mod_eq_of_lt (by omega)
  have hone : pq q (2, 1) (2 ^ (c + 3)) = (1 % q, 0) := by
    rw [Nat.pow_succ, Nat.mul_two, pq_add hq0, hm1]
    simp only [mq, Nat.mul_zero, Nat.zero_mul, Nat.add_zero, Nat.zero_mod]
    congr 1
    obtain ⟨r, rfl⟩ : ∃ r, q = r + 1 := ⟨q - 1, by omega⟩
    rw [Nat.add_sub_cancel]
    have : r * r = 1 + (r + 1) * (r - 1) := by
      obtain ⟨s, rfl⟩ : ∃ s, r = s + 1 := ⟨r - 1, by omega⟩
      rw [Nat.add_sub_cancel]
      simp only [Nat.add_mul, Nat.mul_add]
      omega
    rw [this, Nat.add_mul_mod_self_left]
  have hnot : ∀ t, 0 < t → t < 2 ^ (c + 3) → pq q (2, 1) t ≠ (1 % q, 0) := by
    intro t ht hlt he
    obtain ⟨k, u, hk⟩ := odd_part t ht
    have hkn : k ≤ c + 2 := by
      apply Classical.byContradiction
      intro hgt
      have h1 : 2 ^ (c + 3) ≤ 2 ^ k := Nat.pow_le_pow_right (by omega) (by omega)
      have h2 : 2 ^ k ≤ t := by rw [hk]; exact Nat.le_mul_of_pos_right _ (by omega)
      omega
    have e1 := pq_mul hq0 he (2 ^ (c + 2 - k))
    have e2 : t * 2 ^ (c + 2 - k) = 2 ^ (c + 3) * u + 2 ^ (c + 2) := by
      have : 2 ^ (c + 2) = 2 ^ k * 2 ^ (c + 2 - k) := by rw [← Nat.pow_add]; congr 1; omega
      rw [hk, Nat.mul_right_comm, ← this, Nat.pow_succ 2 (c + 2), Nat.mul_add, Nat.mul_one, Nat.mul_assoc (2 ^ (c + 2)) 2 u]
    rw [e2, pq_add hq0, pq_mul hq0 hone u, hm1, mq_one (by show q - 1 < q; omega) hq0, h1q] at e1
    have := congrArg Prod.fst e1
    simp only at this
    omega
  -- so many powers
  have hinj : ∀ i, i < 2 ^ (c + 3) → ∀ j, j < 2 ^ (c + 3) → i < j → pq q (2, 1) i = pq q (2, 1) j → False := by
    intro i hi j hj hij he
    refine hnot (j - i) (by omega) (by omega) ?_
    have e1 : pq q (2, 1) (i + (2 ^ (c + 3) - i)) = (1 % q, 0) := by rw [show i + (2 ^ (c + 3) - i) = 2 ^ (c + 3) by omega]; exact hone
    have e2 : pq q (2, 1) (j + (2 ^ (c + 3) - i)) = pq q (2, 1) (j - i) := by
      rw [show j + (2 ^ (c + 3) - i) = 2 ^ (c + 3) + (j - i) by omega, pq_add hq0, hone, mq_one (pq_lt hq0 _ _).1 (pq_lt hq0 _ _).2]
    rw [pq_add hq0, he, ← pq_add hq0, e2] at e1
    exact e1
  have hnd : ((List.range (2 ^ (c + 3))).map fun i => (pq q (2, 1) i).1 * q + (pq q (2, 1) i).2).Nodup := by
    refine nodup_map (fun i hi j hj he => ?_) List.nodup_range
    rw [List.mem_range] at hi hj
    have l1 := pq_lt hq0 (2, 1) i
    have l2 := pq_lt hq0 (2, 1) j
    have heq : pq q (2, 1) i = pq q (2, 1) j := by
      have f1 : ((pq q (2, 1) i).1 * q + (pq q (2, 1) i).2) % q = (pq q (2, 1) i).2 := by rw [Nat.mul_add_mod_self_right, Nat.mod_eq_of_lt l1.2]
      have f2 : ((pq q (2, 1) j).1 * q + (pq q (2, 1) j).2) % q = (pq q (2, 1) j).2 := by rw [Nat.mul_add_mod_self_right, Nat.mod_eq_of_lt l2.2]
      have f3 : (pq q (2, 1) i).2 = (pq q (2, 1) j).2 := by rw [← f1, ← f2, he]
      rw [f3] at he
      have f4 := Nat.eq_of_mul_eq_mul_right hq0 (Nat.add_right_cancel he)
      exact Prod.ext f4 f3
    rcases Nat.lt_trichotomy i j with hlt | hlt | hlt
    · exact (hinj i hi j hj hlt heq).elim
    · exact hlt
    · exact (hinj j hj i hi hlt heq.symm).elim
  have hsub : ((List.range (2 ^ (c + 3))).map fun i => (pq q (2, 1) i).1 * q + (pq q (2, 1) i).2) ⊆ List.range (q * q) := by
    intro z hz
    obtain ⟨i, _, rfl⟩ := List.mem_map.1 hz
    have l1 := pq_lt hq0 (2, 1) i
    rw [List.mem_range]
    have : ((pq q (2, 1) i).1 + 1) * q ≤ q * q := Nat.mul_le_mul_right q l1.1
    rw [Nat.add_mul, Nat.one_mul] at this
    omega
  have := List.Nodup.length_le_of_subset hnd hsub
  rw [List.length_map, List.length_range, List.length_range] at this
  omega
theorem p521 : IsPrime (2 ^ 521 - 1) := lucas (n := 521) (by omega) (by decide +kernel) (by kernel_rfl)
theorem p607 : IsPrime (2 ^ 607 - 1) := lucas (n := 607) (by omega) (by decide +kernel) (by kernel_rfl)
end Go.Mx
namespace Go.Mx

/-- A limb's base. -/
def LB : Nat := 4294967296
/-- The number of a row of limbs, the lowest first. -/
def val : List Nat → Nat
  | [] => 0
  | x :: xs => x + LB * val xs
def Limbs (l : List Nat) : Prop := ∀ x ∈ l, x < LB
theorem val_append : ∀ (l m : List Nat), val (l ++ m) = val l + LB ^ l.length * val m
  | [], m => by simp [val]
  | x :: l, m => by
    simp only [List.cons_append, val, val_append l m, List.length_cons, Nat.pow_succ, Nat.mul_add]
    have : LB * (LB ^ l.length * val m) = LB ^ l.length * LB * val m := by simp only [Nat.mul_comm, Nat.mul_left_comm, Nat.mul_assoc]
    omega
theorem val_lt : ∀ {l : List Nat}, Limbs l → val l < LB ^ l.length
  | [], _ => by simp [val]
  | x :: l, h => by
    have h1 : x < LB := h x (by simp)
    have h2 := val_lt (l := l) fun y hy => h y (by simp [hy])
    simp only [val, List.length_cons, Nat.pow_succ]
    have : LB * (val l + 1) ≤ LB * LB ^ l.length := Nat.mul_le_mul_left LB h2
    rw [Nat.mul_add, Nat.mul_one] at this
    have e : LB ^ l.length * LB = LB * LB ^ l.length := Nat.mul_comm _ _
    omega
/-- One limb is written anew. -/
theorem val_set : ∀ (l : List Nat) (j z : Nat), j < l.length → val (l.set j z) + l.getD j 0 * LB ^ j = val l + z * LB ^ j
  | [], j, z, h => by simp at h
  | x :: l, 0, z, _ => by
    have : (x :: l).getD 0 0 = x := rfl
    rw [this]
    simp only [List.set, val, Nat.pow_zero, Nat.mul_one]
    omega
  | x :: l, j + 1, z, h => by
    have ih := val_set l j z (by simpa using h)
    have : (x :: l).getD (j + 1) 0 = l.getD j 0 := rfl
    rw [this]
    simp only [List.set, val, Nat.pow_succ]
    have e1 : l.getD j 0 * (LB ^ j * LB) = LB * (l.getD j 0 * LB ^ j) := by simp only [Nat.mul_comm, Nat.mul_left_comm, Nat.mul_assoc]
    have e2 : z * (LB ^ j * LB) = LB * (z * LB ^ j) := by simp only [Nat.mul_comm, Nat.mul_left_comm, Nat.mul_assoc]
    have e3 := congrArg (LB * ·) ih
    simp only [Nat.mul_add] at e3
    omega
theorem val_take_succ (l : List Nat) (k : Nat) (h : k < l.length) : val (l.take (k + 1)) = val (l.take k) + l.getD k 0 * LB ^ k := by
  rw [List.take_succ_eq_append_getElem h, val_append, List.length_take, Nat.min_eq_left (by omega)]
  rw [List.getD_eq_getElem?_getD, List.getElem?_eq_getElem h]
  simp only [val, Nat.mul_zero, Nat.add_zero, Option.getD_some, Nat.mul_comm]
theorem limbs_set {l : List Nat} (h : Limbs l) {j z : Nat} (hz : z < LB) : Limbs (l.set j z) := fun x hx => by
  rcases List.mem_or_eq_of_mem_set hx with h1 | h1
  · exact h x h1
  · exact h1 ▸ hz
theorem limbs_getD {l : List Nat} (h : Limbs l) (j : Nat) : l.getD j 0 < LB := by
  rw [List.getD_eq_getElem?_getD]
  cases hj : l[j]? with
  | none => exact (by decide : 0 < LB)
  | some x => exact h x (List.mem_of_getElem? hj)
/-- The row of a number, without noughts at its end. -/
def toL (n : Nat) : List Nat := if h : n = 0 then [] else (n % LB) :: toL (n / LB)
  termination_by n
  decreasing_by exact Nat.div_lt_self (Nat.pos_of_ne_zero h) (by decide)
theorem val_toL (n : Nat) : val (toL n) = n := by
  induction n using Nat.strongRecOn with
  | ind n ih =>
    unfold toL
    split
    · rename_i h; rw [h]; rfl
    · rename_i h
      simp only [val]
      rw [ih (n / LB) (Nat.div_lt_self (Nat.pos_of_ne_zero h) (by decide))]
      have := Nat.div_add_mod n LB
      omega
theorem limbs_toL (n : Nat) : Limbs (toL n) := by
  induction n using Nat.strongRecOn with
  | ind n ih =>
    unfold toL
    split
    · intro x hx; simp at hx
    · rename_i h
      intro x hx
      rcases List.mem_cons.1 hx with rfl | hx
      · exact Nat.mod_lt _ (by decide)
      · exact ih (n / LB) (Nat.div_lt_self (Nat.pos_of_ne_zero h) (by decide)) x hx
/-- A row without noughts at its end is its number's. -/
theorem toL_val : ∀ {l : List Nat}, Limbs l → (∀ h : l ≠ [], l.getLast h ≠ 0) → toL (val l) = l
  | [], _, _ => by unfold toL; simp [val]
  | x :: l, h, hl => by
    have h1 : x < LB := h x (by simp)
    have h2 : Limbs l := fun y hy => h y (by simp [hy])
    have ih := toL_val h2 (fun hne => by
      have := hl (by simp)
      rwa [List.getLast_cons hne] at this)
    have hne : x + LB * val l ≠ 0 := by
      intro h0
      have hx : x = 0 := by omega
      cases l with
      | nil => exact hl (by simp) (by simpa using hx)
      | cons y m =>
        have hv : val (y :: m) = 0 := by
          rcases Nat.eq_zero_or_pos (val (y :: m)) with h' | h'
          · exact h'
          · have : LB * 1 ≤ LB * val (y :: m) := Nat.mul_le_mul_left LB h'
            have : 0 < LB := by decide
            omega
        rw [hv] at ih
        unfold toL at ih
        simp at ih
    simp only [val]
    rw [toL, dif_neg hne, Nat.add_mul_mod_self_left, Nat.mod_eq_of_lt h1, Nat.add_mul_div_left _ _ (by decide : 0 < LB), Nat.div_eq_of_lt h1, Nat.zero_add, ih]
end Go.Mx
