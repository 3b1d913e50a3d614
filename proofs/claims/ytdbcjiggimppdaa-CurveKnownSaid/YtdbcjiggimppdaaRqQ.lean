/- Primes: Euclid, Fermat, Pocklington. Plain numbers; no program. -/
import Derived.Test.YtdbcjiggimppdaaRqA
namespace Go.Rq

def Pr (n : Nat) : Prop := 2 ≤ n ∧ ∀ d, d ∣ n → d = 1 ∨ d = n

theorem Pr.pos {p : Nat} (h : Pr p) : 0 < p := by have := h.1; omega

theorem exists_prime_dvd : ∀ (n : Nat), 2 ≤ n → ∃ q, Pr q ∧ q ∣ n := by
  intro n
  induction n using Nat.strongRecOn with
  | _ n ih =>
    intro hn
    by_cases h : Pr n
    · exact ⟨n, h, Nat.dvd_refl n⟩
    · have : ∃ d, d ∣ n ∧ d ≠ 1 ∧ d ≠ n := by
        apply Classical.byContradiction
        intro hne
        apply h
        refine ⟨hn, fun d hd => ?_⟩
        apply Classical.byContradiction
        intro hh
        exact hne ⟨d, hd, fun e => hh (.inl e), fun e => hh (.inr e)⟩
      obtain ⟨d, hd, h1, h2⟩ := this
      have hle := Nat.le_of_dvd (by omega) hd
      have h0 : d ≠ 0 := by rintro rfl; have := Nat.eq_zero_of_zero_dvd hd; omega
      obtain ⟨q, hq, hqd⟩ := ih d (by omega) (by omega)
      exact ⟨q, hq, Nat.dvd_trans hqd hd⟩

theorem Pr.coprime {p a : Nat} (h : Pr p) (ha : ¬ p ∣ a) : Nat.Coprime p a := by
  rcases h.2 (Nat.gcd p a) (Nat.gcd_dvd_left p a) with e | e
  · exact e
  · exact absurd (e ▸ Nat.gcd_dvd_right p a) ha

theorem Pr.dvd_mul {p a b : Nat} (h : Pr p) (hd : p ∣ a * b) : p ∣ a ∨ p ∣ b := by
  by_cases ha : p ∣ a
  · exact .inl ha
  · exact .inr ((h.coprime ha).dvd_of_dvd_mul_left hd)

theorem Pr.dvd_pow {p a : Nat} (h : Pr p) : ∀ {n : Nat}, p ∣ a ^ n → p ∣ a
  | 0, hd => by simp at hd; have := h.1; omega
  | n + 1, hd => by
    rw [Nat.pow_succ] at hd
    rcases h.dvd_mul hd with h1 | h1
    · exact h.dvd_pow h1
    · exact h1

theorem perm_of_sub {α : Type} [BEq α] [LawfulBEq α] : ∀ {l m : List α}, l.Nodup → (∀ x ∈ l, x ∈ m) → m.length = l.length → m.Perm l
  | [], m, _, _, hl => by
    have : m = [] := List.length_eq_zero_iff.1 hl
    subst this; exact List.Perm.refl _
  | x :: t, m, hn, hs, hl => by
    have hx : x ∈ m := hs x (by simp)
    have hp := List.perm_cons_erase hx
    have hnt := List.nodup_cons.1 hn
    refine hp.trans (List.Perm.cons x (perm_of_sub hnt.2 (fun y hy => ?_) ?_))
    · have hne : y ≠ x := fun e => hnt.1 (e ▸ hy)
      exact (List.mem_erase_of_ne hne).2 (hs y (by simp [hy]))
    · rw [List.length_erase_of_mem hx, hl]; simp

def prodL : List Nat → Nat
  | [] => 1
  | x :: t => x * prodL t

theorem prodL_perm {l m : List Nat} (h : l.Perm m) : prodL l = prodL m := by
  induction h with
  | nil => rfl
  | cons x _ ih => simp [prodL, ih]
  | swap x y l => simp [prodL, Nat.mul_left_comm]
  | trans _ _ h1 h2 => rw [h1, h2]

theorem prodL_mul (a p : Nat) : ∀ l : List Nat, prodL (l.map fun i => a * i % p) % p = a ^ l.length * prodL l % p
  | [] => by simp [prodL]
  | x :: t => by
    simp only [List.map_cons, prodL, List.length_cons]
    rw [Nat.mul_mod, prodL_mul a p t, Nat.mod_mod, ← Nat.mul_mod, Nat.pow_succ]
    congr 1
    simp only [Nat.mul_comm, Nat.mul_left_comm, Nat.mul_assoc]

theorem Pr.not_dvd_prodL {p : Nat} (h : Pr p) : ∀ {l : List Nat}, (∀ x ∈ l, ¬ p ∣ x) → ¬ p ∣ prodL l
  | [], _ => by simp [prodL]; have := h.1; omega
  | x :: t, hx => by
    simp only [prodL]
    intro hd
    rcases h.dvd_mul hd with h1 | h1
    · exact hx x (by simp) h1
    · exact h.not_dvd_prodL (fun y hy => hx y (by simp [hy])) h1

theorem mod_iff {p a b : Nat} (hab : a ≤ b) : a % p = b % p ↔ p ∣ b - a := by
  constructor
  · intro h
    exact Nat.dvd_of_mod_eq_zero (Nat.sub_mod_eq_zero_of_mod_eq h.symm)
  · rintro ⟨k, hk⟩
    have : b = a + p * k := by omega
    rw [this, Nat.add_mul_mod_self_left]

/-- What may be divided out. -/
theorem Pr.cancel {p a b c : Nat} (h : Pr p) (hc : ¬ p ∣ c) (he : a * c % p = b * c % p) : a % p = b % p := by
  rcases Nat.le_total a b with hab | hab
  · have : p ∣ (b - a) * c := by
      rw [Nat.sub_mul]
      exact (mod_iff (Nat.mul_le_mul_right c hab)).1 he
    rcases h.dvd_mul this with h1 | h1
    · exact ((mod_iff hab).2 h1)
    · exact absurd h1 hc
  · have : p ∣ (a - b) * c := by
      rw [Nat.sub_mul]
      exact (mod_iff (Nat.mul_le_mul_right c hab)).1 he.symm
    rcases h.dvd_mul this with h1 | h1
    · exact ((mod_iff hab).2 h1).symm
    · exact absurd h1 hc

theorem fermat {p a : Nat} (h : Pr p) (ha : ¬ p ∣ a) : a ^ (p - 1) % p = 1 := by
  have hp := h.1
  have hmem : ∀ x ∈ List.range' 1 (p - 1), 1 ≤ x ∧ x < p := by
    intro x hx
    rw [List.mem_range'_1] at hx
    omega
  have hnd : ∀ x ∈ List.range' 1 (p - 1), ¬ p ∣ x := by
    intro x hx hd
    have := hmem x hx
    have := Nat.le_of_dvd (by omega) hd
    omega
  have hinj : ∀ x y, x < p → y < p → a * x % p = a * y % p → x = y := by
    intro x y hx hy he
    have := h.cancel (c := a) (a := x) (b := y) ha (by rw [Nat.mul_comm x, Nat.mul_comm y]; exact he)
    rwa [Nat.mod_eq_of_lt hx, Nat.mod_eq_of_lt hy] at this
  have hperm : (List.range' 1 (p - 1)).Perm ((List.range' 1 (p - 1)).map fun i => a * i % p) := by
    refine perm_of_sub ?_ ?_ (by simp)
    · have hn : (List.range' 1 (p - 1)).Nodup := List.nodup_range'
      rw [List.Nodup, List.pairwise_map]
      refine List.Pairwise.imp_of_mem (R := (· ≠ ·)) (fun {x y} hx hy hne he => ?_) hn
      exact hne (hinj x y (hmem x hx).2 (hmem y hy).2 he)
    · intro y hy
      rw [List.mem_map] at hy
      obtain ⟨x, hx, rfl⟩ := hy
      rw [List.mem_range'_1]
      have hlt : a * x % p < p := Nat.mod_lt _ (by omega)
      have : a * x % p ≠ 0 := by
        intro h0
        rcases h.dvd_mul (Nat.dvd_of_mod_eq_zero h0) with h1 | h1
        · exact ha h1
        · exact hnd x hx h1
      omega
  have h1 := prodL_mul a p (List.range' 1 (p - 1))
  rw [← prodL_perm hperm] at h1
  rw [List.length_range'] at h1
  have h2 := h.cancel (a := 1) (b := a ^ (p - 1)) (h.not_dvd_prodL hnd) (by rw [Nat.one_mul]; exact h1)
  rw [← h2, Nat.mod_eq_of_lt (by omega)]

theorem pow_mod_mul (b n m p : Nat) (h : b ^ n % p = 1 % p) : b ^ (n * m) % p = 1 % p := by
  rw [Nat.pow_mul, Nat.pow_mod, h, ← Nat.pow_mod, Nat.one_pow]

/-- An element whose power by q^(e+1) is 1 and by q^e is not: q^(e+1) divides each n of which its power is 1. -/
theorem order_prime_pow {p q b e : Nat} (hq : Pr q) (h0 : b ^ q ^ (e + 1) % p = 1 % p) (h1 : b ^ q ^ e % p ≠ 1 % p) {n : Nat} (hn : b ^ n % p = 1 % p) : q ^ (e + 1) ∣ n := by
  -- the gcd of n and q^(e+1) serves too
  have hb : ∃ c, (b * c) % p = 1 % p := by
    refine ⟨b ^ (q ^ (e + 1) - 1), ?_⟩
    have hpos : 0 < q ^ (e + 1) := Nat.pow_pos hq.pos
    rw [Nat.mul_comm, ← Nat.pow_succ, show (q ^ (e + 1) - 1).succ = q ^ (e + 1) by omega]
    exact h0
  obtain ⟨c, hc⟩ := hb
  have hbc : ∀ k, (b ^ k * c ^ k) % p = 1 % p := by
    intro k
    rw [← Nat.mul_pow, Nat.pow_mod, hc, ← Nat.pow_mod, Nat.one_pow]
  have hsub : ∀ x y, b ^ (x + y) % p = 1 % p → b ^ y % p = 1 % p → b ^ x % p = 1 % p := by
    intro x y hx hy
    rw [Nat.pow_add, Nat.mul_mod, hy, ← Nat.mul_mod, Nat.mul_one] at hx
    exact hx
  have hgcd : ∀ (x y : Nat), b ^ x % p = 1 % p → b ^ y % p = 1 % p → b ^ Nat.gcd x y % p = 1 % p := by
    intro x y
    induction x, y using Nat.gcd.induction with
    | H0 y => intro _ hy; simpa using hy
    | H1 x y hx ih =>
      intro h2 h3
      rw [Nat.gcd_rec]
      refine ih ?_ h2
      have := Nat.div_add_mod y x
      refine hsub (y % x) (x * (y / x)) ?_ (pow_mod_mul b x (y / x) p h2)
      rw [Nat.add_comm, this]; exact h3
  have hg := hgcd n (q ^ (e + 1)) hn h0
  have hd := Nat.gcd_dvd_right n (q ^ (e + 1))
  -- divisors of a prime's power
  have hdiv : ∀ (k d : Nat), d ∣ q ^ (k + 1) → d = q ^ (k + 1) ∨ d ∣ q ^ k := by
    intro k d hdk
    by_cases hqd : Nat.Coprime d q
    · right
      have : Nat.Coprime d (q ^ (k + 1)) := Nat.Coprime.pow_right _ hqd
      have : d = 1 := Nat.Coprime.eq_one_of_dvd this hdk
      rw [this]; exact Nat.one_dvd _
    · obtain ⟨m, hm⟩ := hdk
      by_cases hqm : q ∣ m
      · right
        obtain ⟨m', rfl⟩ := hqm
        refine ⟨m', ?_⟩
        rw [Nat.pow_succ] at hm
        have : q ^ k * q = (d * m') * q := by rw [hm]; simp only [Nat.mul_comm, Nat.mul_left_comm]
        exact Nat.eq_of_mul_eq_mul_right hq.pos this
      · left
        have hcop : Nat.Coprime m (q ^ (k + 1)) := Nat.Coprime.pow_right _ (hq.coprime hqm).symm
        have : m ∣ q ^ (k + 1) := ⟨d, by rw [hm, Nat.mul_comm]⟩
        have : m = 1 := Nat.Coprime.eq_one_of_dvd hcop this
        rw [hm, this, Nat.mul_one]
  rcases hdiv e _ hd with h2 | h2
  · rw [← h2]; exact Nat.gcd_dvd_left _ _
  · exfalso
    obtain ⟨m, hm⟩ := h2
    apply h1
    rw [hm]
    exact pow_mod_mul b _ m p hg

/-- One prime's power of n - 1 divides l - 1, for each prime l that divides n. -/
theorem pock_step {n l q a e : Nat} (hl : Pr l) (hln : l ∣ n) (hq : Pr q) (hd : q ^ (e + 1) ∣ n - 1) (h1 : a ^ (n - 1) % n = 1) (hg : Nat.gcd ((a ^ ((n - 1) / q) % n) + (n - 1)) n = 1) (hn : 2 ≤ n) : q ^ (e + 1) ∣ l - 1 := by
  obtain ⟨R, hR⟩ := hd
  have hl1 : 1 % l = 1 := Nat.mod_eq_of_lt (by have := hl.1; omega)
  have red : ∀ x, x % n % l = x % l := fun x => Nat.mod_mod_of_dvd x hln
  have ha : a ^ (n - 1) % l = 1 % l := by rw [← red, h1]
  have hla : ¬ l ∣ a := by
    intro hd
    have : l ∣ a ^ (n - 1) := by
      obtain ⟨k, hk⟩ : ∃ k, n - 1 = k + 1 := ⟨n - 2, by omega⟩
      rw [hk, Nat.pow_succ]; exact Nat.dvd_mul_left_of_dvd hd _
    rw [Nat.mod_eq_zero_of_dvd this, hl1] at ha
    omega
  have hf := fermat hl hla
  -- b = a^R
  have hb0 : (a ^ R) ^ q ^ (e + 1) % l = 1 % l := by
    rw [← Nat.pow_mul, Nat.mul_comm, ← hR]; exact ha
  have hb1 : (a ^ R) ^ q ^ e % l ≠ 1 % l := by
    intro he
    rw [← Nat.pow_mul] at he
    have e1 : (n - 1) / q = R * q ^ e := by
      rw [hR, Nat.pow_succ]
      rw [show q ^ e * q * R = q * (R * q ^ e) by simp only [Nat.mul_comm, Nat.mul_left_comm]]
      rw [Nat.mul_div_cancel_left _ hq.pos]
    have : l ∣ a ^ ((n - 1) / q) % n + (n - 1) := by
      rw [e1]
      apply Nat.dvd_of_mod_eq_zero
      rw [Nat.add_mod, red, he, ← Nat.add_mod]
      rw [show 1 + (n - 1) = n by omega]
      exact Nat.mod_eq_zero_of_dvd hln
    have := Nat.dvd_gcd this hln
    rw [hg] at this
    have := Nat.le_of_dvd (by omega) this
    have := hl.1
    omega
  have hb2 : (a ^ R) ^ (l - 1) % l = 1 % l := by
    rw [← Nat.pow_mul, Nat.mul_comm, Nat.pow_mul, Nat.pow_mod, hf, Nat.one_pow]
  exact order_prime_pow hq hb0 hb1 hb2

/-- Pocklington: what divides n - 1 and each l - 1 is greater than n's root. -/
theorem pock_end {n F : Nat} (hn : 2 ≤ n) (hF : ∀ l, Pr l → l ∣ n → F ∣ l - 1) (K : Nat) (hk : ∀ k, 1 ≤ k → k ≤ K → ¬ (k * F + 1) ∣ n) (hbig : n < (F * (K + 1) + 1) * (F * (K + 1) + 1)) : Pr n := by
  refine ⟨hn, fun d hd => ?_⟩
  apply Classical.byContradiction
  intro hh
  have hd1 : d ≠ 1 := fun e => hh (.inl e)
  have hdn : d ≠ n := fun e => hh (.inr e)
  obtain ⟨e, he⟩ := hd
  have hd0 : d ≠ 0 := by rintro rfl; simp at he; omega
  have he0 : e ≠ 0 := by rintro rfl; simp at he; omega
  have he1 : e ≠ 1 := by rintro rfl; simp at he; exact hdn he.symm
  -- each divisor above 1 has a prime that is large
  have big : ∀ x, x ∣ n → 2 ≤ x → F * (K + 1) + 1 ≤ x := by
    intro x hx h2
    obtain ⟨l, hl, hlx⟩ := exists_prime_dvd x h2
    have hln := Nat.dvd_trans hlx hx
    obtain ⟨k, hkF⟩ := hF l hl hln
    have hl2 := hl.1
    have hle := Nat.le_of_dvd (by omega) hlx
    have hlk : l = k * F + 1 := by rw [Nat.mul_comm]; omega
    have hk1 : 1 ≤ k := by
      rcases Nat.eq_zero_or_pos k with h0 | h0
      · subst h0; simp at hkF; omega
      · exact h0
    have : K < k := by
      apply Classical.byContradiction
      intro hnk
      exact hk k hk1 (by omega) (hlk ▸ hln)
    have : F * (K + 1) ≤ F * k := Nat.mul_le_mul_left F this
    have : F * k = k * F := Nat.mul_comm _ _
    omega
  have b1 := big d ⟨e, he⟩ (by omega)
  have b2 := big e ⟨d, by rw [he, Nat.mul_comm]⟩ (by omega)
  have := Nat.mul_le_mul b1 b2
  omega

/-- Small primes, by trying: no number from 2 to k + 1 divides. -/
def noDiv (n : Nat) : Nat → Bool
  | 0 => true
  | k + 1 => bif Nat.beq (n % (k + 2)) 0 then false else noDiv n k

theorem noDiv_sound {n : Nat} : ∀ (k : Nat), noDiv n k = true → ∀ x, 2 ≤ x → x ≤ k + 1 → ¬ x ∣ n
  | 0, _ => by intro x h1 h2; omega
  | k + 1, h => by
    intro x h1 h2 hd
    simp only [noDiv] at h
    cases hb : Nat.beq (n % (k + 2)) 0 with
    | true => rw [hb] at h; cases h
    | false =>
      rw [hb] at h
      by_cases he : x = k + 2
      · subst he
        rw [Nat.mod_eq_zero_of_dvd hd] at hb
        cases hb
      · exact noDiv_sound k h x h1 (by omega) hd

theorem Pr.of_trial {n k : Nat} (hn : 2 ≤ n) (hk : n < (k + 2) * (k + 2)) (h : noDiv n k = true) : Pr n := by
  refine ⟨hn, fun d hd => ?_⟩
  apply Classical.byContradiction
  intro hh
  have hd1 : d ≠ 1 := fun e => hh (.inl e)
  have hdn : d ≠ n := fun e => hh (.inr e)
  obtain ⟨e, he⟩ := hd
  have hd0 : d ≠ 0 := by rintro rfl; simp at he; omega
  have he0 : e ≠ 0 := by rintro rfl; simp at he; omega
  have he1 : e ≠ 1 := by rintro rfl; simp at he; exact hdn he.symm
  have main : ∀ x y, n = x * y → 2 ≤ x → x ≤ y → False := by
    intro x y hxy h2 hle
    refine noDiv_sound k h x h2 ?_ ⟨y, hxy⟩
    apply Classical.byContradiction
    intro hgt
    have h3 : k + 2 ≤ x := by omega
    have := Nat.mul_le_mul h3 (Nat.le_trans h3 hle)
    omega
  rcases Nat.le_total d e with h1 | h1
  · exact main d e he (by omega) h1
  · exact main e d (by rw [he, Nat.mul_comm]) (by omega) h1

end Go.Rq
