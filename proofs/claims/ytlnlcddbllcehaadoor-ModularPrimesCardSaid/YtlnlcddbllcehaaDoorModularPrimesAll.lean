/- The proof of the statement ModularPrimes. Conditions: none. -/
import Derived.Test.YtlnlcddbllcehaaDoorLibG
import Derived.Test.YtlnlcddbllcehaaDoorRows
import Derived.Test.YtlnlcddbllcehaaDoorTie
import Derived.Test.YtlnlcddbllcehaaDoorCards
import Derived.SevenTiedAt
import Derived.WalkKit
import Derived.ProofKit
import Derived.OpenShut
import Derived.ShutString
import Derived.ChangeOld
import Derived.Below

/- What the laws of layer 4 share. Conditions: none. -/
set_option linter.unusedSimpArgs false
set_option linter.unusedVariables false
set_option maxRecDepth 100000
set_option maxHeartbeats 4000000
set_option exponentiation.threshold 30000
namespace Go.Proofs.YtlnlcddbllcehaaDoor
open Go Ie
variable {Ext : FuncId → List Value → Mem → Outc → Mem → Prop}
theorem sameX_C (a1 a2 : Option Addr) (c1 c2 : Nat) (l m : WL) (S : Mem) (h1 : WIn S a1 c1 l) (h2 : WIn S a2 c2 m) (e : l = m) :
    C Tryd.prog gN Ext 23 [.slice a1 l.length c1, .slice a2 m.length c2] S fun v S' => v = .bool true ∧ S' = S := by
  subst e
  refine (sameW_C _ _ l l l.length l.length S h1.1 h2.1 h1.2.2.2 h2.2.2.2).mono fun v S' h => ?_
  rw [beq_self_eq_true (l : WL)] at h
  exact h
/-- lists that may be read -/
def Ws (S : Mem) (L : List WS) : Prop := ∀ w ∈ L, WIn S w.a w.c w.l
theorem Ws.nil (S : Mem) : Ws S [] := fun w hw => by simp at hw
theorem Ws.cons {S S' : Mem} {L : List WS} (h : Ws S L) (k : Cons S S') : Ws S' L := fun w hw => (h w hw).cons k
theorem Ws.add {S : Mem} {L : List WS} {a : Option Addr} {c : Nat} {l : WL} (h : Ws S L) (w : WIn S a c l) : Ws S (L ++ [⟨a, c, l⟩]) := fun x hx => by
  rcases List.mem_append.1 hx with hx | hx
  · exact h x hx
  · obtain rfl : x = ⟨a, c, l⟩ := by simpa using hx
    exact w
theorem Ws.at {S : Mem} {L : List WS} {a : Option Addr} {c : Nat} {l : WL} (h : Ws S L) (i : Nat) (e : L[i]? = some ⟨a, c, l⟩) : WIn S a c l := h _ (List.mem_of_getElem? e)
theorem AnsR.gotN {S S' : Mem} {v : Value} {E : Int} {N X : Nat} (h : AnsR S S' v E N) (hE : E = 0) (hN : N = X) : ∃ d : Hd, v = .tuple #[.slice d.ad (toW X).length d.c, .int .i64 0] ∧ RetW S S' d (toW X) := by
  subst hN
  exact h.got hE
theorem cmp_lt {a b : Nat} (h : a < b) : cmpI (a : Int) (b : Int) = -1 := by unfold cmpI; rw [if_pos (by omega)]
theorem take_lt {l : WL} {k : Nat} : wnum (l.take k) < 2 ^ (64 * k) := num_len (by rw [List.length_take]; omega)
theorem wrE_zero1 {l m : WL} (h2 : wnum l < 2 ^ 8192) (h1 : wnum m < 2 ^ 4096) (h0 : wnum m ≠ 0) : wrE [l] m = 0 := wrE_zero (fun x hx => by
  obtain rfl : x = l := by simpa using hx
  exact h2) h1 h0
end Go.Proofs.YtlnlcddbllcehaaDoor

/- Fermat's little theorem, and a test by which a number is prime. Conditions: none. -/
set_option linter.unusedSimpArgs false
set_option linter.unusedVariables false
set_option maxRecDepth 100000
namespace Go.Proofs.YtlnlcddbllcehaaDoor.Prm
def Prime (p : Nat) : Prop := 1 < p ∧ ∀ d, d ∣ p → d = 1 ∨ d = p
theorem Prime.cop {p a : Nat} (h : Prime p) (ha : ¬ p ∣ a) : Nat.Coprime p a := by
  rcases h.2 _ (Nat.gcd_dvd_left p a) with e | e
  · exact e
  · exact absurd (e ▸ Nat.gcd_dvd_right p a) ha
theorem Prime.mul {p a b : Nat} (h : Prime p) (hd : p ∣ a * b) : p ∣ a ∨ p ∣ b := by
  by_cases ha : p ∣ a
  · exact .inl ha
  · exact .inr ((h.cop ha).dvd_of_dvd_mul_left hd)
/-! ### binomials -/
def ch : Nat → Nat → Nat
  | _, 0 => 1
  | 0, _ + 1 => 0
  | n + 1, k + 1 => ch n k + ch n (k + 1)
theorem ch_zero (n : Nat) : ch n 0 = 1 := by cases n <;> rfl
theorem ch_big : ∀ (n k : Nat), n < k → ch n k = 0
  | 0, k + 1, _ => rfl
  | n + 1, k + 1, h => by rw [ch, ch_big n k (by omega), ch_big n (k + 1) (by omega)]
theorem ch_self : ∀ n : Nat, ch n n = 1
  | 0 => rfl
  | n + 1 => by rw [ch, ch_self n, ch_big n (n + 1) (by omega)]
theorem ch_absorb : ∀ (n k : Nat), (k + 1) * ch (n + 1) (k + 1) = (n + 1) * ch n k
  | 0, 0 => rfl
  | 0, k + 1 => by rw [ch_big 0 (k + 1) (by omega), ch_big (0 + 1) (k + 1 + 1) (by omega), Nat.mul_zero, Nat.mul_zero]
  | n + 1, 0 => by
    have := ch_absorb n 0
    rw [ch_zero] at this ⊢
    rw [show ch (n + 1 + 1) (0 + 1) = ch (n + 1) 0 + ch (n + 1) (0 + 1) from rfl, ch_zero]
    omega
  | n + 1, k + 1 => by
    have h1 := ch_absorb n k
    have h2 := ch_absorb n (k + 1)
    have e1 : ch (n + 2) (k + 2) = ch (n + 1) (k + 1) + ch (n + 1) (k + 2) := rfl
    have e2 : ch (n + 1) (k + 1) = ch n k + ch n (k + 1) := rfl
    rw [e1, Nat.mul_add, h2, show k + 1 + 1 = (k + 1) + 1 from rfl, Nat.add_mul (k + 1) 1, h1, e2, Nat.one_mul, Nat.mul_add (n + 1 + 1), Nat.add_mul (n + 1) 1, Nat.add_mul (n + 1) 1]
    omega
def bs (n a : Nat) : Nat → Nat
  | 0 => 0
  | k + 1 => bs n a k + ch n k * a ^ k
theorem bs_step (n a : Nat) : ∀ k, bs (n + 1) a (k + 1) = bs n a (k + 1) + a * bs n a k
  | 0 => by simp [bs, ch_zero]
  | k + 1 => by
    have ih := bs_step n a k
    have e : bs (n + 1) a (k + 2) = bs (n + 1) a (k + 1) + ch (n + 1) (k + 1) * a ^ (k + 1) := rfl
    have e1 : bs n a (k + 2) = bs n a (k + 1) + ch n (k + 1) * a ^ (k + 1) := rfl
    have e2 : a * bs n a (k + 1) = a * bs n a k + ch n k * a ^ (k + 1) := by
      show a * (bs n a k + ch n k * a ^ k) = _
      rw [Nat.mul_add, Nat.pow_succ, Nat.mul_left_comm, Nat.mul_comm a (a ^ k)]
    rw [e, e1, e2, ih, show ch (n + 1) (k + 1) = ch n k + ch n (k + 1) from rfl, Nat.add_mul]
    omega
theorem binom (a : Nat) : ∀ n, (a + 1) ^ n = bs n a (n + 1)
  | 0 => by simp [bs, ch_zero]
  | n + 1 => by
    have e : bs n a (n + 2) = bs n a (n + 1) := by
      show bs n a (n + 1) + ch n (n + 1) * a ^ (n + 1) = _
      rw [ch_big n (n + 1) (by omega)]; simp
    rw [bs_step, e, ← binom a n, Nat.pow_succ, Nat.mul_add, Nat.mul_one, Nat.mul_comm a]
    omega
/-! ### Fermat -/
theorem ch_dvd {p k : Nat} (hp : Prime p) (h0 : 0 < k) (h1 : k < p) : p ∣ ch p k := by
  obtain ⟨n, rfl⟩ : ∃ n, p = n + 1 := ⟨p - 1, by have := hp.1; omega⟩
  obtain ⟨j, rfl⟩ : ∃ j, k = j + 1 := ⟨k - 1, by omega⟩
  have h := ch_absorb n j
  have hd : n + 1 ∣ (j + 1) * ch (n + 1) (j + 1) := ⟨_, h⟩
  rcases hp.mul hd with h2 | h2
  · exact absurd (Nat.le_of_dvd (by omega) h2) (by omega)
  · exact h2
theorem bs_mod {p : Nat} (hp : Prime p) (a : Nat) : ∀ k, k + 1 ≤ p → bs p a (k + 1) % p = 1
  | 0, _ => by simp only [bs, ch_zero, Nat.pow_zero, Nat.mul_one, Nat.zero_add]; exact Nat.mod_eq_of_lt hp.1
  | k + 1, h => by
    show (bs p a (k + 1) + ch p (k + 1) * a ^ (k + 1)) % p = 1
    obtain ⟨c, hc⟩ := ch_dvd hp (k := k + 1) (by omega) (by omega)
    rw [hc, Nat.mul_assoc, Nat.add_mul_mod_self_left]
    exact bs_mod hp a k (by omega)
theorem fermat0 {p : Nat} (hp : Prime p) : ∀ a : Nat, a ^ p % p = a % p
  | 0 => by rw [Nat.zero_pow (by have := hp.1; omega)]
  | a + 1 => by
    rw [binom]
    show (bs p a p + ch p p * a ^ p) % p = _
    obtain ⟨n, hn⟩ : ∃ n, p = n + 1 := ⟨p - 1, by have := hp.1; omega⟩
    have h1 := bs_mod hp a n (by omega)
    rw [← hn] at h1
    rw [ch_self, Nat.one_mul, Nat.add_mod, h1, fermat0 hp a, ← Nat.add_comm (a % p), Nat.mod_add_mod]
theorem fermat {p a : Nat} (hp : Prime p) (ha : ¬ p ∣ a) : a ^ (p - 1) % p = 1 := by
  obtain ⟨n, rfl⟩ : ∃ n, p = n + 1 := ⟨p - 1, by have := hp.1; omega⟩
  have hpos : 0 < a := Nat.pos_of_ne_zero fun h => ha (h ▸ Nat.dvd_zero _)
  have h1 : 1 ≤ a ^ n := Nat.one_le_pow _ _ hpos
  have h := fermat0 hp a
  rw [Nat.pow_succ] at h
  have hd : n + 1 ∣ a * (a ^ n - 1) := by
    rw [Nat.mul_sub, Nat.mul_one, Nat.mul_comm a]
    exact Nat.dvd_of_mod_eq_zero (Nat.sub_mod_eq_zero_of_mod_eq h)
  rcases hp.mul hd with h2 | h2
  · exact absurd h2 ha
  · obtain ⟨c, hc⟩ := h2
    rw [Nat.add_sub_cancel, show a ^ n = 1 + (n + 1) * c by omega, Nat.add_mul_mod_self_left]
    exact Nat.mod_eq_of_lt hp.1
/-! ### the test -/
theorem has_prime : ∀ n : Nat, 1 < n → ∃ d, Prime d ∧ d ∣ n ∧ (Prime n ∨ d * d ≤ n) := fun n hn => by
  -- the least divisor above 1
  have hex : ∃ d, 1 < d ∧ d ∣ n ∧ ∀ e, 1 < e → e ∣ n → d ≤ e := by
    have : ∀ k m : Nat, m ≤ k → 1 < m → m ∣ n → ∃ d, 1 < d ∧ d ∣ n ∧ ∀ e, 1 < e → e ∣ n → d ≤ e := by
      intro k
      induction k with
      | zero => intro m h1 h2; omega
      | succ k ih =>
        intro m h1 h2 h3
        by_cases hc : ∃ e, 1 < e ∧ e ∣ n ∧ e < m
        · obtain ⟨e, h4, h5, h6⟩ := hc
          exact ih e (by omega) h4 h5
        · exact ⟨m, h2, h3, fun e h4 h5 => by
            rcases Nat.lt_or_ge e m with h6 | h6
            · exact absurd ⟨e, h4, h5, h6⟩ hc
            · exact h6⟩
    exact this n n (Nat.le_refl _) hn (Nat.dvd_refl _)
  obtain ⟨d, h1, h2, h3⟩ := hex
  have hp : Prime d := ⟨h1, fun e he => by
    rcases Nat.lt_or_ge 1 e with h4 | h4
    · exact .inr (Nat.le_antisymm (Nat.le_of_dvd (by omega) he) (h3 e h4 (Nat.dvd_trans he h2)))
    · have := Nat.pos_of_dvd_of_pos he (by omega)
      exact .inl (by omega)⟩
  refine ⟨d, hp, h2, ?_⟩
  obtain ⟨k, hk⟩ := h2
  rcases Nat.lt_or_ge 1 k with h4 | h4
  · have := h3 k h4 ⟨d, by rw [hk, Nat.mul_comm]⟩
    exact .inr (by rw [hk]; exact Nat.mul_le_mul_left d this)
  · have : k ≠ 0 := fun h => by rw [h] at hk; omega
    have : k = 1 := by omega
    rw [this, Nat.mul_one] at hk
    exact .inl (hk ▸ hp)
/-- by trial -/
theorem prime_try {n s : Nat} (hn : 1 < n) (hs : n < (s + 1) * (s + 1)) (h : ∀ d, d < s + 1 → 1 < d → n % d ≠ 0) : Prime n := by
  obtain ⟨d, hd, h2, h3 | h3⟩ := has_prime n hn
  · exact h3
  · rcases Nat.lt_or_ge d (s + 1) with h4 | h4
    · exact absurd (Nat.mod_eq_zero_of_dvd h2) (h d h4 hd.1)
    · have := Nat.mul_le_mul h4 h4
      omega
def tryB (n : Nat) : Nat → Bool
  | 0 => true
  | d + 1 => (d ≤ 1 || n % d != 0) && tryB n d
theorem tryB_ok {n : Nat} : ∀ {s : Nat}, tryB n s = true → ∀ d, d < s → 1 < d → n % d ≠ 0
  | 0, _, d, h, _ => by omega
  | s + 1, h, d, h1, h2 => by
    unfold tryB at h
    rw [Bool.and_eq_true, Bool.or_eq_true] at h
    rcases Nat.lt_or_eq_of_le (Nat.le_of_lt_succ h1) with h3 | rfl
    · exact tryB_ok h.2 d h3 h2
    · rcases h.1 with h4 | h4
      · have := of_decide_eq_true h4; omega
      · simpa using h4
theorem prime_tryB {n : Nat} (s : Nat) (h : (decide (1 < n) && decide (n < (s + 1) * (s + 1)) && tryB n (s + 1)) = true) : Prime n := by
  rw [Bool.and_eq_true, Bool.and_eq_true] at h
  exact prime_try (of_decide_eq_true h.1.1) (of_decide_eq_true h.1.2) (tryB_ok h.2)
/-- a power, modulo -/
def pm (N : Nat) : Nat → Nat → Nat → Nat
  | 0, _, _ => 1 % N
  | f + 1, a, n => if n % 2 = 1 then pm N f (a * a % N) (n / 2) * a % N else pm N f (a * a % N) (n / 2)
theorem pm_eq (N : Nat) : ∀ f a n, n < 2 ^ f → pm N f a n = a ^ n % N
  | 0, a, n, h => by
    obtain rfl : n = 0 := by simpa using h
    rfl
  | f + 1, a, n, h => by
    have ih := pm_eq N f (a * a % N) (n / 2) (by rw [Nat.pow_succ] at h; omega)
    have e : (a * a % N) ^ (n / 2) % N = (a ^ (2 * (n / 2))) % N := by
      rw [← Nat.pow_mod, Nat.pow_mul, Nat.pow_two]
    unfold pm
    rw [ih, e]
    split
    · rename_i h1
      rw [Nat.mod_mul_mod, ← Nat.pow_succ, show (2 * (n / 2)).succ = n by omega]
    · rw [show 2 * (n / 2) = n by omega]
theorem pow_gcd {d a : Nat} (hd : 1 < d) : ∀ m n : Nat, a ^ m % d = 1 → a ^ n % d = 1 → a ^ Nat.gcd m n % d = 1 := by
  intro m n
  induction m, n using Nat.gcd.induction with
  | H0 n => intro _ h; rwa [Nat.gcd_zero_left]
  | H1 m n hm ih =>
    intro h1 h2
    rw [Nat.gcd_rec]
    refine ih ?_ h1
    have e : a ^ n = a ^ (n % m) * (a ^ m) ^ (n / m) := by rw [← Nat.pow_mul, ← Nat.pow_add, Nat.mod_add_div]
    rw [e, Nat.mul_mod, Nat.pow_mod (a ^ m), h1, Nat.one_pow, Nat.mod_eq_of_lt hd, Nat.mul_one, Nat.mod_mod] at h2
    exact h2
theorem pock {N d q e a : Nat} (hd : Prime d) (hdN : d ∣ N) (hq : Prime q) (hqe : q ^ e ∣ N - 1) (he : 0 < e) (hN : 1 < N) (h1 : a ^ (N - 1) % N = 1) (h2 : Nat.gcd (a ^ ((N - 1) / q) % N + (N - 1)) N = 1) : q ^ e ∣ d - 1 := by
  have h1d : a ^ (N - 1) % d = 1 := by
    rw [← Nat.mod_mod_of_dvd _ hdN, h1, Nat.mod_eq_of_lt hd.1]
  have had : ¬ d ∣ a := fun h => by
    have : a ^ (N - 1) % d = 0 := Nat.mod_eq_zero_of_dvd (Nat.dvd_trans h (by have := Nat.pow_dvd_pow a (show 1 ≤ N - 1 by omega); rwa [Nat.pow_one] at this))
    omega
  have hf := fermat hd had
  have hg := pow_gcd hd.1 (N - 1) (d - 1) h1d hf
  obtain ⟨h, hh⟩ := Nat.gcd_dvd_left (N - 1) (d - 1)
  by_cases hqh : q ∣ h
  · exfalso
    obtain ⟨h', rfl⟩ := hqh
    have hq0 : 0 < q := by have := hq.1; omega
    have e1 : (N - 1) / q = Nat.gcd (N - 1) (d - 1) * h' := by
      refine Nat.div_eq_of_eq_mul_right hq0 ?_
      rw [Nat.mul_left_comm]; exact hh
    have e2 : a ^ ((N - 1) / q) % d = 1 := by
      rw [e1, Nat.pow_mul, Nat.pow_mod, hg, Nat.one_pow, Nat.mod_eq_of_lt hd.1]
    have e3 : d ∣ a ^ ((N - 1) / q) % N + (N - 1) := by
      refine Nat.dvd_of_mod_eq_zero ?_
      rw [Nat.add_mod, Nat.mod_mod_of_dvd _ hdN, e2]
      obtain ⟨c, hc⟩ := hdN
      have hc0 : 0 < c := Nat.pos_of_ne_zero fun h => by rw [h] at hc; omega
      have e4 : 1 + (N - 1) = d * c := by omega
      rw [show (1 + (N - 1) % d) % d = (1 + (N - 1)) % d by rw [Nat.add_mod_mod], e4, Nat.mul_mod_right]
    have := Nat.dvd_gcd e3 hdN
    rw [h2] at this
    have := Nat.le_of_dvd (by decide) this
    have := hd.1
    omega
  · have hc : Nat.Coprime (q ^ e) h := Nat.Coprime.pow_left e (hq.cop hqh)
    rw [hh] at hqe
    exact Nat.dvd_trans (hc.dvd_of_dvd_mul_right hqe) (Nat.gcd_dvd_right _ _)
theorem prime_of {N F : Nat} (hN : 1 < N) (hF : N < (F + 1) * (F + 1)) (h : ∀ d, Prime d → d ∣ N → F ∣ d - 1) : Prime N := by
  obtain ⟨d, hd, h2, h3 | h3⟩ := has_prime N hN
  · exact h3
  · have := Nat.le_of_dvd (by have := hd.1; omega) (h d hd h2)
    have h4 : F + 1 ≤ d := by have := hd.1; omega
    have := Nat.mul_le_mul h4 h4
    omega
/-- a witness: q, a -/
def wit (N : Nat) (q a : Nat) : Bool := (N - 1) % q == 0 && pm N 256 a (N - 1) == 1 && Nat.gcd (pm N 256 a ((N - 1) / q) + (N - 1)) N == 1
theorem wit_ok {N q a d : Nat} (hN : 1 < N) (hs : N < 2 ^ 256) (hq : Prime q) (h : wit N q a = true) (hd : Prime d) (hdN : d ∣ N) : q ∣ d - 1 := by
  unfold wit at h
  rw [Bool.and_eq_true, Bool.and_eq_true, pm_eq N 256 a (N - 1) (by omega), pm_eq N 256 a _ (Nat.lt_of_le_of_lt (Nat.div_le_self _ _) (by omega))] at h
  have := pock (e := 1) hd hdN hq (by rw [Nat.pow_one]; exact Nat.dvd_of_mod_eq_zero (eq_of_beq h.1.1)) (by decide) hN (eq_of_beq h.1.2) (eq_of_beq h.2)
  rwa [Nat.pow_one] at this
end Go.Proofs.YtlnlcddbllcehaaDoor.Prm

/- Six primes. Conditions: none. -/
set_option linter.unusedVariables false
set_option maxRecDepth 100000
namespace Go.Proofs.YtlnlcddbllcehaaDoor.Prm
theorem both {a b d : Nat} (h : Nat.Coprime a b) (h1 : a ∣ d) (h2 : b ∣ d) : a * b ∣ d := h.mul_dvd_of_dvd_of_dvd h1 h2
theorem p2 : Prime 2 := prime_tryB 1 (by decide +kernel)
theorem p3 : Prime 3 := prime_tryB 1 (by decide +kernel)
theorem p65537 : Prime 65537 := prime_tryB 256 (by decide +kernel)
theorem pM61 : Prime 2305843009213693951 := prime_of (F := 1321 * 331 * 151 * 61) (by decide) (by decide) fun d hd h => by
  have w : ∀ q a, Prime q → wit 2305843009213693951 q a = true → q ∣ d - 1 := fun q a hq hw => wit_ok (by decide) (by decide) hq hw hd h
  exact both (by decide +kernel) (both (by decide +kernel) (both (by decide +kernel) (w 1321 3 (prime_tryB 40 (by decide +kernel)) (by decide +kernel)) (w 331 3 (prime_tryB 40 (by decide +kernel)) (by decide +kernel))) (w 151 3 (prime_tryB 40 (by decide +kernel)) (by decide +kernel))) (w 61 2 (prime_tryB 10 (by decide +kernel)) (by decide +kernel))
theorem p559 : Prime 5594472617641 := prime_of (F := 15331 * 2131) (by decide) (by decide) fun d hd h => by
  have w : ∀ q a, Prime q → wit 5594472617641 q a = true → q ∣ d - 1 := fun q a hq hw => wit_ok (by decide) (by decide) hq hw hd h
  exact both (by decide +kernel) (w 15331 2 (prime_tryB 130 (by decide +kernel)) (by decide +kernel)) (w 2131 2 (prime_tryB 50 (by decide +kernel)) (by decide +kernel))
theorem p64 : Prime 18446744073709551557 := prime_of (F := 5594472617641) (by decide) (by decide) fun d hd h =>
  wit_ok (a := 2) (by decide) (by decide) p559 (by decide +kernel) hd h
theorem pM127 : Prime 170141183460469231731687303715884105727 := prime_of (F := 649657 * 92737 * 5419 * 337 * 127) (by decide) (by decide) fun d hd h => by
  have w : ∀ q a, Prime q → wit 170141183460469231731687303715884105727 q a = true → q ∣ d - 1 := fun q a hq hw => wit_ok (by decide) (by decide) hq hw hd h
  exact both (by decide +kernel) (both (by decide +kernel) (both (by decide +kernel) (both (by decide +kernel) (w 649657 3 (prime_tryB 810 (by decide +kernel)) (by decide +kernel)) (w 92737 3 (prime_tryB 310 (by decide +kernel)) (by decide +kernel))) (w 5419 3 (prime_tryB 80 (by decide +kernel)) (by decide +kernel))) (w 337 3 (prime_tryB 20 (by decide +kernel)) (by decide +kernel))) (w 127 2 (prime_tryB 12 (by decide +kernel)) (by decide +kernel))
/-- of a prime: a number that is no multiple, to the prime less 1, leaves 1, and a multiple leaves 0 -/
theorem power {p : Nat} (hp : Prime p) (a : Nat) : a ^ (p - 1) % p = if a % p = 0 then 0 else 1 := by
  have h1 := hp.1
  split
  · rename_i h
    exact Nat.mod_eq_zero_of_dvd (Nat.dvd_trans (Nat.dvd_of_mod_eq_zero h) (by have := Nat.pow_dvd_pow a (show 1 ≤ p - 1 by omega); rwa [Nat.pow_one] at this))
  · rename_i h
    exact fermat hp fun hd => h (Nat.mod_eq_zero_of_dvd hd)
end Go.Proofs.YtlnlcddbllcehaaDoor.Prm

/- The law of powers modulo primes, walked. Conditions: the tables lie in memory. -/
set_option linter.unusedSimpArgs false
set_option linter.unusedVariables false
set_option maxRecDepth 100000
set_option maxHeartbeats 4000000
set_option exponentiation.threshold 30000
namespace Go.Proofs.YtlnlcddbllcehaaDoor
open Go Ie
variable {Ext : FuncId → List Value → Mem → Outc → Mem → Prop}
def prL : List WL := [[2#64], [3#64], [65537#64], [2305843009213693951#64], [18446744073709551557#64], [18446744073709551615#64, 9223372036854775807#64]]
theorem prL_ok {i : Nat} {p : WL} (h : prL[i]? = some p) : Prm.Prime (wnum p) ∧ wnum p < 2 ^ 128 := by
  have hi : i < 6 := (List.getElem?_eq_some_iff.1 h).1
  match i, hi with
  | 0, _ => cases h; exact ⟨Prm.p2, by decide⟩
  | 1, _ => cases h; exact ⟨Prm.p3, by decide⟩
  | 2, _ => cases h; exact ⟨Prm.p65537, by decide⟩
  | 3, _ => cases h; exact ⟨Prm.pM61, by decide⟩
  | 4, _ => cases h; exact ⟨Prm.p64, by decide⟩
  | 5, _ => cases h; exact ⟨Prm.pM127, by decide⟩
theorem modPrimes_C (a0 : Option Addr) (c0 : Nat) (l0 : WL) (S : Mem) (h0 : Slv S 1 (.slice a0 l0.length c0) l0.length (wv l0)) (n0 : l0.length < UNK) (hS : SinOk S) (hG : gN ≤ S.length) :
    C Tryd.prog gN Ext 5 [.slice a0 l0.length c0] S fun v S' => v = .bool true ∧ Cons S S' := by
  refine C.fn Tryd.func5 rfl (by kernel_rfl) rfl ?_
  have hW := Ws.nil S
  have hc := Cons.refl S
  repeat first|refine W.g ?_|refine L.p rfl rfl ?_|refine L.nil ?_|refine L.skip rfl ?_
  refine L.cl (some_C a0 c0 4 l0 _ (h0.cons hc) n0 (by decide)) rfl rfl ?_
  rintro _ T' ⟨k', x0, y0, rfl, w'⟩
  refine ⟨fun _ => k', ?_⟩
  replace hW := (hW.cons k').add w'
  replace hc := hc.trans k'
  clear k' w'
  repeat first|refine W.g ?_|refine L.p rfl rfl ?_|refine L.nil ?_|refine L.skip rfl ?_
  have b0 : wnum (l0.take 4) < 2 ^ 256 := take_lt
  generalize l0.take 4 = la at *
  replace b0 := up_pow b0 (show 256 ≤ 8192 by decide)
  refine L.bsW [2#64] rfl rfl rfl rfl rfl rfl (fun b1 T' k' w' => ?_)
  replace hW := (hW.cons k').add w'
  replace hc := hc.trans k'
  clear k' w'
  repeat first|refine W.g ?_|refine L.p rfl rfl ?_|refine L.nil ?_|refine L.skip rfl ?_
  refine L.bsW [3#64] rfl rfl rfl rfl rfl rfl (fun b2 T' k' w' => ?_)
  replace hW := (hW.cons k').add w'
  replace hc := hc.trans k'
  clear k' w'
  repeat first|refine W.g ?_|refine L.p rfl rfl ?_|refine L.nil ?_|refine L.skip rfl ?_
  refine L.bsW [65537#64] rfl rfl rfl rfl rfl rfl (fun b3 T' k' w' => ?_)
  replace hW := (hW.cons k').add w'
  replace hc := hc.trans k'
  clear k' w'
  repeat first|refine W.g ?_|refine L.p rfl rfl ?_|refine L.nil ?_|refine L.skip rfl ?_
  refine L.bsW [2305843009213693951#64] rfl rfl rfl rfl rfl rfl (fun b4 T' k' w' => ?_)
  replace hW := (hW.cons k').add w'
  replace hc := hc.trans k'
  clear k' w'
  repeat first|refine W.g ?_|refine L.p rfl rfl ?_|refine L.nil ?_|refine L.skip rfl ?_
  refine L.bsW [18446744073709551557#64] rfl rfl rfl rfl rfl rfl (fun b5 T' k' w' => ?_)
  replace hW := (hW.cons k').add w'
  replace hc := hc.trans k'
  clear k' w'
  repeat first|refine W.g ?_|refine L.p rfl rfl ?_|refine L.nil ?_|refine L.skip rfl ?_
  refine L.bsW [18446744073709551615#64, 9223372036854775807#64] rfl rfl rfl rfl rfl rfl (fun b6 T' k' w' => ?_)
  replace hW := (hW.cons k').add w'
  replace hc := hc.trans k'
  clear k' w'
  repeat first|refine W.g ?_|refine L.p rfl rfl ?_|refine L.nil ?_|refine L.skip rfl ?_
  obtain ⟨ws, hws⟩ : ∃ ws : List WS, ws = [⟨some ⟨b1, 0, none⟩, 1, [2#64]⟩, ⟨some ⟨b2, 0, none⟩, 1, [3#64]⟩, ⟨some ⟨b3, 0, none⟩, 1, [65537#64]⟩, ⟨some ⟨b4, 0, none⟩, 1, [2305843009213693951#64]⟩, ⟨some ⟨b5, 0, none⟩, 1, [18446744073709551557#64]⟩, ⟨some ⟨b6, 0, none⟩, 2, [18446744073709551615#64, 9223372036854775807#64]⟩] := ⟨_, rfl⟩
  have hwl : ws.map WS.l = prL := by rw [hws]; rfl
  have hww : ∀ w ∈ ws, WIn T' w.a w.c w.l := fun w hw => by
    rw [hws] at hw
    exact hW w (List.mem_cons_of_mem _ hw)
  have hwa := hW.at 0 rfl
  refine L.bs (ws.map WS.v) rfl (by rw [hws]; rfl) rfl (by rw [hws]; rfl) (by rw [hws]; rfl) rfl ?_
  have k2 : Cons T' (T' ++ [newR (ws.map WS.v) 22]) := Cons.push _ _
  have hs : Slv (T' ++ [newR (ws.map WS.v) 22]) 1 (.slice (some ⟨T'.length, 0, none⟩) 6 6) 6 (ws.map WS.v) := Slv.all (row_push_new rfl) (by rw [hws]; rfl) (by rw [hws]; rfl)
  have hwn : ws.length = 6 := by rw [hws]; rfl
  clear hW hws
  obtain ⟨rb, hrb⟩ : ∃ rb, rb = T'.length := ⟨_, rfl⟩
  rw [← hrb] at hs ⊢
  obtain ⟨M0, hM0⟩ : ∃ M0, M0 = T' ++ [newR (ws.map WS.v) 22] := ⟨_, rfl⟩
  rw [← hM0] at hs k2 ⊢
  clear hM0 hrb
  replace hc := hc.trans k2
  replace hwa := hwa.cons k2
  replace hww : ∀ w ∈ ws, WIn M0 w.a w.c w.l := fun w hw => (hww w hw).cons k2
  clear k2
  have kS := hc
  replace hS := hS.cons kS
  replace hG := Nat.le_trans hG kS.len
  clear hc

  repeat first|refine W.g ?_|refine L.p rfl rfl ?_|refine L.nil ?_|refine L.skip rfl ?_
  refine W.loop (fun j e T => ∃ i : Nat, j = 6 - i ∧ i ≤ 6 ∧ Cons M0 T ∧ e 3 = .slice x0 la.length y0 ∧ e 20 = .slice (some ⟨rb, 0, none⟩) 6 6 ∧ e 21 = vi 6 ∧ e 22 = vi i) 6
    ⟨0, rfl, by decide, Cons.refl _, rfl, rfl, rfl, rfl⟩ ?_
  rintro j e T ⟨i, rfl, hi, hk, e3, e20, e21, e22⟩
  refine W.env4 e3 e20 e21 e22 ?_
  clear e3 e20 e21 e22
  repeat first|refine W.g ?_|refine L.p rfl rfl ?_|refine L.nil ?_|refine L.skip rfl ?_
  refine W.ite rfl (fun h => ?_) (fun h => ?_)
  · have hin : i < 6 := by have := of_decide_eq_true h; omega
    clear h
    obtain ⟨w, hwi⟩ : ∃ w, ws[i]? = some w := ⟨_, List.getElem?_eq_getElem (by omega)⟩
    have hpi : prL[i]? = some w.l := by rw [← hwl, List.getElem?_map, hwi]; rfl
    have hwp := (hww w (List.mem_of_getElem? hwi)).cons hk
    obtain ⟨hpr, hpb⟩ := prL_ok hpi
    repeat first|refine W.g ?_|refine L.p rfl rfl ?_|refine L.nil ?_|refine L.skip rfl ?_
    refine L.el (hs.cons hk) (k := i) rfl (show (ws.map WS.v)[i]? = some (.slice w.a w.l.length w.c) by rw [List.getElem?_map, hwi]; rfl) rfl rfl rfl rfl (fun _ => rfl) rfl (fun p => ?_)
    have hW := (Ws.nil T).add (hwa.cons hk)
    replace hW := hW.add hwp
    clear hwp
    generalize w.l = lp at *
    generalize w.a = ap at *
    generalize w.c = cp at *
    have hpw := Prm.power hpr (wnum la)
    have hp1 := hpr.1
    generalize hP : wnum lp = P at *
    have hP0 : wnum lp ≠ 0 := by omega
    have hPb : wnum lp < 2 ^ 4096 := by rw [hP]; exact up_pow hpb (by decide)
    have hc := hk
    clear hk
    repeat first|refine W.g ?_|refine L.p rfl rfl ?_|refine L.nil ?_|refine L.skip rfl ?_
    refine L.cl (of_C _ _ _ _ la lp _ (hW.at 0 rfl) (hW.at 1 rfl)) rfl rfl ?_
    rintro _ T' hr
    refine ⟨fun _ => let ⟨d, _, h⟩ := hr; h.1, ?_⟩
    obtain ⟨d2, rfl, hr'⟩ := hr.gotN (X := wnum la % P) (wrE_zero1 b0 hPb hP0) (by rw [hP])
    clear hr
    replace hW := (hW.cons hr'.1).add hr'.win
    replace hc := hc.trans hr'.1
    clear hr'
    repeat first|refine W.g ?_|refine L.p rfl rfl ?_|refine L.nil ?_|refine L.skip rfl ?_
    refine L.bsW [1#64] rfl rfl rfl rfl rfl rfl (fun b3 T' k' w' => ?_)
    replace hW := (hW.cons k').add w'
    replace hc := hc.trans k'
    clear k' w'
    repeat first|refine W.g ?_|refine L.p rfl rfl ?_|refine L.nil ?_|refine L.skip rfl ?_
    refine L.cl (natSub_C _ _ _ _ lp [1#64] _ (hW.at 1 rfl) (hW.at 3 rfl)) rfl rfl ?_
    rintro _ T' ⟨d4, rfl, hr⟩
    refine ⟨fun _ => hr.1, ?_⟩
    rw [(sub_num (l1 := lp) (l2 := [1#64]) (wr_le hPb) one8192 (by rw [hP]; exact Nat.le_of_lt hp1)).2]
    rw [(sub_num (l1 := lp) (l2 := [1#64]) (wr_le hPb) one8192 (by rw [hP]; exact Nat.le_of_lt hp1)).1] at hr
    rw [hr.val]
    replace hW := (hW.cons hr.1).add hr.win
    replace hc := hc.trans hr.1
    clear hr
    repeat first|refine W.g ?_|refine L.p rfl rfl ?_|refine L.nil ?_|refine L.skip rfl ?_
    refine L.cl (modPow_C _ _ _ _ _ _ la _ lp _ (hW.at 0 rfl) (hW.at 4 rfl) (hW.at 1 rfl) (hS.cons hc) (Nat.le_trans hG hc.len)) rfl rfl ?_
    rintro _ T' hr
    refine ⟨fun _ => let ⟨d, _, h⟩ := hr; h.1, ?_⟩
    obtain ⟨d5, rfl, hr'⟩ := hr.gotN (X := wnum la ^ (P - 1) % P) (wrE_zero2 b0 (by rw [wnum_toW, hP]; exact up_pow (Nat.lt_of_le_of_lt (Nat.sub_le _ _) hpb) (by decide)) hPb hP0) (by rw [wnum_toW, hP]; rfl)
    clear hr
    replace hW := (hW.cons hr'.1).add hr'.win
    replace hc := hc.trans hr'.1
    clear hr'
    repeat first|refine W.g ?_|refine L.p rfl rfl ?_|refine L.nil ?_|refine L.skip rfl ?_
    by_cases hz : wnum la % P = 0
    · rw [if_pos hz] at hpw
      rw [hz, hpw, toW_zero]
      repeat first|refine W.g ?_|refine L.p rfl rfl ?_|refine L.nil ?_|refine L.skip rfl ?_
      refine W.ite rfl (fun h => ?_) (fun h => ?_)
      · cases h
      clear h
      repeat first|refine W.g ?_|refine L.p rfl rfl ?_|refine L.nil ?_|refine L.skip rfl ?_
      refine ⟨6 - (i + 1), by omega, i + 1, rfl, by omega, hc, rfl, rfl, rfl, ?_⟩
      refine (force_eq rfl).trans ?_
      rw [wrap64 (by omega) (by omega)]; rfl
    · rw [if_neg hz] at hpw
      rw [hpw, show toW 1 = [1#64] from toW_is (by unfold Canon; decide) rfl] at hW ⊢
      have hlen : 0 < (toW (wnum la % P)).length := Nat.pos_of_ne_zero fun h => hz (by have := List.length_eq_zero_iff.1 h; rw [← wnum_toW (wnum la % P), this]; rfl)
      rw [show decide (((toW (wnum la % P)).length : Int) > 0) = true from decide_eq_true (by omega)]
      repeat first|refine W.g ?_|refine L.p rfl rfl ?_|refine L.nil ?_|refine L.skip rfl ?_
      refine L.bsW [1#64] rfl rfl rfl rfl rfl rfl (fun b6 T' k' w' => ?_)
      replace hW := (hW.cons k').add w'
      replace hc := hc.trans k'
      clear k' w'
      repeat first|refine W.g ?_|refine L.p rfl rfl ?_|refine L.nil ?_|refine L.skip rfl ?_
      refine L.cl (sameX_C _ _ _ _ _ _ _ (hW.at 5 rfl) (hW.at 6 rfl) rfl) rfl rfl ?_
      rintro _ M ⟨rfl, hM⟩
      have hM := hM.symm
      subst hM
      refine ⟨fun _ => Cons.refl _, ?_⟩
      repeat first|refine W.g ?_|refine L.p rfl rfl ?_|refine L.nil ?_|refine L.skip rfl ?_
      rw [show (((toW (wnum la % P)).length : Int) == 0) = false from beq_eq_false_iff_ne.2 (by omega)]
      repeat first|refine W.g ?_|refine L.p rfl rfl ?_|refine L.nil ?_|refine L.skip rfl ?_
      refine W.ite rfl (fun h => ?_) (fun h => ?_)
      · cases h
      clear h
      repeat first|refine W.g ?_|refine L.p rfl rfl ?_|refine L.nil ?_|refine L.skip rfl ?_
      refine ⟨6 - (i + 1), by omega, i + 1, rfl, by omega, hc, rfl, rfl, rfl, ?_⟩
      refine (force_eq rfl).trans ?_
      rw [wrap64 (by omega) (by omega)]; rfl
  · have hin : i = 6 := by have := of_decide_eq_false h; omega
    subst hin
    clear h
    have hc := hk
    repeat first|refine W.g ?_|refine L.p rfl rfl ?_|refine L.nil ?_|refine L.skip rfl ?_
    refine L.cl (works_C _ (hS.cons hc) (Nat.le_trans hG hc.len)) rfl rfl ?_
    rintro _ M4 ⟨rfl, k4⟩
    refine ⟨fun _ => k4, ?_⟩
    repeat first|refine W.g ?_|refine L.p rfl rfl ?_|refine L.nil ?_|refine L.skip rfl ?_
    exact ⟨.inr rfl, _, rfl, rfl, (kS.trans hc).trans k4⟩
end Go.Proofs.YtlnlcddbllcehaaDoor

/- The proof of the statement ModularPrimes. Conditions: none. -/
namespace Go.Proofs.YtlnlcddbllcehaaDoor.modularPrimes
open Go.ChangeShapes Go.WideShapes Go.ChangeAt Go.RowKit
open Go.ChangeMaps (open_string shut_string)
set_option linter.unusedVariables false

theorem own : ownKnob Tryd.prog.godebug = none := by kernel_rfl
theorem laidOut : laidOutB Tryd.prog = true := by kernel_rfl

theorem walk (a0 : Option Addr) (len0 cap0 : Nat) (z0 : List Int) (w : World) (hG : gN ≤ w.heap.size) (hR : ∀ N, SinOk (mem0 w N)) (w0 : IsRow .u64 w a0 len0 cap0 z0) (hb0 : ∀ x, a0 = some x → x.block < w.heap.size) :
    Calls Tryd.prog 5 #[.slice a0 len0 cap0] w fun e w' => e = .returned (.bool true) ∧ Below w.heap.size w w' := by
  obtain ⟨hs0, hv0, hl0, hc0, hwf0⟩ := world_ints (N := 0) w0 (by simpa using hb0)
  have hcc0 := row_cap w0
  have hf0 : ∀ x, a0 = some x → x.block < (mem0 w).length := fun x hx => by rw [mem0_len]; have := hb0 x hx; omega
  obtain ⟨l0, hll0, hbl0⟩ := words_of z0 len0 hwf0 hl0
  rw [← hbl0] at hs0
  subst hll0
  obtain ⟨v, S', hE, rfl, hcons⟩ := (modPrimes_C (Ext := NoX) a0 cap0 l0 (mem0 w) hs0 (Nat.lt_of_le_of_lt hcc0.2 hcc0.1) (hR 0) (by rw [mem0_len]; omega))
  refine top_true (Checked.mixed Tryd.checked) (fun _ _ _ _ _ h => h.elim) hG (fun a ha => ?_) hE hcons
  obtain rfl : a = .slice a0 l0.length cap0 := by simpa using ha
  exact hv0

set_option maxRecDepth 100000 in
theorem lifted (os : Os) (started : os.Started) (H : Type) (enc : TypeId × Value → H) :
    ReturnsInHanded {} Tryd.checked os 5 .any (fun w args => (Rows.modularPrimesSpec.pre enc Tryd.prog Tryd.f5 [] false w args ∧ laidMetH Tryd.prog laidL w) ∧ sizedMet enc Tryd.prog Tryd.f5 (OpenSpec.ofChange Rows.modularPrimesSpec) false w args)
      (Rows.modularPrimesSpec.post enc Tryd.prog Tryd.f5 false true false false) := by
  refine returnsInHanded_of_change_and (C := Tryd.checked) (X := fun w _ => laidMetH Tryd.prog laidL w) (fun _ _ _ hh h => h.of_heap hh) own started (by kernel_rfl) Tryd.func5
    (ChangeSpec.witness_shaped (enc := enc) (C := Tryd.checked) (os := os) (X := fun w _ => laidMetH Tryd.prog laidL w) false (World.doorLaid Tryd.prog 400 os) #[.slice none 0 0] 8 rfl (World.shaped_of_RefB (by kernel_rfl) (by kernel_rfl)) (by kernel_rfl) (by kernel_rfl) (by kernel_rfl) (door_met os _)) ?_
  intro W base args ds gs before hval0 hW _ _ hL _
  obtain ⟨hG, hR⟩ := of_laid hL
  have hval : ∀ (j : Nat) t v, Tryd.f5.params[j]? = some t → args[j]? = some v → Value.okWide Tryd.prog W .any base t v := hval0
  have hW' := hW
  obtain ⟨p, q, hA0, hV, rfl, hfz, hnd⟩ := hW
  have hA : DataW.TrodAll enc Tryd.prog W 0 (fun _ => true) true Tryd.f5.params.toList args.toList ds p := hA0
  rw [Tryd.params5] at hA hval
  obtain ⟨v0, vs0, d0, ds0, p0, q0, hargs, rfl, rfl, h0, r0⟩ := trodAll_cons hA
  obtain ⟨rfl, rfl, rfl⟩ := trodAll_nil r0
  obtain rfl : args = #[v0] := by cases args; simp_all
  obtain ⟨rfl, rfl⟩ := trodVars_none hV
  obtain ⟨a0, len0, cap0, rfl⟩ := okWide_slice Tryd.underlying22 (hval 0 22 v0 rfl rfl)
  have hb0 : ∀ x, a0 = some x → x.block < W.heap.size := by rintro x rfl; exact okWide_block Tryd.underlying22 (hval 0 22 _ rfl rfl)
  have k0 := h0
  have lt0 : ∀ x ∈ p0, x.block < W.heap.size := by obtain ⟨m, hm⟩ := k0; exact DataW.trod_lt m _ _ _ hm
  obtain ⟨z0, w0⟩ : ∃ zs, IsRow .u64 W a0 len0 cap0 zs := by
    obtain ⟨fuel, hf⟩ := h0
    rcases open_ints Tryd.underlying22 Tryd.underlying39 (by kernel_rfl) hf with ⟨hcs, _⟩ | ⟨x, l, c, zs, hcs, _, hl, hm, hz, _, hcell, hwz⟩
    · simp [Value.cells] at hcs
      obtain ⟨rfl, rfl, rfl⟩ := hcs
      exact ⟨[], .inl ⟨rfl, rfl, rfl, rfl⟩⟩
    · simp [Value.cells] at hcs
      obtain ⟨rfl, rfl, rfl⟩ := hcs
      exact ⟨zs, .inr ⟨_, rfl, hl, hm, by simpa using hz, hcell, hwz⟩⟩
  clear hA0 hval0
  refine (walk a0 len0 cap0 z0 W hG hR w0 hb0).mono fun e W' ⟨he, bel⟩ => ?_
  subst he
  exact ⟨_, rfl, _, _, _, [], _, [], hW', trodAll_mk1 (shut_bool Tryd.underlying4 _), (trodAll_cons_mk (Below.trod laidOut (by kernel_rfl) (of_decide_eq_true (by kernel_rfl)) k0 bel lt0) trodAll_mk0), rfl, bel.frame _, fun h => by cases h⟩

theorem over : Rows.modularPrimesRow.holds Tryd.pinned (OpenSpec.ofChange Rows.modularPrimesSpec) :=
  OpenClaim.holds_of_wide 5 Tryd.f5 rfl rfl rfl rfl rfl rfl rfl ⟨rfl, rfl, rfl, rfl, rfl⟩ rfl rfl rfl rfl rfl (by kernel_rfl) Tryd.func5 (by kernel_rfl)
    (of_decide_eq_true (by kernel_rfl)) (by unfold Func.isWrapper; first | (rw [if_pos (by decide +kernel)]; kernel_rfl) | (rw [if_neg (by decide +kernel)]; exact ⟨rfl, rfl⟩))
    (fun os started H enc _ => lifted os started H enc)

/-- the card: the row, its variable tied to the program's text -/
theorem proved : Rows.ModularPrimesCardSaid :=
  Claim7.holds_tied_plain_at .later [] [.data, .data, .data] true (true, "7eeef222ccc28ed4efe3101caf646cc54bce785ba59262e261ca0340073ef9df") false
    over (fun _ h => by cases h) (by kernel_rfl) (fun _ h => by cases h) modularPrimes_row_tie rfl ⟨rfl, rfl⟩ (by kernel_rfl) rfl
    (fun f fn hf hfn => by
      obtain rfl : f = 5 := Option.some.inj ((show Tryd.prog.funcNamed "vouch/vouchlaw04.ModularPrimes" = some 5 by kernel_rfl).symm.trans hf) |>.symm
      obtain rfl : fn = Tryd.f5 := (Option.some.inj (Tryd.func5.symm.trans hfn)).symm
      exact ⟨by kernel_rfl, fun j t ht => by
        rw [Tryd.params5] at ht
        match j, ht with
        | 0, ht =>
          obtain rfl : t = 22 := by simpa using ht.symm
          exact (show Tryd.prog.wantsStandIn 22 = false by kernel_rfl)
        | j + 1, ht => simp at ht⟩)
    (by kernel_rfl)
end Go.Proofs.YtlnlcddbllcehaaDoor.modularPrimes
