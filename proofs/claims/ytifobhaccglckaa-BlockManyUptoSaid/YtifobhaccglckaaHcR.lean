import Derived.Test.YtifobhaccglckaaHbkM
import Derived.Test.YtifobhaccglckaaHcQ
namespace Go.Proofs.Ytifobhaccglckaa.Hay
def be8 (n : Int) : List Int := [n / 2 ^ 56 % 256, n / 2 ^ 48 % 256, n / 2 ^ 40 % 256, n / 2 ^ 32 % 256, n / 2 ^ 24 % 256, n / 2 ^ 16 % 256, n / 2 ^ 8 % 256, n % 256]
theorem encode_eight_eq (n : Int) : encode_eight n = some (be8 n) := by
  unfold encode_eight
  have step : ∀ (l : List Int) (i : Nat), i < 8 → l.length ≤ 8 → encode_eight_b1 n l (i : Int) = some (.inl (l ++ [n / 2 ^ (56 - 8 * i) % 256], ((i + 1 : Nat) : Int))) := by
    intro l i hi hl
    unfold encode_eight_b1
    have h1 : decide ((i : Int) < 8) = true := by simpa using by omega
    have h2 : IntKind.i64.wrap (8 * (i : Int)) = ((8 * i : Nat) : Int) := by rw [wrap64 (by omega)]; omega
    have h3 : IntKind.i64.wrap (56 - ((8 * i : Nat) : Int)) = ((56 - 8 * i : Nat) : Int) := by rw [wrap64 (by omega)]; omega
    have h4 : IntKind.i64.wrap ((i : Int) + 1) = ((i + 1 : Nat) : Int) := by rw [wrap64 (by omega)]; omega
    rw [if_pos h1, h2, h3, shr64 (by omega), wrapu8, h4]
    have h5 : chk (decide (0 ≤ ((56 - 8 * i : Nat) : Int))) = some () := by simp [chk]
    rw [h5, Option.bind_some, app_of (by simp; omega), Option.bind_some]
  have e8 : ∀ l : List Int, encode_eight_b1 n l 8 = some (.inr l) := fun l => by
    unfold encode_eight_b1
    rw [if_neg (by decide)]; rfl
  have s : ∀ (l : List Int) (i : Nat), i < 8 → l.length ≤ 8 → loopO (fun s : (List Int × Int) => encode_eight_b1 n s.1 s.2) (l, (i : Int)) = loopO (fun s : (List Int × Int) => encode_eight_b1 n s.1 s.2) (l ++ [n / 2 ^ (56 - 8 * i) % 256], ((i + 1 : Nat) : Int)) := fun l i hi hl => loopO_go (step l i hi hl)
  have := s [] 0 (by omega) (by simp)
  rw [show ((0 : Nat) : Int) = 0 from rfl] at this
  rw [this, s _ 1 (by omega) (by simp), s _ 2 (by omega) (by simp), s _ 3 (by omega) (by simp), s _ 4 (by omega) (by simp), s _ 5 (by omega) (by simp), s _ 6 (by omega) (by simp), s _ 7 (by omega) (by simp)]
  rw [show ((7 + 1 : Nat) : Int) = 8 from rfl, loopO_end (e8 _)]
  simp [be8]
def said (l : List Int) : Int := l.foldl (fun a c => a * 256 + c) 0
theorem said_append (l : List Int) (c : Int) : said (l ++ [c]) = said l * 256 + c := by simp [said]
theorem said_bd (l : List Int) (h : ∀ c ∈ l, 0 ≤ c ∧ c < 256) : 0 ≤ said l ∧ said l < 256 ^ l.length := by
  have key : ∀ (r : List Int), (∀ c ∈ r, 0 ≤ c ∧ c < 256) → 0 ≤ said r.reverse ∧ said r.reverse < 256 ^ r.length := by
    intro r
    induction r with
    | nil => intro _; simp [said]
    | cons c r ih =>
      intro h
      obtain ⟨h1, h2⟩ := ih (fun x hx => h x (by simp [hx]))
      have hc := h c (by simp)
      rw [List.reverse_cons, said_append, List.length_cons, Int.pow_succ]
      omega
  have := key l.reverse (fun c hc => h c (by simpa using hc))
  simpa using this
theorem said_be8 {n : Int} (h0 : 0 ≤ n) (h1 : n < 18446744073709551616) : said (be8 n) = n := by
  simp only [said, be8, List.foldl_cons, List.foldl_nil]
  omega
theorem be8_bytes (n : Int) : ∀ c ∈ be8 n, 0 ≤ c ∧ c < 256 := by
  intro c hc
  simp only [be8, List.mem_cons, List.not_mem_nil, or_false] at hc
  rcases hc with rfl | rfl | rfl | rfl | rfl | rfl | rfl | rfl <;> omega
theorem be8_length (n : Int) : (be8 n).length = 8 := rfl
end Go.Proofs.Ytifobhaccglckaa.Hay
