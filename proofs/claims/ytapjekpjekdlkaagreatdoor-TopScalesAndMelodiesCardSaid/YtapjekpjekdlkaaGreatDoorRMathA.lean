/- How often a prime is in a number; quotients of intervals: plain numbers. Conditions: as each theorem says. -/
set_option linter.unusedSimpArgs false
set_option linter.unusedVariables false
namespace Go.Proofs.YtapjekpjekdlkaaGreatDoor

def vp (p : Nat) : Nat → Nat → Nat → Nat × Nat
  | 0, n, k => (k, n)
  | f + 1, n, k => if n % p = 0 then vp p f (n / p) (k + 1) else (k, n)
/-- How often p is in n (from k on), and what is left. -/
def V (p n k : Nat) : Nat × Nat := vp p n n k

def pr (k : Nat) : Nat := match k with | 0 => 2 | 1 => 3 | 2 => 5 | _ => 7
theorem pr_ge (k : Nat) : 2 ≤ pr k := by unfold pr; split <;> omega
end Go.Proofs.YtapjekpjekdlkaaGreatDoor
