/-
  All texts of the shelf are read, and right.
-/
import Derived.Test.YtiflcnlnlkegaaaGreatJTc
import Derived.Test.YtiflcnlnlkegaaaGreatJTb
import Derived.Test.YtiflcnlnlkegaaaGreatLTelRAckermann
import Derived.Test.YtiflcnlnlkegaaaGreatLTelRAdler
import Derived.Test.YtiflcnlnlkegaaaGreatLTelRAliquot
import Derived.Test.YtiflcnlnlkegaaaGreatLTelRBase64
import Derived.Test.YtiflcnlnlkegaaaGreatLTelRBinary
import Derived.Test.YtiflcnlnlkegaaaGreatLTelRCat
import Derived.Test.YtiflcnlnlkegaaaGreatLTelRCollatz
import Derived.Test.YtiflcnlnlkegaaaGreatLTelRCount
import Derived.Test.YtiflcnlnlkegaaaGreatLTelRCrc
import Derived.Test.YtiflcnlnlkegaaaGreatLTelRDigits
import Derived.Test.YtiflcnlnlkegaaaGreatLTelRFactorial
import Derived.Test.YtiflcnlnlkegaaaGreatLTelRFibonacci
import Derived.Test.YtiflcnlnlkegaaaGreatLTelRGcd
import Derived.Test.YtiflcnlnlkegaaaGreatLTelRHanoi
import Derived.Test.YtiflcnlnlkegaaaGreatLTelRHex
import Derived.Test.YtiflcnlnlkegaaaGreatLTelRLcm
import Derived.Test.YtiflcnlnlkegaaaGreatLTelRLuhn
import Derived.Test.YtiflcnlnlkegaaaGreatLTelRMirror
import Derived.Test.YtiflcnlnlkegaaaGreatLTelRModpow
import Derived.Test.YtiflcnlnlkegaaaGreatLTelROnes
import Derived.Test.YtiflcnlnlkegaaaGreatLTelRPower
import Derived.Test.YtiflcnlnlkegaaaGreatLTelRPrimes
import Derived.Test.YtiflcnlnlkegaaaGreatLTelRQueens
import Derived.Test.YtiflcnlnlkegaaaGreatLTelRReverse
import Derived.Test.YtiflcnlnlkegaaaGreatLTelRRoot
import Derived.Test.YtiflcnlnlkegaaaGreatLTelRRot13
import Derived.Test.YtiflcnlnlkegaaaGreatLTelRSort
import Derived.Test.YtiflcnlnlkegaaaGreatLTelRSum
import Derived.Test.YtiflcnlnlkegaaaGreatLTelRUpper
import Derived.Test.YtiflcnlnlkegaaaGreatLTelRWords
namespace Go.Proofs.YtiflcnlnlkegaaaGreat
theorem tel_all : ∀ x ∈ tabT, ReadsOK 9 10 x.2.2.1 x.2.2.2 := by
  unfold tabT
  exact List.forall_mem_cons.2 ⟨ackermann_ok, List.forall_mem_cons.2 ⟨adler_ok, List.forall_mem_cons.2 ⟨aliquot_ok, List.forall_mem_cons.2 ⟨base64_ok, List.forall_mem_cons.2 ⟨binary_ok, List.forall_mem_cons.2 ⟨cat_ok, List.forall_mem_cons.2 ⟨collatz_ok, List.forall_mem_cons.2 ⟨count_ok, List.forall_mem_cons.2 ⟨crc_ok, List.forall_mem_cons.2 ⟨digits_ok, List.forall_mem_cons.2 ⟨factorial_ok, List.forall_mem_cons.2 ⟨fibonacci_ok, List.forall_mem_cons.2 ⟨gcd_ok, List.forall_mem_cons.2 ⟨hanoi_ok, List.forall_mem_cons.2 ⟨hex_ok, List.forall_mem_cons.2 ⟨lcm_ok, List.forall_mem_cons.2 ⟨luhn_ok, List.forall_mem_cons.2 ⟨mirror_ok, List.forall_mem_cons.2 ⟨modpow_ok, List.forall_mem_cons.2 ⟨ones_ok, List.forall_mem_cons.2 ⟨power_ok, List.forall_mem_cons.2 ⟨primes_ok, List.forall_mem_cons.2 ⟨queens_ok, List.forall_mem_cons.2 ⟨reverse_ok, List.forall_mem_cons.2 ⟨root_ok, List.forall_mem_cons.2 ⟨rot13_ok, List.forall_mem_cons.2 ⟨sort_ok, List.forall_mem_cons.2 ⟨sum_ok, List.forall_mem_cons.2 ⟨upper_ok, List.forall_mem_cons.2 ⟨words_ok, (fun x h => absurd h List.not_mem_nil)⟩⟩⟩⟩⟩⟩⟩⟩⟩⟩⟩⟩⟩⟩⟩⟩⟩⟩⟩⟩⟩⟩⟩⟩⟩⟩⟩⟩⟩⟩
end Go.Proofs.YtiflcnlnlkegaaaGreat
