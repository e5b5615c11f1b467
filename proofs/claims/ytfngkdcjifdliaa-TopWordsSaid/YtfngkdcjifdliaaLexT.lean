/- The two texts, as words. -/
import Derived.Test.YtfngkdcjifdliaaScan
import Derived.Test.YtfngkdcjifdliaaSetTx
import Derived.Test.YtfngkdcjifdliaaPrint
import Derived.Test.YtfngkdcjifdliaaQuote
import Derived.Test.YtfngkdcjifdliaaOf
set_option linter.unusedVariables false
set_option linter.unusedSimpArgs false
set_option linter.unnecessarySimpa false
set_option linter.deprecated false
namespace Go.Proofs.Ytfngkdcjifdliaa
open Go.RowKit

theorem setT_size (s : St) : (setT (runsOf s)).length ≤ 2400 := by
  have h := flat_len (runsOf s)
  have h2 : (runsOf s).length ≤ 256 := runs_lt s 256 (Nat.le_refl _)
  unfold setT
  rw [List.length_append, List.length_cons, List.length_cons, List.length_nil]
  omega
theorem qBytes_ge (l : List UInt8) : l.length ≤ (qBytes l).length := by
  induction l with
  | nil => simp
  | cons c l ih =>
    have e : qBytes (c :: l) = qByte c ++ qBytes l := by simp [qBytes]
    rw [e, List.length_append, List.length_cons]
    have h : 1 ≤ (qByte c).length := by
      unfold qByte
      repeat' split
      all_goals simp
    omega
/-- A set's text and a quoted text. -/
theorem lex_law (text : ByteArray) (s : St) (b : List UInt8) (ht : text.data.toList = setT (runsOf s) ++ quoteL b) : LexH text 0 [.set (items (runsOf s)), .txt b] := by
  rw [setT_runs] at ht
  unfold quoteL at ht
  have hri := runs_items s
  have hq := qBytes_ge b
  generalize hI : (items (runsOf s)).flatMap itT = I at ht
  generalize hQ : qBytes b = Q at ht hq
  have hsz : text.size = I.length + 2 + (Q.length + 2) := by
    rw [← size_len text, ht]
    simp
    omega
  refine ⟨I.length + 2, 0, ⟨by omega, by omega, hri, by rw [hI]; omega, 34 :: Q ++ [34], ?_⟩, rfl, by omega, ⟨text.size, 0, ⟨by omega, by omega, by rw [hQ]; exact hq, by rw [hQ]; omega, [], ?_⟩, rfl, by omega, rfl⟩⟩
  · rw [hI, List.drop_zero, ht]
    simp
  · rw [hQ, ht, Nat.add_zero]
    have e : 91 :: (I ++ [93]) ++ (34 :: Q ++ [34]) = (91 :: (I ++ [93])) ++ (34 :: (Q ++ [34])) := by simp
    rw [e, List.drop_append, List.drop_of_length_le (by simp)]
    simp
def aliveT : ByteArray := ⟨#[99, 102, 32, 69, 46, 65, 32, 91, 97, 45, 99, 93]⟩
theorem lex_alive : LexH aliveT 0 [.small 99 2, .great 69 1, .dot, .great 65 1, .set [(97, 99)]] := by
  refine ⟨2, 1, ⟨by decide, by decide, by decide, by decide, by decide, by decide, [102, 32, 69, 46, 65, 32, 91, 97, 45, 99, 93], by decide, by decide⟩, by decide, by decide, ?_⟩
  refine ⟨4, 0, ⟨by decide, by decide, by decide, by decide, by decide, [46, 65, 32, 91, 97, 45, 99, 93], by decide, by decide⟩, by decide, by decide, ?_⟩
  refine ⟨5, 0, ⟨by decide, by decide, by decide, [65, 32, 91, 97, 45, 99, 93], by decide⟩, by decide, by decide, ?_⟩
  refine ⟨6, 1, ⟨by decide, by decide, by decide, by decide, by decide, [32, 91, 97, 45, 99, 93], by decide, by decide⟩, by decide, by decide, ?_⟩
  refine ⟨12, 0, ⟨by decide, by decide, by intro r hr; simp at hr; subst hr; exact ⟨by decide, by decide⟩, by decide, [], by decide⟩, by decide, by decide, rfl⟩
theorem set_alive : setOf [(97, 99)] zS = [97, 98, 99].foldl addB zS := by rfl
end Go.Proofs.Ytfngkdcjifdliaa
