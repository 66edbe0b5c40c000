/- Strings as lists of bytes. No condition. -/
import Derived.Test.YtaifmmeghninhaaKb
namespace Go.Proofs.Ytaifmmeghninhaa.Pf
open Go Go.RowKit Go.Proofs Go.Proofs.Ytaifmmeghninhaa.Mw Go.Proofs.Ytaifmmeghninhaa.Sx
set_option linter.unusedVariables false
set_option linter.unusedSimpArgs false
set_option maxRecDepth 4000
theorem toList_loop (b : ByteArray) : ∀ (k i : Nat) (r : List UInt8), b.size - i = k → ByteArray.toList.loop b i r = r.reverse ++ b.data.toList.drop i
  | 0, i, r, h => by
    have hl : b.data.toList.length = b.size := by rw [Array.length_toList]; rfl
    unfold ByteArray.toList.loop
    rw [if_neg (by omega), List.drop_eq_nil_of_le (by omega), List.append_nil]
  | k + 1, i, r, h => by
    have hl : b.data.toList.length = b.size := by rw [Array.length_toList]; rfl
    unfold ByteArray.toList.loop
    rw [if_pos (by omega), toList_loop b k (i + 1) _ (by omega)]
    have hi : i < b.data.toList.length := by omega
    rw [List.drop_eq_getElem_cons hi, List.reverse_cons, List.append_assoc]
    congr 1
    show [b.get! i] ++ _ = _
    have e : b.get! i = b.data.toList[i] := by
      show b.data[i]! = _
      rw [getElem!_pos b.data i (by rw [← Array.length_toList]; exact hi)]
      rfl
    rw [e]; rfl
theorem bstr_list (l : List UInt8) : (bstr l).toList = l := by
  unfold ByteArray.toList
  rw [toList_loop _ _ 0 [] rfl]
  rfl
theorem beq_dec (a b : List UInt8) : (a == b) = decide (a = b) := by rw [Bool.eq_iff_iff]; simp
theorem bstr_eql (a b : List UInt8) : binD .eql (.str (bstr a)) (.str (bstr b)) = some (.bool (decide (a = b))) := by
  rw [eqsStr, bstr_list, bstr_list, beq_dec]
theorem bstr_neq (a b : List UInt8) : binD .neq (.str (bstr a)) (.str (bstr b)) = some (.bool (!decide (a = b))) := by
  rw [nesStr, bstr_list, bstr_list, beq_dec]
theorem bstr_size (l : List UInt8) : (bstr l).size = l.length := by show l.toArray.size = _; simp
theorem bstr_slen (l : List UInt8) : slenD (.str (bstr l)) = some (.int .i64 l.length) := by
  simp [slenD, lift1, DV.v1, slenV, ofV, of0, bstr_size]
theorem bstr_sidx {l : List UInt8} {i : Nat} {k : IntKind} (h : i < l.length) : sidxD (.str (bstr l)) (.int k i) = some (.int .u8 l[i].toNat) := by
  have e : (bstr l)[i]? = some l[i] := by
    show l.toArray[i]? = _
    simp [h]
  simp [sidxD, lift2, DV.v1, sidxV, e, ofV, of0]
theorem bstr_lo {l : List UInt8} {i : Nat} {k : IntKind} (h : i ≤ l.length) : sslcD (.str (bstr l)) (.tup [.int k i]) (.tup []) = some (.str (bstr (l.drop i))) := by
  have hs := bstr_size l
  have e : (bstr l).extract i l.length = bstr (l.drop i) := by
    apply ByteArray.ext
    rw [ByteArray.data_extract]
    simp [bstr]
    rw [List.take_of_length_le (by simp)]
  simp [sslcD, lift3, DV.v1, DV.v0, sslcV, bound?, slcB, hs, h, ofV, of0, e]
theorem bstr_hi {l : List UInt8} {i : Nat} {k : IntKind} (h : i ≤ l.length) : sslcD (.str (bstr l)) (.tup []) (.tup [.int k i]) = some (.str (bstr (l.take i))) := by
  have hs := bstr_size l
  have e : (bstr l).extract 0 i = bstr (l.take i) := by
    apply ByteArray.ext
    rw [ByteArray.data_extract]
    simp [bstr]
  simp [sslcD, lift3, DV.v1, DV.v0, sslcV, bound?, slcB, hs, h, ofV, of0, e]
theorem bstr_add {a b : List UInt8} (h : a.length + b.length ≤ 9223372036854775807) : binD .add (.str (bstr a)) (.str (bstr b)) = some (.str (bstr (a ++ b))) := by
  have e : bstr a ++ bstr b = bstr (a ++ b) := by
    apply ByteArray.ext
    rw [ByteArray.data_append]
    simp [bstr]
  simp [binD, lift2, DV.v1, e]
  refine ⟨.string (bstr (a ++ b)), ?_, rfl⟩
  have hm : ¬ ((((bstr a).size + (bstr b).size : Nat) : Int) > IntKind.i64.max) := by rw [bstr_size, bstr_size, show IntKind.i64.max = 9223372036854775807 from by decide]; omega
  unfold binV
  simp only [hm, if_false, e]
end Go.Proofs.Ytaifmmeghninhaa.Pf
