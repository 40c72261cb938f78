import Derived.Test.YtkecmndppllijaaDoorL01AA
set_option linter.unusedVariables false
set_option linter.unusedSimpArgs false
set_option maxRecDepth 100000
namespace Go.L01
open Go Go.Abs Go.Proofs
theorem text_ok (t r : ByteArray) (m : Int) (hv : V t = true) (hm : (t.size : Int) ≤ m) (hs : t.size ≤ 140737488355328) (hr : r.size ≤ 1407374883553280) :
    FOk Tryd.prog 20 [.str (bS (vbl t.size ++ lB t) ++ r), .int .i64 m] [] (.tuple [.str t, .int .i64 (((vbl t.size).length + t.size : Nat) : Int), .int .i64 0]) [] := by
  have h9 := vbl_len9 (n := t.size) (by omega)
  have hrd : rdV (lB (bS (vbl t.size ++ lB t) ++ r)) = (t.size, (vbl t.size).length, 0) := by
    rw [lB_append, lB_bS, List.append_assoc]
    exact rdV_vbl (by omega) _
  have hsz : (bS (vbl t.size ++ lB t) ++ r).size = (vbl t.size).length + t.size + r.size := by rw [ByteArray.size_append, bS_size, List.length_append, lB_length]
  have he : (bS (vbl t.size ++ lB t) ++ r).extract (vbl t.size).length ((vbl t.size).length + t.size) = t := by
    apply lB_inj
    rw [lB_extract, lB_append, lB_bS, List.append_assoc, List.drop_left, Nat.add_sub_cancel_left, List.take_left' (lB_length t)]
  refine FOk.wp (txt_wp _ m ?_)
  unfold txt_T
  rw [hrd, hsz]
  have w2 : IntKind.wrap .i64 (((vbl t.size).length : Int) + (t.size : Int)) = (((vbl t.size).length + t.size : Nat) : Int) := by rw [wrapS (by omega) (by omega)]; omega
  have w1 : IntKind.wrap .i64 ((((vbl t.size).length + t.size + r.size : Nat) : Int) - ((vbl t.size).length : Int)) = ((t.size + r.size : Nat) : Int) := by rw [wrapS (by omega) (by omega)]; omega
  simp only [w1, w2, Int.toNat_natCast, he, hv]
  refine ⟨fun c => absurd (of_decide_eq_true c) (by omega), fun _ => ⟨fun c => absurd c (by simp), fun _ => ⟨fun c => absurd (of_decide_eq_true c) (by omega), fun _ => ⟨fun c => absurd (of_decide_eq_true c) (by omega), fun _ => ⟨decide_eq_true (by omega), fun c => absurd c (by simp), fun _ => ⟨trivial, trivial⟩⟩⟩⟩⟩⟩
end Go.L01
