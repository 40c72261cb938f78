import Derived.Test.YtpncnfhfjegibaaDoorProg
import Derived.Test.YtpncnfhfjegibaaDoorAbsH
section
set_option linter.unusedVariables false
set_option maxRecDepth 100000
namespace Go.LM
open Go Go.Abs Go.Proofs
instance : Glob := noGlob

theorem followed : Tryd.prog.follows .mixedOrders = true := by kernel_rfl
abbrev tw : ByteArray := ⟨#[119]⟩
abbrev tc : ByteArray := ⟨#[99]⟩
abbrev tv : ByteArray := ⟨#[118]⟩
abbrev td : ByteArray := ⟨#[100]⟩
abbrev tann : ByteArray := ⟨#[97, 110, 110]⟩
abbrev tbob : ByteArray := ⟨#[98, 111, 98]⟩
abbrev t0 : ByteArray := ⟨#[]⟩
abbrev op (k : Int) (s c u x ts to : ByteArray) (f m : Int) : AVal := .agg [.int .i64 k, .str s, .str c, .str u, .str x, .str ts, .str to, .int .i64 f, .int .i64 m]
abbrev ky (s c : ByteArray) : AVal := .agg [.str s, .str c]
abbrev nilps : AVal := .fsl true 2 [] none
abbrev S3 : AState := [.rows false 2 [[.map 1, .map 2]], .mp false [], .mp true []]
abbrev S5 (s c : ByteArray) (off mem : List (AVal × AVal)) : AState := [.rows false 2 [[.map 1, .map 2]], .mp false [(ky s c, .ptr 3 2 0 0)], .mp true off, .rows false 2 [[.map 4, nilps]], .mp true mem]
abbrev S6 (s c : ByteArray) (off mem : List (AVal × AVal)) (b : Bool) (ps : List (List AVal)) : AState := [.rows false 2 [[.map 1, .map 2]], .mp false [(ky s c, .ptr 3 2 0 0)], .mp true off, .rows false 2 [[.map 4, .slc b 5 2 0 ps.length none]], .mp true mem, .rows true 2 ps]
abbrev W5 (s c : ByteArray) (off mem : List (AVal × AVal)) : AState := [.rows false 2 [[.map 2, .map 3]], .rows false 2 [[.map 4, nilps]], .mp false [(ky s c, .ptr 1 2 0 0)], .mp true off, .mp true mem]
abbrev W6 (s c : ByteArray) (off mem : List (AVal × AVal)) (b : Bool) (ps : List (List AVal)) : AState := [.rows false 2 [[.map 2, .map 3]], .rows false 2 [[.map 4, .slc b 5 2 0 ps.length none]], .mp false [(ky s c, .ptr 1 2 0 0)], .mp true off, .mp true mem, .rows true 2 ps]
abbrev rep (e a : Int) (v : AVal) : AVal := .agg [.int .i64 e, .int .i64 a, v]
abbrev mA : List (AVal × AVal) := [(.str tann, .tt true)]
abbrev mAB : List (AVal × AVal) := [(.str tann, .tt true), (.str tbob, .tt true)]
end Go.LM
end

section
set_option linter.unusedVariables false
set_option maxRecDepth 100000
namespace Go.LM
open Go Go.Abs Go.Proofs
theorem odd_1 (c : Int)
    (h1 : decide (c < 48) = true)
    (h2 : decide (c < 97) = true) :
    FOk Tryd.prog 48 ([AVal.int IntKind.i32 c]) ([]) (AVal.bool (c != 45)) ([]) :=
  (evalF_ok followed Tryd.func48 (by kernel_rfl) (show evalF Tryd.prog Tryd.f48 ([AVal.int IntKind.i32 c]) ([]) ([Dec.br true, Dec.br true]) = .ok (FRes.mk (AVal.bool (c != 45)) ([]) ((decide (c < 48) = true) :: ((decide (c < 97) = true) :: []))) by kernel_rfl) (allP_of ⟨h1, ⟨h2, trivial⟩⟩)).move ([]) (by kernel_rfl) (by kernel_rfl) (by kernel_rfl)

theorem odd_2 (c : Int)
    (h1 : decide (c > 57) = true)
    (h2 : decide (c < 48) = false)
    (h3 : decide (c < 97) = true) :
    FOk Tryd.prog 48 ([AVal.int IntKind.i32 c]) ([]) (AVal.bool (c != 45)) ([]) :=
  (evalF_ok followed Tryd.func48 (by kernel_rfl) (show evalF Tryd.prog Tryd.f48 ([AVal.int IntKind.i32 c]) ([]) ([Dec.br true, Dec.br false, Dec.br true]) = .ok (FRes.mk (AVal.bool (c != 45)) ([]) ((decide (c > 57) = true) :: ((decide (c < 48) = false) :: ((decide (c < 97) = true) :: [])))) by kernel_rfl) (allP_of ⟨h1, ⟨h2, ⟨h3, trivial⟩⟩⟩)).move ([]) (by kernel_rfl) (by kernel_rfl) (by kernel_rfl)

theorem odd_3 (c : Int)
    (h1 : decide (c > 57) = false)
    (h2 : decide (c < 48) = false)
    (h3 : decide (c < 97) = true) :
    FOk Tryd.prog 48 ([AVal.int IntKind.i32 c]) ([]) (AVal.bool false) ([]) :=
  (evalF_ok followed Tryd.func48 (by kernel_rfl) (show evalF Tryd.prog Tryd.f48 ([AVal.int IntKind.i32 c]) ([]) ([Dec.br true, Dec.br false, Dec.br false]) = .ok (FRes.mk (AVal.bool false) ([]) ((decide (c > 57) = false) :: ((decide (c < 48) = false) :: ((decide (c < 97) = true) :: [])))) by kernel_rfl) (allP_of ⟨h1, ⟨h2, ⟨h3, trivial⟩⟩⟩)).move ([]) (by kernel_rfl) (by kernel_rfl) (by kernel_rfl)

theorem odd_4 (c : Int)
    (h1 : decide (c < 48) = true)
    (h2 : decide (c > 122) = true)
    (h3 : decide (c < 97) = false) :
    FOk Tryd.prog 48 ([AVal.int IntKind.i32 c]) ([]) (AVal.bool (c != 45)) ([]) :=
  (evalF_ok followed Tryd.func48 (by kernel_rfl) (show evalF Tryd.prog Tryd.f48 ([AVal.int IntKind.i32 c]) ([]) ([Dec.br false, Dec.br true, Dec.br true]) = .ok (FRes.mk (AVal.bool (c != 45)) ([]) ((decide (c < 48) = true) :: ((decide (c > 122) = true) :: ((decide (c < 97) = false) :: [])))) by kernel_rfl) (allP_of ⟨h1, ⟨h2, ⟨h3, trivial⟩⟩⟩)).move ([]) (by kernel_rfl) (by kernel_rfl) (by kernel_rfl)

theorem odd_5 (c : Int)
    (h1 : decide (c > 57) = true)
    (h2 : decide (c < 48) = false)
    (h3 : decide (c > 122) = true)
    (h4 : decide (c < 97) = false) :
    FOk Tryd.prog 48 ([AVal.int IntKind.i32 c]) ([]) (AVal.bool (c != 45)) ([]) :=
  (evalF_ok followed Tryd.func48 (by kernel_rfl) (show evalF Tryd.prog Tryd.f48 ([AVal.int IntKind.i32 c]) ([]) ([Dec.br false, Dec.br true, Dec.br false, Dec.br true]) = .ok (FRes.mk (AVal.bool (c != 45)) ([]) ((decide (c > 57) = true) :: ((decide (c < 48) = false) :: ((decide (c > 122) = true) :: ((decide (c < 97) = false) :: []))))) by kernel_rfl) (allP_of ⟨h1, ⟨h2, ⟨h3, ⟨h4, trivial⟩⟩⟩⟩)).move ([]) (by kernel_rfl) (by kernel_rfl) (by kernel_rfl)

theorem odd_6 (c : Int)
    (h1 : decide (c > 57) = false)
    (h2 : decide (c < 48) = false)
    (h3 : decide (c > 122) = true)
    (h4 : decide (c < 97) = false) :
    FOk Tryd.prog 48 ([AVal.int IntKind.i32 c]) ([]) (AVal.bool false) ([]) :=
  (evalF_ok followed Tryd.func48 (by kernel_rfl) (show evalF Tryd.prog Tryd.f48 ([AVal.int IntKind.i32 c]) ([]) ([Dec.br false, Dec.br true, Dec.br false, Dec.br false]) = .ok (FRes.mk (AVal.bool false) ([]) ((decide (c > 57) = false) :: ((decide (c < 48) = false) :: ((decide (c > 122) = true) :: ((decide (c < 97) = false) :: []))))) by kernel_rfl) (allP_of ⟨h1, ⟨h2, ⟨h3, ⟨h4, trivial⟩⟩⟩⟩)).move ([]) (by kernel_rfl) (by kernel_rfl) (by kernel_rfl)

theorem odd_7 (c : Int)
    (h1 : decide (c > 122) = false)
    (h2 : decide (c < 97) = false) :
    FOk Tryd.prog 48 ([AVal.int IntKind.i32 c]) ([]) (AVal.bool false) ([]) :=
  (evalF_ok followed Tryd.func48 (by kernel_rfl) (show evalF Tryd.prog Tryd.f48 ([AVal.int IntKind.i32 c]) ([]) ([Dec.br false, Dec.br false]) = .ok (FRes.mk (AVal.bool false) ([]) ((decide (c > 122) = false) :: ((decide (c < 97) = false) :: []))) by kernel_rfl) (allP_of ⟨h1, ⟨h2, trivial⟩⟩)).move ([]) (by kernel_rfl) (by kernel_rfl) (by kernel_rfl)

def odd_T (c : Int) (Q : AVal → AState → Prop) : Prop := ((decide (c < 97) = true) → ((decide (c < 48) = true) → Q (AVal.bool (c != 45)) ([])) ∧ ((decide (c < 48) = false) → ((decide (c > 57) = true) → Q (AVal.bool (c != 45)) ([])) ∧ ((decide (c > 57) = false) → Q (AVal.bool false) ([])))) ∧ ((decide (c < 97) = false) → ((decide (c > 122) = true) → ((decide (c < 48) = true) → Q (AVal.bool (c != 45)) ([])) ∧ ((decide (c < 48) = false) → ((decide (c > 57) = true) → Q (AVal.bool (c != 45)) ([])) ∧ ((decide (c > 57) = false) → Q (AVal.bool false) ([])))) ∧ ((decide (c > 122) = false) → Q (AVal.bool false) ([])))
theorem odd_wp (c : Int) {Q : AVal → AState → Prop} (h : odd_T c Q) : ∃ r σ', FOk Tryd.prog 48 ([AVal.int IntKind.i32 c]) ([]) r σ' ∧ Q r σ' :=
  brE (fun (c0 : decide (c < 97) = true) => brE (fun (c1 : decide (c < 48) = true) => ⟨_, _, odd_1 c (c1) (c0), ((h.1 c0).1 c1)⟩) (fun (c1 : decide (c < 48) = false) => brE (fun (c2 : decide (c > 57) = true) => ⟨_, _, odd_2 c (c2) (c1) (c0), (((h.1 c0).2 c1).1 c2)⟩) (fun (c2 : decide (c > 57) = false) => ⟨_, _, odd_3 c (c2) (c1) (c0), (((h.1 c0).2 c1).2 c2)⟩))) (fun (c0 : decide (c < 97) = false) => brE (fun (c3 : decide (c > 122) = true) => brE (fun (c4 : decide (c < 48) = true) => ⟨_, _, odd_4 c (c4) (c3) (c0), (((h.2 c0).1 c3).1 c4)⟩) (fun (c4 : decide (c < 48) = false) => brE (fun (c5 : decide (c > 57) = true) => ⟨_, _, odd_5 c (c5) (c4) (c3) (c0), ((((h.2 c0).1 c3).2 c4).1 c5)⟩) (fun (c5 : decide (c > 57) = false) => ⟨_, _, odd_6 c (c5) (c4) (c3) (c0), ((((h.2 c0).1 c3).2 c4).2 c5)⟩))) (fun (c3 : decide (c > 122) = false) => ⟨_, _, odd_7 c (c3) (c0), ((h.2 c0).2 c3)⟩))


theorem ixw_1
    (h1 : FOk Tryd.prog 48 [AVal.int IntKind.i32 119] [] (AVal.bool false) []) :
    FOk Tryd.prog 78 ([AVal.str (ByteArray.mk #[119]), AVal.func 48 [], AVal.bool true]) ([]) (AVal.int IntKind.i64 (-1)) ([]) :=
  (evalF_ok followed Tryd.func78 (by kernel_rfl) (show evalF Tryd.prog Tryd.f78 ([AVal.str (ByteArray.mk #[119]), AVal.func 48 [], AVal.bool true]) ([]) ([Dec.unroll 2, Dec.use [] [AVal.int IntKind.i32 119] [] (AVal.bool false) [], Dec.br false]) = .ok (FRes.mk (AVal.int IntKind.i64 (-1)) ([AObj.siter []]) ((false = false) :: ((Owed.use (owed Tryd.prog 0) 48 [] [AVal.int IntKind.i32 119] [AObj.siter []] [AVal.int IntKind.i32 119] [] (AVal.bool false) []) :: []))) by kernel_rfl) (allP_of ⟨rfl, ⟨⟨h1, rfl, rfl, rfl⟩, trivial⟩⟩)).move ([]) (by kernel_rfl) (by kernel_rfl) (by kernel_rfl)

def ixw_T (Q : AVal → AState → Prop) : Prop := (FOk Tryd.prog 48 [AVal.int IntKind.i32 119] [] (AVal.bool false) []) ∧ Q (AVal.int IntKind.i64 (-1)) ([])
theorem ixw_wp {Q : AVal → AState → Prop} (h : ixw_T Q) : ∃ r σ', FOk Tryd.prog 78 ([AVal.str (ByteArray.mk #[119]), AVal.func 48 [], AVal.bool true]) ([]) r σ' ∧ Q r σ' :=
  ⟨_, _, ixw_1 (h.1), h.2⟩


theorem ixc_1
    (h1 : FOk Tryd.prog 48 [AVal.int IntKind.i32 99] [] (AVal.bool false) []) :
    FOk Tryd.prog 78 ([AVal.str (ByteArray.mk #[99]), AVal.func 48 [], AVal.bool true]) ([]) (AVal.int IntKind.i64 (-1)) ([]) :=
  (evalF_ok followed Tryd.func78 (by kernel_rfl) (show evalF Tryd.prog Tryd.f78 ([AVal.str (ByteArray.mk #[99]), AVal.func 48 [], AVal.bool true]) ([]) ([Dec.unroll 2, Dec.use [] [AVal.int IntKind.i32 99] [] (AVal.bool false) [], Dec.br false]) = .ok (FRes.mk (AVal.int IntKind.i64 (-1)) ([AObj.siter []]) ((false = false) :: ((Owed.use (owed Tryd.prog 0) 48 [] [AVal.int IntKind.i32 99] [AObj.siter []] [AVal.int IntKind.i32 99] [] (AVal.bool false) []) :: []))) by kernel_rfl) (allP_of ⟨rfl, ⟨⟨h1, rfl, rfl, rfl⟩, trivial⟩⟩)).move ([]) (by kernel_rfl) (by kernel_rfl) (by kernel_rfl)

def ixc_T (Q : AVal → AState → Prop) : Prop := (FOk Tryd.prog 48 [AVal.int IntKind.i32 99] [] (AVal.bool false) []) ∧ Q (AVal.int IntKind.i64 (-1)) ([])
theorem ixc_wp {Q : AVal → AState → Prop} (h : ixc_T Q) : ∃ r σ', FOk Tryd.prog 78 ([AVal.str (ByteArray.mk #[99]), AVal.func 48 [], AVal.bool true]) ([]) r σ' ∧ Q r σ' :=
  ⟨_, _, ixc_1 (h.1), h.2⟩


theorem ixv_1
    (h1 : FOk Tryd.prog 48 [AVal.int IntKind.i32 118] [] (AVal.bool false) []) :
    FOk Tryd.prog 78 ([AVal.str (ByteArray.mk #[118]), AVal.func 48 [], AVal.bool true]) ([]) (AVal.int IntKind.i64 (-1)) ([]) :=
  (evalF_ok followed Tryd.func78 (by kernel_rfl) (show evalF Tryd.prog Tryd.f78 ([AVal.str (ByteArray.mk #[118]), AVal.func 48 [], AVal.bool true]) ([]) ([Dec.unroll 2, Dec.use [] [AVal.int IntKind.i32 118] [] (AVal.bool false) [], Dec.br false]) = .ok (FRes.mk (AVal.int IntKind.i64 (-1)) ([AObj.siter []]) ((false = false) :: ((Owed.use (owed Tryd.prog 0) 48 [] [AVal.int IntKind.i32 118] [AObj.siter []] [AVal.int IntKind.i32 118] [] (AVal.bool false) []) :: []))) by kernel_rfl) (allP_of ⟨rfl, ⟨⟨h1, rfl, rfl, rfl⟩, trivial⟩⟩)).move ([]) (by kernel_rfl) (by kernel_rfl) (by kernel_rfl)

def ixv_T (Q : AVal → AState → Prop) : Prop := (FOk Tryd.prog 48 [AVal.int IntKind.i32 118] [] (AVal.bool false) []) ∧ Q (AVal.int IntKind.i64 (-1)) ([])
theorem ixv_wp {Q : AVal → AState → Prop} (h : ixv_T Q) : ∃ r σ', FOk Tryd.prog 78 ([AVal.str (ByteArray.mk #[118]), AVal.func 48 [], AVal.bool true]) ([]) r σ' ∧ Q r σ' :=
  ⟨_, _, ixv_1 (h.1), h.2⟩


theorem ixd_1
    (h1 : FOk Tryd.prog 48 [AVal.int IntKind.i32 100] [] (AVal.bool false) []) :
    FOk Tryd.prog 78 ([AVal.str (ByteArray.mk #[100]), AVal.func 48 [], AVal.bool true]) ([]) (AVal.int IntKind.i64 (-1)) ([]) :=
  (evalF_ok followed Tryd.func78 (by kernel_rfl) (show evalF Tryd.prog Tryd.f78 ([AVal.str (ByteArray.mk #[100]), AVal.func 48 [], AVal.bool true]) ([]) ([Dec.unroll 2, Dec.use [] [AVal.int IntKind.i32 100] [] (AVal.bool false) [], Dec.br false]) = .ok (FRes.mk (AVal.int IntKind.i64 (-1)) ([AObj.siter []]) ((false = false) :: ((Owed.use (owed Tryd.prog 0) 48 [] [AVal.int IntKind.i32 100] [AObj.siter []] [AVal.int IntKind.i32 100] [] (AVal.bool false) []) :: []))) by kernel_rfl) (allP_of ⟨rfl, ⟨⟨h1, rfl, rfl, rfl⟩, trivial⟩⟩)).move ([]) (by kernel_rfl) (by kernel_rfl) (by kernel_rfl)

def ixd_T (Q : AVal → AState → Prop) : Prop := (FOk Tryd.prog 48 [AVal.int IntKind.i32 100] [] (AVal.bool false) []) ∧ Q (AVal.int IntKind.i64 (-1)) ([])
theorem ixd_wp {Q : AVal → AState → Prop} (h : ixd_T Q) : ∃ r σ', FOk Tryd.prog 78 ([AVal.str (ByteArray.mk #[100]), AVal.func 48 [], AVal.bool true]) ([]) r σ' ∧ Q r σ' :=
  ⟨_, _, ixd_1 (h.1), h.2⟩


theorem ixa_1
    (h1 : FOk Tryd.prog 48 [AVal.int IntKind.i32 110] [] (AVal.bool false) [])
    (h2 : FOk Tryd.prog 48 [AVal.int IntKind.i32 97] [] (AVal.bool false) []) :
    FOk Tryd.prog 78 ([AVal.str (ByteArray.mk #[97, 110, 110]), AVal.func 48 [], AVal.bool true]) ([]) (AVal.int IntKind.i64 (-1)) ([]) :=
  (evalF_ok followed Tryd.func78 (by kernel_rfl) (show evalF Tryd.prog Tryd.f78 ([AVal.str (ByteArray.mk #[97, 110, 110]), AVal.func 48 [], AVal.bool true]) ([]) ([Dec.unroll 4, Dec.use [] [AVal.int IntKind.i32 97] [] (AVal.bool false) [], Dec.br false, Dec.use [] [AVal.int IntKind.i32 110] [] (AVal.bool false) [], Dec.br false, Dec.use [] [AVal.int IntKind.i32 110] [] (AVal.bool false) [], Dec.br false]) = .ok (FRes.mk (AVal.int IntKind.i64 (-1)) ([AObj.siter []]) ((false = false) :: ((Owed.use (owed Tryd.prog 0) 48 [] [AVal.int IntKind.i32 110] [AObj.siter []] [AVal.int IntKind.i32 110] [] (AVal.bool false) []) :: ((false = false) :: ((Owed.use (owed Tryd.prog 0) 48 [] [AVal.int IntKind.i32 110] [AObj.siter [(2, 110)]] [AVal.int IntKind.i32 110] [] (AVal.bool false) []) :: ((false = false) :: ((Owed.use (owed Tryd.prog 0) 48 [] [AVal.int IntKind.i32 97] [AObj.siter [(1, 110), (2, 110)]] [AVal.int IntKind.i32 97] [] (AVal.bool false) []) :: []))))))) by kernel_rfl) (allP_of ⟨rfl, ⟨⟨h1, rfl, rfl, rfl⟩, ⟨rfl, ⟨⟨h1, rfl, rfl, rfl⟩, ⟨rfl, ⟨⟨h2, rfl, rfl, rfl⟩, trivial⟩⟩⟩⟩⟩⟩)).move ([]) (by kernel_rfl) (by kernel_rfl) (by kernel_rfl)

def ixa_T (Q : AVal → AState → Prop) : Prop := (FOk Tryd.prog 48 [AVal.int IntKind.i32 97] [] (AVal.bool false) []) ∧ (FOk Tryd.prog 48 [AVal.int IntKind.i32 110] [] (AVal.bool false) []) ∧ Q (AVal.int IntKind.i64 (-1)) ([])
theorem ixa_wp {Q : AVal → AState → Prop} (h : ixa_T Q) : ∃ r σ', FOk Tryd.prog 78 ([AVal.str (ByteArray.mk #[97, 110, 110]), AVal.func 48 [], AVal.bool true]) ([]) r σ' ∧ Q r σ' :=
  ⟨_, _, ixa_1 (h.2.1) (h.1), h.2.2⟩


theorem ixb_1
    (h1 : FOk Tryd.prog 48 [AVal.int IntKind.i32 98] [] (AVal.bool false) [])
    (h2 : FOk Tryd.prog 48 [AVal.int IntKind.i32 111] [] (AVal.bool false) []) :
    FOk Tryd.prog 78 ([AVal.str (ByteArray.mk #[98, 111, 98]), AVal.func 48 [], AVal.bool true]) ([]) (AVal.int IntKind.i64 (-1)) ([]) :=
  (evalF_ok followed Tryd.func78 (by kernel_rfl) (show evalF Tryd.prog Tryd.f78 ([AVal.str (ByteArray.mk #[98, 111, 98]), AVal.func 48 [], AVal.bool true]) ([]) ([Dec.unroll 4, Dec.use [] [AVal.int IntKind.i32 98] [] (AVal.bool false) [], Dec.br false, Dec.use [] [AVal.int IntKind.i32 111] [] (AVal.bool false) [], Dec.br false, Dec.use [] [AVal.int IntKind.i32 98] [] (AVal.bool false) [], Dec.br false]) = .ok (FRes.mk (AVal.int IntKind.i64 (-1)) ([AObj.siter []]) ((false = false) :: ((Owed.use (owed Tryd.prog 0) 48 [] [AVal.int IntKind.i32 98] [AObj.siter []] [AVal.int IntKind.i32 98] [] (AVal.bool false) []) :: ((false = false) :: ((Owed.use (owed Tryd.prog 0) 48 [] [AVal.int IntKind.i32 111] [AObj.siter [(2, 98)]] [AVal.int IntKind.i32 111] [] (AVal.bool false) []) :: ((false = false) :: ((Owed.use (owed Tryd.prog 0) 48 [] [AVal.int IntKind.i32 98] [AObj.siter [(1, 111), (2, 98)]] [AVal.int IntKind.i32 98] [] (AVal.bool false) []) :: []))))))) by kernel_rfl) (allP_of ⟨rfl, ⟨⟨h1, rfl, rfl, rfl⟩, ⟨rfl, ⟨⟨h2, rfl, rfl, rfl⟩, ⟨rfl, ⟨⟨h1, rfl, rfl, rfl⟩, trivial⟩⟩⟩⟩⟩⟩)).move ([]) (by kernel_rfl) (by kernel_rfl) (by kernel_rfl)

def ixb_T (Q : AVal → AState → Prop) : Prop := (FOk Tryd.prog 48 [AVal.int IntKind.i32 98] [] (AVal.bool false) []) ∧ (FOk Tryd.prog 48 [AVal.int IntKind.i32 111] [] (AVal.bool false) []) ∧ Q (AVal.int IntKind.i64 (-1)) ([])
theorem ixb_wp {Q : AVal → AState → Prop} (h : ixb_T Q) : ∃ r σ', FOk Tryd.prog 78 ([AVal.str (ByteArray.mk #[98, 111, 98]), AVal.func 48 [], AVal.bool true]) ([]) r σ' ∧ Q r σ' :=
  ⟨_, _, ixb_1 (h.1) (h.2.1), h.2.2⟩


theorem idx_1 (s : ByteArray) (n : Int)
    (h1 : FOk Tryd.prog 78 [AVal.str s, AVal.func 48 [], AVal.bool true] [] (AVal.int IntKind.i64 n) []) :
    FOk Tryd.prog 69 ([AVal.str s, AVal.func 48 []]) ([]) (AVal.int IntKind.i64 n) ([]) :=
  (evalF_ok followed Tryd.func69 (by kernel_rfl) (show evalF Tryd.prog Tryd.f69 ([AVal.str s, AVal.func 48 []]) ([]) ([Dec.use [] [AVal.str s, AVal.func 48 [], AVal.bool true] [] (AVal.int IntKind.i64 n) []]) = .ok (FRes.mk (AVal.int IntKind.i64 n) ([]) ((Owed.use (owed Tryd.prog 0) 78 [] [AVal.str s, AVal.func 48 [], AVal.bool true] [] [AVal.str s, AVal.func 48 [], AVal.bool true] [] (AVal.int IntKind.i64 n) []) :: [])) by kernel_rfl) (allP_of ⟨⟨h1, rfl, rfl, rfl⟩, trivial⟩)).move ([]) (by kernel_rfl) (by kernel_rfl) (by kernel_rfl)

def idx_T (s : ByteArray) (n : Int) (Q : AVal → AState → Prop) : Prop := (FOk Tryd.prog 78 [AVal.str s, AVal.func 48 [], AVal.bool true] [] (AVal.int IntKind.i64 n) []) ∧ Q (AVal.int IntKind.i64 n) ([])
theorem idx_wp (s : ByteArray) (n : Int) {Q : AVal → AState → Prop} (h : idx_T s n Q) : ∃ r σ', FOk Tryd.prog 69 ([AVal.str s, AVal.func 48 []]) ([]) r σ' ∧ Q r σ' :=
  ⟨_, _, idx_1 s n (h.1), h.2⟩


theorem has_1 (s : ByteArray) (n : Int)
    (h1 : FOk Tryd.prog 69 [AVal.str s, AVal.func 48 []] [] (AVal.int IntKind.i64 n) []) :
    FOk Tryd.prog 49 ([AVal.str s, AVal.func 48 []]) ([]) (AVal.bool (decide (n ≥ 0))) ([]) :=
  (evalF_ok followed Tryd.func49 (by kernel_rfl) (show evalF Tryd.prog Tryd.f49 ([AVal.str s, AVal.func 48 []]) ([]) ([Dec.use [] [AVal.str s, AVal.func 48 []] [] (AVal.int IntKind.i64 n) []]) = .ok (FRes.mk (AVal.bool (decide (n ≥ 0))) ([]) ((Owed.use (owed Tryd.prog 0) 69 [] [AVal.str s, AVal.func 48 []] [] [AVal.str s, AVal.func 48 []] [] (AVal.int IntKind.i64 n) []) :: [])) by kernel_rfl) (allP_of ⟨⟨h1, rfl, rfl, rfl⟩, trivial⟩)).move ([]) (by kernel_rfl) (by kernel_rfl) (by kernel_rfl)

def has_T (s : ByteArray) (n : Int) (Q : AVal → AState → Prop) : Prop := (FOk Tryd.prog 69 [AVal.str s, AVal.func 48 []] [] (AVal.int IntKind.i64 n) []) ∧ Q (AVal.bool (decide (n ≥ 0))) ([])
theorem has_wp (s : ByteArray) (n : Int) {Q : AVal → AState → Prop} (h : has_T s n Q) : ∃ r σ', FOk Tryd.prog 49 ([AVal.str s, AVal.func 48 []]) ([]) r σ' ∧ Q r σ' :=
  ⟨_, _, has_1 s n (h.1), h.2⟩


theorem lab1_1 (a : ByteArray)
    (h1 : FOk Tryd.prog 49 [AVal.str a, AVal.func 48 []] [] (AVal.bool false) [])
    (h2 : decide ((↑(ByteArray.size a) : Int) > 16) = false)
    (h3 : (ByteArray.toList a == ByteArray.toList (ByteArray.mk #[])) = false) :
    FOk Tryd.prog 34 ([AVal.slc false 0 1 0 1 (some 1)]) ([AObj.rows true 1 [[AVal.str a]]]) (AVal.bool true) ([AObj.rows true 1 [[AVal.str a]]]) :=
  (evalF_ok followed Tryd.func34 (by kernel_rfl) (show evalF Tryd.prog Tryd.f34 ([AVal.slc false 0 1 0 1 (some 1)]) ([AObj.rows true 1 [[AVal.str a]]]) ([Dec.unroll 2, Dec.br true, Dec.br false, Dec.br false, Dec.use [] [AVal.str a, AVal.func 48 []] [] (AVal.bool false) [], Dec.br false, Dec.br false]) = .ok (FRes.mk (AVal.bool true) ([AObj.rows true 1 [[AVal.str a]]]) ((false = false) :: ((false = false) :: ((Owed.use (owed Tryd.prog 1) 49 [] [AVal.str a, AVal.func 48 []] [AObj.rows true 1 [[AVal.str a]]] [AVal.str a, AVal.func 48 []] [] (AVal.bool false) []) :: ((decide ((↑(ByteArray.size a) : Int) > 16) = false) :: (((ByteArray.toList a == ByteArray.toList (ByteArray.mk #[])) = false) :: (tr 5 ++ []))))))) by kernel_rfl) (allP_of ⟨rfl, ⟨rfl, ⟨⟨h1, rfl, rfl, rfl⟩, ⟨h2, ⟨h3, (trC 5 trivial)⟩⟩⟩⟩⟩)).move ([0]) (by kernel_rfl) (by kernel_rfl) (by kernel_rfl)

def lab1_T (a : ByteArray) (Q : AVal → AState → Prop) : Prop := ((ByteArray.toList a == ByteArray.toList (ByteArray.mk #[])) = false) ∧ (decide ((↑(ByteArray.size a) : Int) > 16) = false) ∧ (FOk Tryd.prog 49 [AVal.str a, AVal.func 48 []] [] (AVal.bool false) []) ∧ Q (AVal.bool true) ([AObj.rows true 1 [[AVal.str a]]])
theorem lab1_wp (a : ByteArray) {Q : AVal → AState → Prop} (h : lab1_T a Q) : ∃ r σ', FOk Tryd.prog 34 ([AVal.slc false 0 1 0 1 (some 1)]) ([AObj.rows true 1 [[AVal.str a]]]) r σ' ∧ Q r σ' :=
  ⟨_, _, lab1_1 a (h.2.2.1) (h.2.1) (h.1), h.2.2.2⟩


theorem lab2_1 (a : ByteArray) (b : ByteArray)
    (h1 : FOk Tryd.prog 49 [AVal.str b, AVal.func 48 []] [] (AVal.bool false) [])
    (h2 : decide ((↑(ByteArray.size b) : Int) > 16) = false)
    (h3 : (ByteArray.toList b == ByteArray.toList (ByteArray.mk #[])) = false)
    (h4 : FOk Tryd.prog 49 [AVal.str a, AVal.func 48 []] [] (AVal.bool false) [])
    (h5 : decide ((↑(ByteArray.size a) : Int) > 16) = false)
    (h6 : (ByteArray.toList a == ByteArray.toList (ByteArray.mk #[])) = false) :
    FOk Tryd.prog 34 ([AVal.slc false 0 1 0 2 (some 2)]) ([AObj.rows true 1 [[AVal.str a], [AVal.str b]]]) (AVal.bool true) ([AObj.rows true 1 [[AVal.str a], [AVal.str b]]]) :=
  (evalF_ok followed Tryd.func34 (by kernel_rfl) (show evalF Tryd.prog Tryd.f34 ([AVal.slc false 0 1 0 2 (some 2)]) ([AObj.rows true 1 [[AVal.str a], [AVal.str b]]]) ([Dec.unroll 3, Dec.br true, Dec.br false, Dec.br false, Dec.use [] [AVal.str a, AVal.func 48 []] [] (AVal.bool false) [], Dec.br false, Dec.br true, Dec.br false, Dec.br false, Dec.use [] [AVal.str b, AVal.func 48 []] [] (AVal.bool false) [], Dec.br false, Dec.br false]) = .ok (FRes.mk (AVal.bool true) ([AObj.rows true 1 [[AVal.str a], [AVal.str b]]]) ((false = false) :: ((false = false) :: ((Owed.use (owed Tryd.prog 1) 49 [] [AVal.str b, AVal.func 48 []] [AObj.rows true 1 [[AVal.str a], [AVal.str b]]] [AVal.str b, AVal.func 48 []] [] (AVal.bool false) []) :: ((decide ((↑(ByteArray.size b) : Int) > 16) = false) :: (((ByteArray.toList b == ByteArray.toList (ByteArray.mk #[])) = false) :: (tr 5 ++ ((false = false) :: ((Owed.use (owed Tryd.prog 1) 49 [] [AVal.str a, AVal.func 48 []] [AObj.rows true 1 [[AVal.str a], [AVal.str b]]] [AVal.str a, AVal.func 48 []] [] (AVal.bool false) []) :: ((decide ((↑(ByteArray.size a) : Int) > 16) = false) :: (((ByteArray.toList a == ByteArray.toList (ByteArray.mk #[])) = false) :: (tr 5 ++ [])))))))))))) by kernel_rfl) (allP_of ⟨rfl, ⟨rfl, ⟨⟨h1, rfl, rfl, rfl⟩, ⟨h2, ⟨h3, (trC 5 ⟨rfl, ⟨⟨h4, rfl, rfl, rfl⟩, ⟨h5, ⟨h6, (trC 5 trivial)⟩⟩⟩⟩)⟩⟩⟩⟩⟩)).move ([0]) (by kernel_rfl) (by kernel_rfl) (by kernel_rfl)

def lab2_T (a : ByteArray) (b : ByteArray) (Q : AVal → AState → Prop) : Prop := ((ByteArray.toList a == ByteArray.toList (ByteArray.mk #[])) = false) ∧ (decide ((↑(ByteArray.size a) : Int) > 16) = false) ∧ (FOk Tryd.prog 49 [AVal.str a, AVal.func 48 []] [] (AVal.bool false) []) ∧ ((ByteArray.toList b == ByteArray.toList (ByteArray.mk #[])) = false) ∧ (decide ((↑(ByteArray.size b) : Int) > 16) = false) ∧ (FOk Tryd.prog 49 [AVal.str b, AVal.func 48 []] [] (AVal.bool false) []) ∧ Q (AVal.bool true) ([AObj.rows true 1 [[AVal.str a], [AVal.str b]]])
theorem lab2_wp (a : ByteArray) (b : ByteArray) {Q : AVal → AState → Prop} (h : lab2_T a b Q) : ∃ r σ', FOk Tryd.prog 34 ([AVal.slc false 0 1 0 2 (some 2)]) ([AObj.rows true 1 [[AVal.str a], [AVal.str b]]]) r σ' ∧ Q r σ' :=
  ⟨_, _, lab2_1 a b (h.2.2.2.2.2.1) (h.2.2.2.2.1) (h.2.2.2.1) (h.2.2.1) (h.2.1) (h.1), h.2.2.2.2.2.2⟩


theorem labE_1 :
    FOk Tryd.prog 34 ([AVal.slc false 0 1 0 2 (some 2)]) ([AObj.rows true 1 [[AVal.str t0], [AVal.str t0]]]) (AVal.bool false) ([AObj.rows true 1 [[AVal.str t0], [AVal.str t0]]]) :=
  (evalF_ok followed Tryd.func34 (by kernel_rfl) (show evalF Tryd.prog Tryd.f34 ([AVal.slc false 0 1 0 2 (some 2)]) ([AObj.rows true 1 [[AVal.str t0], [AVal.str t0]]]) ([Dec.unroll 3, Dec.br true, Dec.br true]) = .ok (FRes.mk (AVal.bool false) ([AObj.rows true 1 [[AVal.str t0], [AVal.str t0]]]) (tr 6 ++ [])) by kernel_rfl) (allP_of (trC 6 trivial))).move ([0]) (by kernel_rfl) (by kernel_rfl) (by kernel_rfl)

def labE_T (Q : AVal → AState → Prop) : Prop := Q (AVal.bool false) ([AObj.rows true 1 [[AVal.str t0], [AVal.str t0]]])
theorem labE_wp {Q : AVal → AState → Prop} (h : labE_T Q) : ∃ r σ', FOk Tryd.prog 34 ([AVal.slc false 0 1 0 2 (some 2)]) ([AObj.rows true 1 [[AVal.str t0], [AVal.str t0]]]) r σ' ∧ Q r σ' :=
  ⟨_, _, labE_1, h⟩


theorem given3_1 :
    FOk Tryd.prog 27 ([AVal.ptr 0 2 0 0]) (S3) (AVal.bool true) ([AObj.rows false 2 [[AVal.map 1, AVal.map 2]], AObj.mp false [], AObj.mp true []]) :=
  (evalF_ok followed Tryd.func27 (by kernel_rfl) (show evalF Tryd.prog Tryd.f27 ([AVal.ptr 0 2 0 0]) (S3) ([Dec.br true]) = .ok (FRes.mk (AVal.bool true) ([AObj.rows false 2 [[AVal.map 1, AVal.map 2]], AObj.mp false [], AObj.mp true []]) (tr 3 ++ [])) by kernel_rfl) (allP_of (trC 3 trivial))).move ([0, 1, 2]) (by kernel_rfl) (by kernel_rfl) (by kernel_rfl)

def given3_T (Q : AVal → AState → Prop) : Prop := Q (AVal.bool true) ([AObj.rows false 2 [[AVal.map 1, AVal.map 2]], AObj.mp false [], AObj.mp true []])
theorem given3_wp {Q : AVal → AState → Prop} (h : given3_T Q) : ∃ r σ', FOk Tryd.prog 27 ([AVal.ptr 0 2 0 0]) (S3) r σ' ∧ Q r σ' :=
  ⟨_, _, given3_1, h⟩


theorem given5_1 (s : ByteArray) (c : ByteArray) (off : List (AVal × AVal)) (mem : List (AVal × AVal)) :
    FOk Tryd.prog 27 ([AVal.ptr 0 2 0 0]) (S5 s c off mem) (AVal.bool true) ([AObj.rows false 2 [[AVal.map 1, AVal.map 2]], AObj.mp false [(AVal.agg [AVal.str s, AVal.str c], AVal.ptr 3 2 0 0)], AObj.mp true off, AObj.rows false 2 [[AVal.map 4, AVal.fsl true 2 [] none]], AObj.mp true mem]) :=
  (evalF_ok followed Tryd.func27 (by kernel_rfl) (show evalF Tryd.prog Tryd.f27 ([AVal.ptr 0 2 0 0]) (S5 s c off mem) ([Dec.br true]) = .ok (FRes.mk (AVal.bool true) ([AObj.rows false 2 [[AVal.map 1, AVal.map 2]], AObj.mp false [(AVal.agg [AVal.str s, AVal.str c], AVal.ptr 3 2 0 0)], AObj.mp true off, AObj.rows false 2 [[AVal.map 4, AVal.fsl true 2 [] none]], AObj.mp true mem]) (tr 3 ++ [])) by kernel_rfl) (allP_of (trC 3 trivial))).move ([0, 1, 2, 3, 4]) (by kernel_rfl) (by kernel_rfl) (by kernel_rfl)

def given5_T (s : ByteArray) (c : ByteArray) (off : List (AVal × AVal)) (mem : List (AVal × AVal)) (Q : AVal → AState → Prop) : Prop := Q (AVal.bool true) ([AObj.rows false 2 [[AVal.map 1, AVal.map 2]], AObj.mp false [(AVal.agg [AVal.str s, AVal.str c], AVal.ptr 3 2 0 0)], AObj.mp true off, AObj.rows false 2 [[AVal.map 4, AVal.fsl true 2 [] none]], AObj.mp true mem])
theorem given5_wp (s : ByteArray) (c : ByteArray) (off : List (AVal × AVal)) (mem : List (AVal × AVal)) {Q : AVal → AState → Prop} (h : given5_T s c off mem Q) : ∃ r σ', FOk Tryd.prog 27 ([AVal.ptr 0 2 0 0]) (S5 s c off mem) r σ' ∧ Q r σ' :=
  ⟨_, _, given5_1 s c off mem, h⟩


theorem given6_1 (s : ByteArray) (c : ByteArray) (off : List (AVal × AVal)) (mem : List (AVal × AVal)) (b : Bool) (ps : List (List AVal)) :
    FOk Tryd.prog 27 ([AVal.ptr 0 2 0 0]) (S6 s c off mem b ps) (AVal.bool true) ([AObj.rows false 2 [[AVal.map 1, AVal.map 2]], AObj.mp false [(AVal.agg [AVal.str s, AVal.str c], AVal.ptr 3 2 0 0)], AObj.mp true off, AObj.rows false 2 [[AVal.map 4, AVal.slc b 5 2 0 (List.length ps) none]], AObj.mp true mem, AObj.rows true 2 ps]) :=
  (evalF_ok followed Tryd.func27 (by kernel_rfl) (show evalF Tryd.prog Tryd.f27 ([AVal.ptr 0 2 0 0]) (S6 s c off mem b ps) ([Dec.br true]) = .ok (FRes.mk (AVal.bool true) ([AObj.rows false 2 [[AVal.map 1, AVal.map 2]], AObj.mp false [(AVal.agg [AVal.str s, AVal.str c], AVal.ptr 3 2 0 0)], AObj.mp true off, AObj.rows false 2 [[AVal.map 4, AVal.slc b 5 2 0 (List.length ps) none]], AObj.mp true mem, AObj.rows true 2 ps]) (tr 3 ++ [])) by kernel_rfl) (allP_of (trC 3 trivial))).move ([0, 1, 2, 3, 4, 5]) (by kernel_rfl) (by kernel_rfl) (by kernel_rfl)

def given6_T (s : ByteArray) (c : ByteArray) (off : List (AVal × AVal)) (mem : List (AVal × AVal)) (b : Bool) (ps : List (List AVal)) (Q : AVal → AState → Prop) : Prop := Q (AVal.bool true) ([AObj.rows false 2 [[AVal.map 1, AVal.map 2]], AObj.mp false [(AVal.agg [AVal.str s, AVal.str c], AVal.ptr 3 2 0 0)], AObj.mp true off, AObj.rows false 2 [[AVal.map 4, AVal.slc b 5 2 0 (List.length ps) none]], AObj.mp true mem, AObj.rows true 2 ps])
theorem given6_wp (s : ByteArray) (c : ByteArray) (off : List (AVal × AVal)) (mem : List (AVal × AVal)) (b : Bool) (ps : List (List AVal)) {Q : AVal → AState → Prop} (h : given6_T s c off mem b ps Q) : ∃ r σ', FOk Tryd.prog 27 ([AVal.ptr 0 2 0 0]) (S6 s c off mem b ps) r σ' ∧ Q r σ' :=
  ⟨_, _, given6_1 s c off mem b ps, h⟩


theorem no__1 (e : Int) :
    FOk Tryd.prog 28 ([AVal.int IntKind.i64 e]) ([]) (AVal.agg [AVal.int IntKind.i64 e, AVal.int IntKind.i64 0, AVal.fsl true 2 [] none]) ([]) :=
  (evalF_ok followed Tryd.func28 (by kernel_rfl) (show evalF Tryd.prog Tryd.f28 ([AVal.int IntKind.i64 e]) ([]) ([]) = .ok (FRes.mk (AVal.agg [AVal.int IntKind.i64 e, AVal.int IntKind.i64 0, AVal.fsl true 2 [] none]) ([AObj.rows false 3 [[AVal.int IntKind.i64 e, AVal.int IntKind.i64 0, AVal.fsl true 0 [] (some 0)]]]) (tr 4 ++ [])) by kernel_rfl) (allP_of (trC 4 trivial))).move ([]) (by kernel_rfl) (by kernel_rfl) (by kernel_rfl)

def no__T (e : Int) (Q : AVal → AState → Prop) : Prop := Q (AVal.agg [AVal.int IntKind.i64 e, AVal.int IntKind.i64 0, AVal.fsl true 2 [] none]) ([])
theorem no__wp (e : Int) {Q : AVal → AState → Prop} (h : no__T e Q) : ∃ r σ', FOk Tryd.prog 28 ([AVal.int IntKind.i64 e]) ([]) r σ' ∧ Q r σ' :=
  ⟨_, _, no__1 e, h⟩


theorem post_1 (x : ByteArray) :
    FOk Tryd.prog 15 ([AVal.str x]) ([]) (AVal.agg [AVal.int IntKind.i64 3, AVal.str (ByteArray.mk #[119]), AVal.str (ByteArray.mk #[99]), AVal.str (ByteArray.mk #[97, 110, 110]), AVal.str x, AVal.str (ByteArray.mk #[]), AVal.str (ByteArray.mk #[]), AVal.int IntKind.i64 0, AVal.int IntKind.i64 0]) ([]) :=
  (evalF_ok followed Tryd.func15 (by kernel_rfl) (show evalF Tryd.prog Tryd.f15 ([AVal.str x]) ([]) ([]) = .ok (FRes.mk (AVal.agg [AVal.int IntKind.i64 3, AVal.str (ByteArray.mk #[119]), AVal.str (ByteArray.mk #[99]), AVal.str (ByteArray.mk #[97, 110, 110]), AVal.str x, AVal.str (ByteArray.mk #[]), AVal.str (ByteArray.mk #[]), AVal.int IntKind.i64 0, AVal.int IntKind.i64 0]) ([AObj.rows true 9 [[AVal.int IntKind.i64 3, AVal.str (ByteArray.mk #[119]), AVal.str (ByteArray.mk #[99]), AVal.str (ByteArray.mk #[97, 110, 110]), AVal.str x, AVal.str (ByteArray.mk #[]), AVal.str (ByteArray.mk #[]), AVal.int IntKind.i64 0, AVal.int IntKind.i64 0]]]) (tr 5 ++ [])) by kernel_rfl) (allP_of (trC 5 trivial))).move ([]) (by kernel_rfl) (by kernel_rfl) (by kernel_rfl)

def post_T (x : ByteArray) (Q : AVal → AState → Prop) : Prop := Q (AVal.agg [AVal.int IntKind.i64 3, AVal.str (ByteArray.mk #[119]), AVal.str (ByteArray.mk #[99]), AVal.str (ByteArray.mk #[97, 110, 110]), AVal.str x, AVal.str (ByteArray.mk #[]), AVal.str (ByteArray.mk #[]), AVal.int IntKind.i64 0, AVal.int IntKind.i64 0]) ([])
theorem post_wp (x : ByteArray) {Q : AVal → AState → Prop} (h : post_T x Q) : ∃ r σ', FOk Tryd.prog 15 ([AVal.str x]) ([]) r σ' ∧ Q r σ' :=
  ⟨_, _, post_1 x, h⟩


theorem new__1 :
    FOk Tryd.prog 12 ([]) ([]) (AVal.ptr 0 2 0 0) ([AObj.rows false 2 [[AVal.map 1, AVal.map 2]], AObj.mp false [], AObj.mp true []]) :=
  (evalF_ok followed Tryd.func12 (by kernel_rfl) (show evalF Tryd.prog Tryd.f12 ([]) ([]) ([]) = .ok (FRes.mk (AVal.ptr 2 2 0 0) ([AObj.mp false [], AObj.mp true [], AObj.rows false 2 [[AVal.map 0, AVal.map 1]]]) []) by kernel_rfl) (allP_of trivial)).move ([2, 0, 1]) (by kernel_rfl) (by kernel_rfl) (by kernel_rfl)

def new__T (Q : AVal → AState → Prop) : Prop := Q (AVal.ptr 0 2 0 0) ([AObj.rows false 2 [[AVal.map 1, AVal.map 2]], AObj.mp false [], AObj.mp true []])
theorem new__wp {Q : AVal → AState → Prop} (h : new__T Q) : ∃ r σ', FOk Tryd.prog 12 ([]) ([]) r σ' ∧ Q r σ' :=
  ⟨_, _, new__1, h⟩


theorem ckM_1 (s : ByteArray) (c : ByteArray)
    (h1 : (!(fun r => true && r) ((fun r => ByteArray.toList s == ByteArray.toList s && r) ((fun r => ByteArray.toList c == ByteArray.toList c && r) true))) = false)
    (h2 : FOk Tryd.prog 34 [AVal.slc false 0 1 0 2 (some 2)] [AObj.rows true 1 [[AVal.str s], [AVal.str c]]] (AVal.bool true) [AObj.rows true 1 [[AVal.str s], [AVal.str c]]]) :
    FOk Tryd.prog 21 ([op 1 s c t0 t0 t0 t0 0 0]) ([]) (AVal.int IntKind.i64 0) ([]) :=
  (evalF_ok followed Tryd.func21 (by kernel_rfl) (show evalF Tryd.prog Tryd.f21 ([op 1 s c t0 t0 t0 t0 0 0]) ([]) ([Dec.use [2] [AVal.slc false 0 1 0 2 (some 2)] [AObj.rows true 1 [[AVal.str s], [AVal.str c]]] (AVal.bool true) [AObj.rows true 1 [[AVal.str s], [AVal.str c]]], Dec.br true, Dec.br false, Dec.br false]) = .ok (FRes.mk (AVal.int IntKind.i64 0) ([AObj.rows true 9 [[AVal.int IntKind.i64 1, AVal.str s, AVal.str c, AVal.str t0, AVal.str t0, AVal.str t0, AVal.str t0, AVal.int IntKind.i64 0, AVal.int IntKind.i64 0]], AObj.rows true 9 [[AVal.int IntKind.i64 1, AVal.str s, AVal.str c, AVal.str (ByteArray.mk #[]), AVal.str (ByteArray.mk #[]), AVal.str (ByteArray.mk #[]), AVal.str (ByteArray.mk #[]), AVal.int IntKind.i64 0, AVal.int IntKind.i64 0]], AObj.rows true 1 [[AVal.str s], [AVal.str c]]]) (((!(fun r => true && r) ((fun r => ByteArray.toList s == ByteArray.toList s && r) ((fun r => ByteArray.toList c == ByteArray.toList c && r) true))) = false) :: (tr 6 ++ ((false = false) :: (tr 4 ++ ((Owed.use (owed Tryd.prog 0) 34 [2] [AVal.slc false 2 1 0 2 (some 2)] [AObj.rows true 9 [[AVal.int IntKind.i64 1, AVal.str s, AVal.str c, AVal.str t0, AVal.str t0, AVal.str t0, AVal.str t0, AVal.int IntKind.i64 0, AVal.int IntKind.i64 0]], AObj.rows true 9 [[AVal.int IntKind.i64 1, AVal.str s, AVal.str c, AVal.str (ByteArray.mk #[]), AVal.str (ByteArray.mk #[]), AVal.str (ByteArray.mk #[]), AVal.str (ByteArray.mk #[]), AVal.int IntKind.i64 0, AVal.int IntKind.i64 0]], AObj.rows true 1 [[AVal.str s], [AVal.str c]]] [AVal.slc false 0 1 0 2 (some 2)] [AObj.rows true 1 [[AVal.str s], [AVal.str c]]] (AVal.bool true) [AObj.rows true 1 [[AVal.str s], [AVal.str c]]]) :: (tr 17 ++ []))))))) by kernel_rfl) (allP_of ⟨h1, (trC 6 ⟨rfl, (trC 4 ⟨⟨h2, rfl, rfl, rfl⟩, (trC 17 trivial)⟩)⟩)⟩)).move ([]) (by kernel_rfl) (by kernel_rfl) (by kernel_rfl)

def ckM_T (s : ByteArray) (c : ByteArray) (Q : AVal → AState → Prop) : Prop := (FOk Tryd.prog 34 [AVal.slc false 0 1 0 2 (some 2)] [AObj.rows true 1 [[AVal.str s], [AVal.str c]]] (AVal.bool true) [AObj.rows true 1 [[AVal.str s], [AVal.str c]]]) ∧ ((!(fun r => true && r) ((fun r => ByteArray.toList s == ByteArray.toList s && r) ((fun r => ByteArray.toList c == ByteArray.toList c && r) true))) = false) ∧ Q (AVal.int IntKind.i64 0) ([])
theorem ckM_wp (s : ByteArray) (c : ByteArray) {Q : AVal → AState → Prop} (h : ckM_T s c Q) : ∃ r σ', FOk Tryd.prog 21 ([op 1 s c t0 t0 t0 t0 0 0]) ([]) r σ' ∧ Q r σ' :=
  ⟨_, _, ckM_1 s c (h.2.1) (h.1), h.2.2⟩


theorem ckJ_1 (s : ByteArray) (c : ByteArray) (u : ByteArray)
    (h1 : (!(fun r => true && r) ((fun r => ByteArray.toList s == ByteArray.toList s && r) ((fun r => ByteArray.toList c == ByteArray.toList c && r) ((fun r => ByteArray.toList u == ByteArray.toList u && r) true)))) = false)
    (h2 : FOk Tryd.prog 34 [AVal.slc false 0 1 0 1 (some 1)] [AObj.rows true 1 [[AVal.str u]]] (AVal.bool true) [AObj.rows true 1 [[AVal.str u]]])
    (h3 : FOk Tryd.prog 34 [AVal.slc false 0 1 0 2 (some 2)] [AObj.rows true 1 [[AVal.str s], [AVal.str c]]] (AVal.bool true) [AObj.rows true 1 [[AVal.str s], [AVal.str c]]]) :
    FOk Tryd.prog 21 ([op 2 s c u t0 t0 t0 0 0]) ([]) (AVal.int IntKind.i64 0) ([]) :=
  (evalF_ok followed Tryd.func21 (by kernel_rfl) (show evalF Tryd.prog Tryd.f21 ([op 2 s c u t0 t0 t0 0 0]) ([]) ([Dec.use [2] [AVal.slc false 0 1 0 2 (some 2)] [AObj.rows true 1 [[AVal.str s], [AVal.str c]]] (AVal.bool true) [AObj.rows true 1 [[AVal.str s], [AVal.str c]]], Dec.br false, Dec.br true, Dec.br true, Dec.use [3] [AVal.slc false 0 1 0 1 (some 1)] [AObj.rows true 1 [[AVal.str u]]] (AVal.bool true) [AObj.rows true 1 [[AVal.str u]]], Dec.br false, Dec.br false]) = .ok (FRes.mk (AVal.int IntKind.i64 0) ([AObj.rows true 9 [[AVal.int IntKind.i64 2, AVal.str s, AVal.str c, AVal.str u, AVal.str t0, AVal.str t0, AVal.str t0, AVal.int IntKind.i64 0, AVal.int IntKind.i64 0]], AObj.rows true 9 [[AVal.int IntKind.i64 2, AVal.str s, AVal.str c, AVal.str u, AVal.str (ByteArray.mk #[]), AVal.str (ByteArray.mk #[]), AVal.str (ByteArray.mk #[]), AVal.int IntKind.i64 0, AVal.int IntKind.i64 0]], AObj.rows true 1 [[AVal.str s], [AVal.str c]], AObj.rows true 1 [[AVal.str u]]]) (((!(fun r => true && r) ((fun r => ByteArray.toList s == ByteArray.toList s && r) ((fun r => ByteArray.toList c == ByteArray.toList c && r) ((fun r => ByteArray.toList u == ByteArray.toList u && r) true)))) = false) :: (tr 6 ++ ((false = false) :: (tr 15 ++ ((Owed.use (owed Tryd.prog 0) 34 [3] [AVal.slc false 3 1 0 1 (some 1)] [AObj.rows true 9 [[AVal.int IntKind.i64 2, AVal.str s, AVal.str c, AVal.str u, AVal.str t0, AVal.str t0, AVal.str t0, AVal.int IntKind.i64 0, AVal.int IntKind.i64 0]], AObj.rows true 9 [[AVal.int IntKind.i64 2, AVal.str s, AVal.str c, AVal.str (ByteArray.mk #[]), AVal.str (ByteArray.mk #[]), AVal.str (ByteArray.mk #[]), AVal.str (ByteArray.mk #[]), AVal.int IntKind.i64 0, AVal.int IntKind.i64 0]], AObj.rows true 1 [[AVal.str s], [AVal.str c]], AObj.rows true 1 [[AVal.str u]]] [AVal.slc false 0 1 0 1 (some 1)] [AObj.rows true 1 [[AVal.str u]]] (AVal.bool true) [AObj.rows true 1 [[AVal.str u]]]) :: (tr 25 ++ ((false = false) :: (tr 3 ++ ((Owed.use (owed Tryd.prog 0) 34 [2] [AVal.slc false 2 1 0 2 (some 2)] [AObj.rows true 9 [[AVal.int IntKind.i64 2, AVal.str s, AVal.str c, AVal.str u, AVal.str t0, AVal.str t0, AVal.str t0, AVal.int IntKind.i64 0, AVal.int IntKind.i64 0]], AObj.rows true 9 [[AVal.int IntKind.i64 2, AVal.str s, AVal.str c, AVal.str (ByteArray.mk #[]), AVal.str (ByteArray.mk #[]), AVal.str (ByteArray.mk #[]), AVal.str (ByteArray.mk #[]), AVal.int IntKind.i64 0, AVal.int IntKind.i64 0]], AObj.rows true 1 [[AVal.str s], [AVal.str c]]] [AVal.slc false 0 1 0 2 (some 2)] [AObj.rows true 1 [[AVal.str s], [AVal.str c]]] (AVal.bool true) [AObj.rows true 1 [[AVal.str s], [AVal.str c]]]) :: (tr 17 ++ []))))))))))) by kernel_rfl) (allP_of ⟨h1, (trC 6 ⟨rfl, (trC 15 ⟨⟨h2, rfl, rfl, rfl⟩, (trC 25 ⟨rfl, (trC 3 ⟨⟨h3, rfl, rfl, rfl⟩, (trC 17 trivial)⟩)⟩)⟩)⟩)⟩)).move ([]) (by kernel_rfl) (by kernel_rfl) (by kernel_rfl)

def ckJ_T (s : ByteArray) (c : ByteArray) (u : ByteArray) (Q : AVal → AState → Prop) : Prop := (FOk Tryd.prog 34 [AVal.slc false 0 1 0 2 (some 2)] [AObj.rows true 1 [[AVal.str s], [AVal.str c]]] (AVal.bool true) [AObj.rows true 1 [[AVal.str s], [AVal.str c]]]) ∧ (FOk Tryd.prog 34 [AVal.slc false 0 1 0 1 (some 1)] [AObj.rows true 1 [[AVal.str u]]] (AVal.bool true) [AObj.rows true 1 [[AVal.str u]]]) ∧ ((!(fun r => true && r) ((fun r => ByteArray.toList s == ByteArray.toList s && r) ((fun r => ByteArray.toList c == ByteArray.toList c && r) ((fun r => ByteArray.toList u == ByteArray.toList u && r) true)))) = false) ∧ Q (AVal.int IntKind.i64 0) ([])
theorem ckJ_wp (s : ByteArray) (c : ByteArray) (u : ByteArray) {Q : AVal → AState → Prop} (h : ckJ_T s c u Q) : ∃ r σ', FOk Tryd.prog 21 ([op 2 s c u t0 t0 t0 0 0]) ([]) r σ' ∧ Q r σ' :=
  ⟨_, _, ckJ_1 s c u (h.2.2.1) (h.2.1) (h.1), h.2.2.2⟩


theorem ckP_1 (s : ByteArray) (c : ByteArray) (u : ByteArray) (x : ByteArray)
    (h1 : (!(fun r => true && r) ((fun r => ByteArray.toList s == ByteArray.toList s && r) ((fun r => ByteArray.toList c == ByteArray.toList c && r) ((fun r => ByteArray.toList u == ByteArray.toList u && r) ((fun r => ByteArray.toList x == ByteArray.toList x && r) true))))) = false)
    (h2 : FOk Tryd.prog 35 [AVal.str x] [] (AVal.bool true) [])
    (h3 : decide ((↑(ByteArray.size x) : Int) ≤ 1024) = true)
    (h4 : FOk Tryd.prog 34 [AVal.slc false 0 1 0 1 (some 1)] [AObj.rows true 1 [[AVal.str u]]] (AVal.bool true) [AObj.rows true 1 [[AVal.str u]]])
    (h5 : FOk Tryd.prog 34 [AVal.slc false 0 1 0 2 (some 2)] [AObj.rows true 1 [[AVal.str s], [AVal.str c]]] (AVal.bool true) [AObj.rows true 1 [[AVal.str s], [AVal.str c]]]) :
    FOk Tryd.prog 21 ([op 3 s c u x t0 t0 0 0]) ([]) (AVal.int IntKind.i64 0) ([]) :=
  (evalF_ok followed Tryd.func21 (by kernel_rfl) (show evalF Tryd.prog Tryd.f21 ([op 3 s c u x t0 t0 0 0]) ([]) ([Dec.use [2] [AVal.slc false 0 1 0 2 (some 2)] [AObj.rows true 1 [[AVal.str s], [AVal.str c]]] (AVal.bool true) [AObj.rows true 1 [[AVal.str s], [AVal.str c]]], Dec.br false, Dec.br false, Dec.br true, Dec.br true, Dec.use [3] [AVal.slc false 0 1 0 1 (some 1)] [AObj.rows true 1 [[AVal.str u]]] (AVal.bool true) [AObj.rows true 1 [[AVal.str u]]], Dec.br true, Dec.br true, Dec.use [] [AVal.str x] [] (AVal.bool true) [], Dec.br false, Dec.br false]) = .ok (FRes.mk (AVal.int IntKind.i64 0) ([AObj.rows true 9 [[AVal.int IntKind.i64 3, AVal.str s, AVal.str c, AVal.str u, AVal.str x, AVal.str t0, AVal.str t0, AVal.int IntKind.i64 0, AVal.int IntKind.i64 0]], AObj.rows true 9 [[AVal.int IntKind.i64 3, AVal.str s, AVal.str c, AVal.str u, AVal.str x, AVal.str (ByteArray.mk #[]), AVal.str (ByteArray.mk #[]), AVal.int IntKind.i64 0, AVal.int IntKind.i64 0]], AObj.rows true 1 [[AVal.str s], [AVal.str c]], AObj.rows true 1 [[AVal.str u]]]) (((!(fun r => true && r) ((fun r => ByteArray.toList s == ByteArray.toList s && r) ((fun r => ByteArray.toList c == ByteArray.toList c && r) ((fun r => ByteArray.toList u == ByteArray.toList u && r) ((fun r => ByteArray.toList x == ByteArray.toList x && r) true))))) = false) :: (tr 6 ++ ((false = false) :: (tr 22 ++ ((Owed.use (owed Tryd.prog 0) 35 [] [AVal.str x] [AObj.rows true 9 [[AVal.int IntKind.i64 3, AVal.str s, AVal.str c, AVal.str u, AVal.str x, AVal.str t0, AVal.str t0, AVal.int IntKind.i64 0, AVal.int IntKind.i64 0]], AObj.rows true 9 [[AVal.int IntKind.i64 3, AVal.str s, AVal.str c, AVal.str (ByteArray.mk #[]), AVal.str (ByteArray.mk #[]), AVal.str (ByteArray.mk #[]), AVal.str (ByteArray.mk #[]), AVal.int IntKind.i64 0, AVal.int IntKind.i64 0]], AObj.rows true 1 [[AVal.str s], [AVal.str c]], AObj.rows true 1 [[AVal.str u]]] [AVal.str x] [] (AVal.bool true) []) :: (tr 11 ++ ((decide ((↑(ByteArray.size x) : Int) ≤ 1024) = true) :: (tr 30 ++ ((Owed.use (owed Tryd.prog 0) 34 [3] [AVal.slc false 3 1 0 1 (some 1)] [AObj.rows true 9 [[AVal.int IntKind.i64 3, AVal.str s, AVal.str c, AVal.str u, AVal.str x, AVal.str t0, AVal.str t0, AVal.int IntKind.i64 0, AVal.int IntKind.i64 0]], AObj.rows true 9 [[AVal.int IntKind.i64 3, AVal.str s, AVal.str c, AVal.str (ByteArray.mk #[]), AVal.str (ByteArray.mk #[]), AVal.str (ByteArray.mk #[]), AVal.str (ByteArray.mk #[]), AVal.int IntKind.i64 0, AVal.int IntKind.i64 0]], AObj.rows true 1 [[AVal.str s], [AVal.str c]], AObj.rows true 1 [[AVal.str u]]] [AVal.slc false 0 1 0 1 (some 1)] [AObj.rows true 1 [[AVal.str u]]] (AVal.bool true) [AObj.rows true 1 [[AVal.str u]]]) :: (tr 36 ++ ((false = false) :: ((false = false) :: (tr 3 ++ ((Owed.use (owed Tryd.prog 0) 34 [2] [AVal.slc false 2 1 0 2 (some 2)] [AObj.rows true 9 [[AVal.int IntKind.i64 3, AVal.str s, AVal.str c, AVal.str u, AVal.str x, AVal.str t0, AVal.str t0, AVal.int IntKind.i64 0, AVal.int IntKind.i64 0]], AObj.rows true 9 [[AVal.int IntKind.i64 3, AVal.str s, AVal.str c, AVal.str (ByteArray.mk #[]), AVal.str (ByteArray.mk #[]), AVal.str (ByteArray.mk #[]), AVal.str (ByteArray.mk #[]), AVal.int IntKind.i64 0, AVal.int IntKind.i64 0]], AObj.rows true 1 [[AVal.str s], [AVal.str c]]] [AVal.slc false 0 1 0 2 (some 2)] [AObj.rows true 1 [[AVal.str s], [AVal.str c]]] (AVal.bool true) [AObj.rows true 1 [[AVal.str s], [AVal.str c]]]) :: (tr 17 ++ [])))))))))))))))) by kernel_rfl) (allP_of ⟨h1, (trC 6 ⟨rfl, (trC 22 ⟨⟨h2, rfl, rfl, rfl⟩, (trC 11 ⟨h3, (trC 30 ⟨⟨h4, rfl, rfl, rfl⟩, (trC 36 ⟨rfl, ⟨rfl, (trC 3 ⟨⟨h5, rfl, rfl, rfl⟩, (trC 17 trivial)⟩)⟩⟩)⟩)⟩)⟩)⟩)⟩)).move ([]) (by kernel_rfl) (by kernel_rfl) (by kernel_rfl)

def ckP_T (s : ByteArray) (c : ByteArray) (u : ByteArray) (x : ByteArray) (Q : AVal → AState → Prop) : Prop := (FOk Tryd.prog 34 [AVal.slc false 0 1 0 2 (some 2)] [AObj.rows true 1 [[AVal.str s], [AVal.str c]]] (AVal.bool true) [AObj.rows true 1 [[AVal.str s], [AVal.str c]]]) ∧ (FOk Tryd.prog 34 [AVal.slc false 0 1 0 1 (some 1)] [AObj.rows true 1 [[AVal.str u]]] (AVal.bool true) [AObj.rows true 1 [[AVal.str u]]]) ∧ (decide ((↑(ByteArray.size x) : Int) ≤ 1024) = true) ∧ (FOk Tryd.prog 35 [AVal.str x] [] (AVal.bool true) []) ∧ ((!(fun r => true && r) ((fun r => ByteArray.toList s == ByteArray.toList s && r) ((fun r => ByteArray.toList c == ByteArray.toList c && r) ((fun r => ByteArray.toList u == ByteArray.toList u && r) ((fun r => ByteArray.toList x == ByteArray.toList x && r) true))))) = false) ∧ Q (AVal.int IntKind.i64 0) ([])
theorem ckP_wp (s : ByteArray) (c : ByteArray) (u : ByteArray) (x : ByteArray) {Q : AVal → AState → Prop} (h : ckP_T s c u x Q) : ∃ r σ', FOk Tryd.prog 21 ([op 3 s c u x t0 t0 0 0]) ([]) r σ' ∧ Q r σ' :=
  ⟨_, _, ckP_1 s c u x (h.2.2.2.2.1) (h.2.2.2.1) (h.2.2.1) (h.2.1) (h.1), h.2.2.2.2.2⟩


theorem ckV_1 (s : ByteArray) (c : ByteArray) (ts : ByteArray) (to : ByteArray)
    (h1 : (!(fun r => true && r) ((fun r => ByteArray.toList s == ByteArray.toList s && r) ((fun r => ByteArray.toList c == ByteArray.toList c && r) ((fun r => true && r) ((fun r => true && r) ((fun r => ByteArray.toList ts == ByteArray.toList ts && r) ((fun r => ByteArray.toList to == ByteArray.toList to && r) true))))))) = false)
    (h2 : FOk Tryd.prog 34 [AVal.slc false 0 1 0 2 (some 2)] [AObj.rows true 1 [[AVal.str ts], [AVal.str to]]] (AVal.bool true) [AObj.rows true 1 [[AVal.str ts], [AVal.str to]]])
    (h3 : FOk Tryd.prog 34 [AVal.slc false 0 1 0 2 (some 2)] [AObj.rows true 1 [[AVal.str s], [AVal.str c]]] (AVal.bool true) [AObj.rows true 1 [[AVal.str s], [AVal.str c]]]) :
    FOk Tryd.prog 21 ([op 5 s c t0 t0 ts to 0 0]) ([]) (AVal.int IntKind.i64 0) ([]) :=
  (evalF_ok followed Tryd.func21 (by kernel_rfl) (show evalF Tryd.prog Tryd.f21 ([op 5 s c t0 t0 ts to 0 0]) ([]) ([Dec.use [2] [AVal.slc false 0 1 0 2 (some 2)] [AObj.rows true 1 [[AVal.str s], [AVal.str c]]] (AVal.bool true) [AObj.rows true 1 [[AVal.str s], [AVal.str c]]], Dec.br false, Dec.br false, Dec.br false, Dec.br false, Dec.br true, Dec.br true, Dec.use [3] [AVal.slc false 0 1 0 2 (some 2)] [AObj.rows true 1 [[AVal.str ts], [AVal.str to]]] (AVal.bool true) [AObj.rows true 1 [[AVal.str ts], [AVal.str to]]], Dec.br false, Dec.br false]) = .ok (FRes.mk (AVal.int IntKind.i64 0) ([AObj.rows true 9 [[AVal.int IntKind.i64 5, AVal.str s, AVal.str c, AVal.str t0, AVal.str t0, AVal.str ts, AVal.str to, AVal.int IntKind.i64 0, AVal.int IntKind.i64 0]], AObj.rows true 9 [[AVal.int IntKind.i64 5, AVal.str s, AVal.str c, AVal.str (ByteArray.mk #[]), AVal.str (ByteArray.mk #[]), AVal.str ts, AVal.str to, AVal.int IntKind.i64 0, AVal.int IntKind.i64 0]], AObj.rows true 1 [[AVal.str s], [AVal.str c]], AObj.rows true 1 [[AVal.str ts], [AVal.str to]]]) (((!(fun r => true && r) ((fun r => ByteArray.toList s == ByteArray.toList s && r) ((fun r => ByteArray.toList c == ByteArray.toList c && r) ((fun r => true && r) ((fun r => true && r) ((fun r => ByteArray.toList ts == ByteArray.toList ts && r) ((fun r => ByteArray.toList to == ByteArray.toList to && r) true))))))) = false) :: (tr 6 ++ ((false = false) :: (tr 26 ++ ((Owed.use (owed Tryd.prog 0) 34 [3] [AVal.slc false 3 1 0 2 (some 2)] [AObj.rows true 9 [[AVal.int IntKind.i64 5, AVal.str s, AVal.str c, AVal.str t0, AVal.str t0, AVal.str ts, AVal.str to, AVal.int IntKind.i64 0, AVal.int IntKind.i64 0]], AObj.rows true 9 [[AVal.int IntKind.i64 5, AVal.str s, AVal.str c, AVal.str (ByteArray.mk #[]), AVal.str (ByteArray.mk #[]), AVal.str (ByteArray.mk #[]), AVal.str (ByteArray.mk #[]), AVal.int IntKind.i64 0, AVal.int IntKind.i64 0]], AObj.rows true 1 [[AVal.str s], [AVal.str c]], AObj.rows true 1 [[AVal.str ts], [AVal.str to]]] [AVal.slc false 0 1 0 2 (some 2)] [AObj.rows true 1 [[AVal.str ts], [AVal.str to]]] (AVal.bool true) [AObj.rows true 1 [[AVal.str ts], [AVal.str to]]]) :: (tr 49 ++ ((false = false) :: ((false = false) :: ((false = false) :: ((false = false) :: (tr 3 ++ ((Owed.use (owed Tryd.prog 0) 34 [2] [AVal.slc false 2 1 0 2 (some 2)] [AObj.rows true 9 [[AVal.int IntKind.i64 5, AVal.str s, AVal.str c, AVal.str t0, AVal.str t0, AVal.str ts, AVal.str to, AVal.int IntKind.i64 0, AVal.int IntKind.i64 0]], AObj.rows true 9 [[AVal.int IntKind.i64 5, AVal.str s, AVal.str c, AVal.str (ByteArray.mk #[]), AVal.str (ByteArray.mk #[]), AVal.str (ByteArray.mk #[]), AVal.str (ByteArray.mk #[]), AVal.int IntKind.i64 0, AVal.int IntKind.i64 0]], AObj.rows true 1 [[AVal.str s], [AVal.str c]]] [AVal.slc false 0 1 0 2 (some 2)] [AObj.rows true 1 [[AVal.str s], [AVal.str c]]] (AVal.bool true) [AObj.rows true 1 [[AVal.str s], [AVal.str c]]]) :: (tr 17 ++ [])))))))))))))) by kernel_rfl) (allP_of ⟨h1, (trC 6 ⟨rfl, (trC 26 ⟨⟨h2, rfl, rfl, rfl⟩, (trC 49 ⟨rfl, ⟨rfl, ⟨rfl, ⟨rfl, (trC 3 ⟨⟨h3, rfl, rfl, rfl⟩, (trC 17 trivial)⟩)⟩⟩⟩⟩)⟩)⟩)⟩)).move ([]) (by kernel_rfl) (by kernel_rfl) (by kernel_rfl)

def ckV_T (s : ByteArray) (c : ByteArray) (ts : ByteArray) (to : ByteArray) (Q : AVal → AState → Prop) : Prop := (FOk Tryd.prog 34 [AVal.slc false 0 1 0 2 (some 2)] [AObj.rows true 1 [[AVal.str s], [AVal.str c]]] (AVal.bool true) [AObj.rows true 1 [[AVal.str s], [AVal.str c]]]) ∧ (FOk Tryd.prog 34 [AVal.slc false 0 1 0 2 (some 2)] [AObj.rows true 1 [[AVal.str ts], [AVal.str to]]] (AVal.bool true) [AObj.rows true 1 [[AVal.str ts], [AVal.str to]]]) ∧ ((!(fun r => true && r) ((fun r => ByteArray.toList s == ByteArray.toList s && r) ((fun r => ByteArray.toList c == ByteArray.toList c && r) ((fun r => true && r) ((fun r => true && r) ((fun r => ByteArray.toList ts == ByteArray.toList ts && r) ((fun r => ByteArray.toList to == ByteArray.toList to && r) true))))))) = false) ∧ Q (AVal.int IntKind.i64 0) ([])
theorem ckV_wp (s : ByteArray) (c : ByteArray) (ts : ByteArray) (to : ByteArray) {Q : AVal → AState → Prop} (h : ckV_T s c ts to Q) : ∃ r σ', FOk Tryd.prog 21 ([op 5 s c t0 t0 ts to 0 0]) ([]) r σ' ∧ Q r σ' :=
  ⟨_, _, ckV_1 s c ts to (h.2.2.1) (h.2.1) (h.1), h.2.2.2⟩


theorem ckO_1 (u : ByteArray)
    (h1 : (!(fun r => true && r) ((fun r => true && r) ((fun r => true && r) ((fun r => ByteArray.toList u == ByteArray.toList u && r) true)))) = false)
    (h2 : FOk Tryd.prog 34 [AVal.slc false 0 1 0 1 (some 1)] [AObj.rows true 1 [[AVal.str u]]] (AVal.bool true) [AObj.rows true 1 [[AVal.str u]]])
    (h3 : FOk Tryd.prog 34 [AVal.slc false 0 1 0 2 (some 2)] [AObj.rows true 1 [[AVal.str t0], [AVal.str t0]]] (AVal.bool false) [AObj.rows true 1 [[AVal.str t0], [AVal.str t0]]]) :
    FOk Tryd.prog 21 ([op 7 t0 t0 u t0 t0 t0 0 0]) ([]) (AVal.int IntKind.i64 0) ([]) :=
  (evalF_ok followed Tryd.func21 (by kernel_rfl) (show evalF Tryd.prog Tryd.f21 ([op 7 t0 t0 u t0 t0 t0 0 0]) ([]) ([Dec.use [2] [AVal.slc false 0 1 0 2 (some 2)] [AObj.rows true 1 [[AVal.str t0], [AVal.str t0]]] (AVal.bool false) [AObj.rows true 1 [[AVal.str t0], [AVal.str t0]]], Dec.br false, Dec.br false, Dec.br false, Dec.br false, Dec.br false, Dec.br false, Dec.br true, Dec.use [3] [AVal.slc false 0 1 0 1 (some 1)] [AObj.rows true 1 [[AVal.str u]]] (AVal.bool true) [AObj.rows true 1 [[AVal.str u]]], Dec.br false, Dec.br false]) = .ok (FRes.mk (AVal.int IntKind.i64 0) ([AObj.rows true 9 [[AVal.int IntKind.i64 7, AVal.str t0, AVal.str t0, AVal.str u, AVal.str t0, AVal.str t0, AVal.str t0, AVal.int IntKind.i64 0, AVal.int IntKind.i64 0]], AObj.rows true 9 [[AVal.int IntKind.i64 7, AVal.str (ByteArray.mk #[]), AVal.str (ByteArray.mk #[]), AVal.str u, AVal.str (ByteArray.mk #[]), AVal.str (ByteArray.mk #[]), AVal.str (ByteArray.mk #[]), AVal.int IntKind.i64 0, AVal.int IntKind.i64 0]], AObj.rows true 1 [[AVal.str t0], [AVal.str t0]], AObj.rows true 1 [[AVal.str u]]]) (((!(fun r => true && r) ((fun r => true && r) ((fun r => true && r) ((fun r => ByteArray.toList u == ByteArray.toList u && r) true)))) = false) :: (tr 6 ++ ((false = false) :: (tr 13 ++ ((Owed.use (owed Tryd.prog 0) 34 [3] [AVal.slc false 3 1 0 1 (some 1)] [AObj.rows true 9 [[AVal.int IntKind.i64 7, AVal.str t0, AVal.str t0, AVal.str u, AVal.str t0, AVal.str t0, AVal.str t0, AVal.int IntKind.i64 0, AVal.int IntKind.i64 0]], AObj.rows true 9 [[AVal.int IntKind.i64 7, AVal.str t0, AVal.str t0, AVal.str (ByteArray.mk #[]), AVal.str (ByteArray.mk #[]), AVal.str (ByteArray.mk #[]), AVal.str (ByteArray.mk #[]), AVal.int IntKind.i64 0, AVal.int IntKind.i64 0]], AObj.rows true 1 [[AVal.str t0], [AVal.str t0]], AObj.rows true 1 [[AVal.str u]]] [AVal.slc false 0 1 0 1 (some 1)] [AObj.rows true 1 [[AVal.str u]]] (AVal.bool true) [AObj.rows true 1 [[AVal.str u]]]) :: (tr 34 ++ ((false = false) :: ((false = false) :: ((false = false) :: ((false = false) :: ((false = false) :: ((false = false) :: (tr 3 ++ ((Owed.use (owed Tryd.prog 0) 34 [2] [AVal.slc false 2 1 0 2 (some 2)] [AObj.rows true 9 [[AVal.int IntKind.i64 7, AVal.str t0, AVal.str t0, AVal.str u, AVal.str t0, AVal.str t0, AVal.str t0, AVal.int IntKind.i64 0, AVal.int IntKind.i64 0]], AObj.rows true 9 [[AVal.int IntKind.i64 7, AVal.str t0, AVal.str t0, AVal.str (ByteArray.mk #[]), AVal.str (ByteArray.mk #[]), AVal.str (ByteArray.mk #[]), AVal.str (ByteArray.mk #[]), AVal.int IntKind.i64 0, AVal.int IntKind.i64 0]], AObj.rows true 1 [[AVal.str t0], [AVal.str t0]]] [AVal.slc false 0 1 0 2 (some 2)] [AObj.rows true 1 [[AVal.str t0], [AVal.str t0]]] (AVal.bool false) [AObj.rows true 1 [[AVal.str t0], [AVal.str t0]]]) :: (tr 17 ++ [])))))))))))))))) by kernel_rfl) (allP_of ⟨h1, (trC 6 ⟨rfl, (trC 13 ⟨⟨h2, rfl, rfl, rfl⟩, (trC 34 ⟨rfl, ⟨rfl, ⟨rfl, ⟨rfl, ⟨rfl, ⟨rfl, (trC 3 ⟨⟨h3, rfl, rfl, rfl⟩, (trC 17 trivial)⟩)⟩⟩⟩⟩⟩⟩)⟩)⟩)⟩)).move ([]) (by kernel_rfl) (by kernel_rfl) (by kernel_rfl)

def ckO_T (u : ByteArray) (Q : AVal → AState → Prop) : Prop := (FOk Tryd.prog 34 [AVal.slc false 0 1 0 2 (some 2)] [AObj.rows true 1 [[AVal.str t0], [AVal.str t0]]] (AVal.bool false) [AObj.rows true 1 [[AVal.str t0], [AVal.str t0]]]) ∧ (FOk Tryd.prog 34 [AVal.slc false 0 1 0 1 (some 1)] [AObj.rows true 1 [[AVal.str u]]] (AVal.bool true) [AObj.rows true 1 [[AVal.str u]]]) ∧ ((!(fun r => true && r) ((fun r => true && r) ((fun r => true && r) ((fun r => ByteArray.toList u == ByteArray.toList u && r) true)))) = false) ∧ Q (AVal.int IntKind.i64 0) ([])
theorem ckO_wp (u : ByteArray) {Q : AVal → AState → Prop} (h : ckO_T u Q) : ∃ r σ', FOk Tryd.prog 21 ([op 7 t0 t0 u t0 t0 t0 0 0]) ([]) r σ' ∧ Q r σ' :=
  ⟨_, _, ckO_1 u (h.2.2.1) (h.2.1) (h.1), h.2.2.2⟩


theorem vld_1 (x : ByteArray)
    (h1 : FOk Tryd.prog 50 [AVal.str x] [] (AVal.bool true) []) :
    FOk Tryd.prog 35 ([AVal.str x]) ([]) (AVal.bool true) ([]) :=
  (evalF_ok followed Tryd.func35 (by kernel_rfl) (show evalF Tryd.prog Tryd.f35 ([AVal.str x]) ([]) ([Dec.use [] [AVal.str x] [] (AVal.bool true) []]) = .ok (FRes.mk (AVal.bool true) ([]) ((Owed.use (owed Tryd.prog 0) 50 [] [AVal.str x] [] [AVal.str x] [] (AVal.bool true) []) :: [])) by kernel_rfl) (allP_of ⟨⟨h1, rfl, rfl, rfl⟩, trivial⟩)).move ([]) (by kernel_rfl) (by kernel_rfl) (by kernel_rfl)

def vld_T (x : ByteArray) (Q : AVal → AState → Prop) : Prop := (FOk Tryd.prog 50 [AVal.str x] [] (AVal.bool true) []) ∧ Q (AVal.bool true) ([])
theorem vld_wp (x : ByteArray) {Q : AVal → AState → Prop} (h : vld_T x Q) : ∃ r σ', FOk Tryd.prog 35 ([AVal.str x]) ([]) r σ' ∧ Q r σ' :=
  ⟨_, _, vld_1 x (h.1), h.2⟩


theorem vlE_1 (x : ByteArray)
    (h1 : decide ((↑(ByteArray.size x) : Int) > 0) = false) :
    TripN Tryd.prog 0 (loopNo Tryd.f50 0) (mkR 169 [(0, AVal.str x)]) ([]) (AExit.exit 0) (mkR 169 [(0, AVal.str x)]) ([]) :=
  evalT (st := St.mk (mkR 169 [(0, AVal.str x)]) ([]) ([Dec.br false]) []) (st' := St.mk (mkR 169 [(0, AVal.str x), (7, AVal.str x), (8, AVal.int IntKind.i64 (↑(ByteArray.size x) : Int)), (9, AVal.tt false)]) ([]) ([]) ((decide ((↑(ByteArray.size x) : Int) > 0) = false) :: [])) followed (by kernel_rfl) (allP_of ⟨h1, trivial⟩) (keepM 169 [0]) ([]) (by kernel_rfl) (by kernel_rfl) (by kernel_rfl)

def vlE_T (x : ByteArray) (Q : AExit → Regs → AState → Prop) : Prop := (decide ((↑(ByteArray.size x) : Int) > 0) = false) ∧ Q (AExit.exit 0) (mkR 169 [(0, AVal.str x)]) ([])
theorem vlE_wp (x : ByteArray) {Q : AExit → Regs → AState → Prop} (h : vlE_T x Q) : ∃ e rg' σ', TripN Tryd.prog 0 (loopNo Tryd.f50 0) (mkR 169 [(0, AVal.str x)]) ([]) e rg' σ' ∧ Q e rg' σ' :=
  ⟨_, _, _, vlE_1 x (h.1), h.2⟩


theorem vlS_1 (x : ByteArray)
    (h1 : decide ((↑(ByteArray.size (ByteArray.extract x 1 (Int.toNat (↑(ByteArray.size x) : Int)))) : Int) > 8) = false)
    (h2 : decide ((↑0 : Int) ≤ 1 ∧ 1 ≤ (↑(ByteArray.size x) : Int) ∧ (↑(ByteArray.size x) : Int) ≤ (↑(ByteArray.size x) : Int)) = true)
    (h3 : decide (byteAt x 0 < 128) = true)
    (h4 : decide ((↑0 : Int) ≤ 0 ∧ 0 < (↑(ByteArray.size x) : Int)) = true)
    (h5 : decide ((↑(ByteArray.size x) : Int) > 0) = true) :
    TripN Tryd.prog 0 (loopNo Tryd.f50 0) (mkR 169 [(0, AVal.str x)]) ([]) (AExit.normal) (mkR 169 [(0, AVal.str (ByteArray.extract x 1 (Int.toNat (↑(ByteArray.size x) : Int))))]) ([]) :=
  evalT (st := St.mk (mkR 169 [(0, AVal.str x)]) ([]) ([Dec.br true, Dec.br true, Dec.br false]) []) (st' := St.mk (mkR 169 [(0, AVal.str (ByteArray.extract x 1 (Int.toNat (↑(ByteArray.size x) : Int)))), (3, AVal.int IntKind.u8 (byteAt x 0)), (7, AVal.str x), (8, AVal.int IntKind.i64 (↑(ByteArray.size x) : Int)), (9, AVal.tt true), (10, AVal.str x), (11, AVal.int IntKind.u8 (byteAt x 0)), (12, AVal.int IntKind.u8 (byteAt x 0)), (13, AVal.tt true), (14, AVal.str x), (15, AVal.str (ByteArray.extract x 1 (Int.toNat (↑(ByteArray.size x) : Int)))), (16, AVal.str (ByteArray.extract x 1 (Int.toNat (↑(ByteArray.size x) : Int)))), (17, AVal.int IntKind.i64 (↑(ByteArray.size (ByteArray.extract x 1 (Int.toNat (↑(ByteArray.size x) : Int)))) : Int)), (18, AVal.bool (decide ((↑(ByteArray.size (ByteArray.extract x 1 (Int.toNat (↑(ByteArray.size x) : Int)))) : Int) > 8))), (19, AVal.tt false), (20, AVal.tuple []), (21, AVal.tuple []), (22, AVal.tuple []), (23, AVal.tuple []), (24, AVal.tt false)]) ([]) ([]) ((decide ((↑(ByteArray.size (ByteArray.extract x 1 (Int.toNat (↑(ByteArray.size x) : Int)))) : Int) > 8) = false) :: ((decide ((↑0 : Int) ≤ 1 ∧ 1 ≤ (↑(ByteArray.size x) : Int) ∧ (↑(ByteArray.size x) : Int) ≤ (↑(ByteArray.size x) : Int)) = true) :: ((decide (byteAt x 0 < 128) = true) :: ((decide ((↑0 : Int) ≤ 0 ∧ 0 < (↑(ByteArray.size x) : Int)) = true) :: ((decide ((↑(ByteArray.size x) : Int) > 0) = true) :: [])))))) followed (by kernel_rfl) (allP_of ⟨h1, ⟨h2, ⟨h3, ⟨h4, ⟨h5, trivial⟩⟩⟩⟩⟩) (keepM 169 [0]) ([]) (by kernel_rfl) (by kernel_rfl) (by kernel_rfl)

def vlS_T (x : ByteArray) (Q : AExit → Regs → AState → Prop) : Prop := (decide ((↑(ByteArray.size x) : Int) > 0) = true) ∧ (decide ((↑0 : Int) ≤ 0 ∧ 0 < (↑(ByteArray.size x) : Int)) = true) ∧ (decide (byteAt x 0 < 128) = true) ∧ (decide ((↑0 : Int) ≤ 1 ∧ 1 ≤ (↑(ByteArray.size x) : Int) ∧ (↑(ByteArray.size x) : Int) ≤ (↑(ByteArray.size x) : Int)) = true) ∧ (decide ((↑(ByteArray.size (ByteArray.extract x 1 (Int.toNat (↑(ByteArray.size x) : Int)))) : Int) > 8) = false) ∧ Q (AExit.normal) (mkR 169 [(0, AVal.str (ByteArray.extract x 1 (Int.toNat (↑(ByteArray.size x) : Int))))]) ([])
theorem vlS_wp (x : ByteArray) {Q : AExit → Regs → AState → Prop} (h : vlS_T x Q) : ∃ e rg' σ', TripN Tryd.prog 0 (loopNo Tryd.f50 0) (mkR 169 [(0, AVal.str x)]) ([]) e rg' σ' ∧ Q e rg' σ' :=
  ⟨_, _, _, vlS_1 x (h.2.2.2.2.1) (h.2.2.2.1) (h.2.2.1) (h.2.1) (h.1), h.2.2.2.2.2⟩


theorem vl_1 (x : ByteArray) (y : ByteArray)
    (h1 : TripN Tryd.prog 0 (Code.loop (loopNo Tryd.f50 0)) (mkR 169 [(0, AVal.str x)]) [] (AExit.exit 0) (mkR 169 [(0, AVal.str y)]) []) :
    FOk Tryd.prog 50 ([AVal.str x]) ([]) (AVal.bool true) ([]) :=
  (evalF_ok followed Tryd.func50 (by kernel_rfl) (show evalF Tryd.prog Tryd.f50 ([AVal.str x]) ([]) ([Dec.compact (keepM 169 [0]) [], Dec.loop (AExit.exit 0) (mkR 169 [(0, AVal.str y)]) []]) = .ok (FRes.mk (AVal.bool true) ([]) ((Owed.loop (owed Tryd.prog 0) (loopNo Tryd.f50 0) (mkR 169 [(0, AVal.str x)]) [] (AExit.exit 0) (mkR 169 [(0, AVal.str y)]) []) :: [])) by kernel_rfl) (allP_of ⟨h1, trivial⟩)).move ([]) (by kernel_rfl) (by kernel_rfl) (by kernel_rfl)

def vl_T (x : ByteArray) (y : ByteArray) (Q : AVal → AState → Prop) : Prop := (TripN Tryd.prog 0 (Code.loop (loopNo Tryd.f50 0)) (mkR 169 [(0, AVal.str x)]) [] (AExit.exit 0) (mkR 169 [(0, AVal.str y)]) []) ∧ Q (AVal.bool true) ([])
theorem vl_wp (x : ByteArray) (y : ByteArray) {Q : AVal → AState → Prop} (h : vl_T x y Q) : ∃ r σ', FOk Tryd.prog 50 ([AVal.str x]) ([]) r σ' ∧ Q r σ' :=
  ⟨_, _, vl_1 x y (h.1), h.2⟩


end Go.LM
end

section
set_option linter.unusedVariables false
set_option maxRecDepth 100000
namespace Go.LM
open Go Go.Abs Go.Proofs
theorem wJa_1 :
    FOk Tryd.prog 31 ([AVal.ptr 0 2 0 0, ky tw tc, AVal.ptr 1 2 0 0, op 2 tw tc tann t0 t0 t0 0 0]) (W5 tw tc [] []) (AVal.agg [AVal.int IntKind.i64 0, AVal.int IntKind.i64 0, AVal.fsl true 2 [] none]) ([AObj.rows false 2 [[AVal.map 2, AVal.map 3]], AObj.rows false 2 [[AVal.map 4, AVal.fsl true 2 [] none]], AObj.mp false [(AVal.agg [AVal.str tw, AVal.str tc], AVal.ptr 1 2 0 0)], AObj.mp true [], AObj.mp true [(AVal.str tann, AVal.tt true)]]) :=
  (evalF_ok followed Tryd.func31 (by kernel_rfl) (show evalF Tryd.prog Tryd.f31 ([AVal.ptr 0 2 0 0, ky tw tc, AVal.ptr 1 2 0 0, op 2 tw tc tann t0 t0 t0 0 0]) (W5 tw tc [] []) ([Dec.br false, Dec.br false, Dec.go, Dec.br false, Dec.br true, Dec.go, Dec.br false, Dec.br true]) = .ok (FRes.mk (AVal.agg [AVal.int IntKind.i64 0, AVal.int IntKind.i64 0, AVal.fsl true 2 [] none]) ([AObj.rows false 2 [[AVal.map 2, AVal.map 3]], AObj.rows false 2 [[AVal.map 4, AVal.fsl true 2 [] none]], AObj.mp false [(AVal.agg [AVal.str tw, AVal.str tc], AVal.ptr 1 2 0 0)], AObj.mp true [], AObj.mp true [(AVal.str tann, AVal.tt true)], AObj.rows true 2 [[AVal.str tw, AVal.str tc]], AObj.rows true 9 [[AVal.int IntKind.i64 2, AVal.str tw, AVal.str tc, AVal.str tann, AVal.str t0, AVal.str t0, AVal.str t0, AVal.int IntKind.i64 0, AVal.int IntKind.i64 0]], AObj.rows false 3 [[AVal.int IntKind.i64 0, AVal.int IntKind.i64 0, AVal.fsl true 0 [] (some 0)]]]) (tr 33 ++ ((false = false) :: (tr 42 ++ ((false = false) :: (tr 28 ++ ((false = false) :: ((false = false) :: (tr 3 ++ []))))))))) by kernel_rfl) (allP_of (trC 33 ⟨rfl, (trC 42 ⟨rfl, (trC 28 ⟨rfl, ⟨rfl, (trC 3 trivial)⟩⟩)⟩)⟩))).move ([0, 1, 2, 3, 4]) (by kernel_rfl) (by kernel_rfl) (by kernel_rfl)

def wJa_T (Q : AVal → AState → Prop) : Prop := Q (AVal.agg [AVal.int IntKind.i64 0, AVal.int IntKind.i64 0, AVal.fsl true 2 [] none]) ([AObj.rows false 2 [[AVal.map 2, AVal.map 3]], AObj.rows false 2 [[AVal.map 4, AVal.fsl true 2 [] none]], AObj.mp false [(AVal.agg [AVal.str tw, AVal.str tc], AVal.ptr 1 2 0 0)], AObj.mp true [], AObj.mp true [(AVal.str tann, AVal.tt true)]])
theorem wJa_wp {Q : AVal → AState → Prop} (h : wJa_T Q) : ∃ r σ', FOk Tryd.prog 31 ([AVal.ptr 0 2 0 0, ky tw tc, AVal.ptr 1 2 0 0, op 2 tw tc tann t0 t0 t0 0 0]) (W5 tw tc [] []) r σ' ∧ Q r σ' :=
  ⟨_, _, wJa_1, h⟩


theorem wJb_1 :
    FOk Tryd.prog 31 ([AVal.ptr 0 2 0 0, ky tw tc, AVal.ptr 1 2 0 0, op 2 tw tc tbob t0 t0 t0 0 0]) (W5 tw tc [] mA) (AVal.agg [AVal.int IntKind.i64 0, AVal.int IntKind.i64 0, AVal.fsl true 2 [] none]) ([AObj.rows false 2 [[AVal.map 2, AVal.map 3]], AObj.rows false 2 [[AVal.map 4, AVal.fsl true 2 [] none]], AObj.mp false [(AVal.agg [AVal.str tw, AVal.str tc], AVal.ptr 1 2 0 0)], AObj.mp true [], AObj.mp true [(AVal.str tann, AVal.tt true), (AVal.str tbob, AVal.tt true)]]) :=
  (evalF_ok followed Tryd.func31 (by kernel_rfl) (show evalF Tryd.prog Tryd.f31 ([AVal.ptr 0 2 0 0, ky tw tc, AVal.ptr 1 2 0 0, op 2 tw tc tbob t0 t0 t0 0 0]) (W5 tw tc [] mA) ([Dec.br false, Dec.br false, Dec.go, Dec.br false, Dec.br true, Dec.go, Dec.br false, Dec.br true]) = .ok (FRes.mk (AVal.agg [AVal.int IntKind.i64 0, AVal.int IntKind.i64 0, AVal.fsl true 2 [] none]) ([AObj.rows false 2 [[AVal.map 2, AVal.map 3]], AObj.rows false 2 [[AVal.map 4, AVal.fsl true 2 [] none]], AObj.mp false [(AVal.agg [AVal.str tw, AVal.str tc], AVal.ptr 1 2 0 0)], AObj.mp true [], AObj.mp true [(AVal.str tann, AVal.tt true), (AVal.str tbob, AVal.tt true)], AObj.rows true 2 [[AVal.str tw, AVal.str tc]], AObj.rows true 9 [[AVal.int IntKind.i64 2, AVal.str tw, AVal.str tc, AVal.str tbob, AVal.str t0, AVal.str t0, AVal.str t0, AVal.int IntKind.i64 0, AVal.int IntKind.i64 0]], AObj.rows false 3 [[AVal.int IntKind.i64 0, AVal.int IntKind.i64 0, AVal.fsl true 0 [] (some 0)]]]) (tr 33 ++ ((false = false) :: (tr 42 ++ ((false = false) :: (tr 28 ++ ((false = false) :: ((false = false) :: (tr 3 ++ []))))))))) by kernel_rfl) (allP_of (trC 33 ⟨rfl, (trC 42 ⟨rfl, (trC 28 ⟨rfl, ⟨rfl, (trC 3 trivial)⟩⟩)⟩)⟩))).move ([0, 1, 2, 3, 4]) (by kernel_rfl) (by kernel_rfl) (by kernel_rfl)

def wJb_T (Q : AVal → AState → Prop) : Prop := Q (AVal.agg [AVal.int IntKind.i64 0, AVal.int IntKind.i64 0, AVal.fsl true 2 [] none]) ([AObj.rows false 2 [[AVal.map 2, AVal.map 3]], AObj.rows false 2 [[AVal.map 4, AVal.fsl true 2 [] none]], AObj.mp false [(AVal.agg [AVal.str tw, AVal.str tc], AVal.ptr 1 2 0 0)], AObj.mp true [], AObj.mp true [(AVal.str tann, AVal.tt true), (AVal.str tbob, AVal.tt true)]])
theorem wJb_wp {Q : AVal → AState → Prop} (h : wJb_T Q) : ∃ r σ', FOk Tryd.prog 31 ([AVal.ptr 0 2 0 0, ky tw tc, AVal.ptr 1 2 0 0, op 2 tw tc tbob t0 t0 t0 0 0]) (W5 tw tc [] mA) r σ' ∧ Q r σ' :=
  ⟨_, _, wJb_1, h⟩


theorem wP0_1 (x : ByteArray) :
    FOk Tryd.prog 31 ([AVal.ptr 0 2 0 0, ky tw tc, AVal.ptr 1 2 0 0, op 3 tw tc tann x t0 t0 0 0]) (W5 tw tc [] mAB) (AVal.agg [AVal.int IntKind.i64 0, AVal.int IntKind.i64 0, AVal.fsl true 2 [] none]) ([AObj.rows false 2 [[AVal.map 2, AVal.map 3]], AObj.rows false 2 [[AVal.map 4, AVal.slc false 5 2 0 1 none]], AObj.mp false [(AVal.agg [AVal.str tw, AVal.str tc], AVal.ptr 1 2 0 0)], AObj.mp true [], AObj.mp true [(AVal.str tann, AVal.tt true), (AVal.str tbob, AVal.tt true)], AObj.rows true 2 [[AVal.str tann, AVal.str x]]]) :=
  (evalF_ok followed Tryd.func31 (by kernel_rfl) (show evalF Tryd.prog Tryd.f31 ([AVal.ptr 0 2 0 0, ky tw tc, AVal.ptr 1 2 0 0, op 3 tw tc tann x t0 t0 0 0]) (W5 tw tc [] mAB) ([Dec.br false, Dec.br false, Dec.go, Dec.br false, Dec.br false, Dec.br false, Dec.go, Dec.br false, Dec.br false]) = .ok (FRes.mk (AVal.agg [AVal.int IntKind.i64 0, AVal.int IntKind.i64 0, AVal.fsl true 2 [] none]) ([AObj.rows false 2 [[AVal.map 2, AVal.map 3]], AObj.rows false 2 [[AVal.map 4, AVal.slc false 9 2 0 1 none]], AObj.mp false [(AVal.agg [AVal.str tw, AVal.str tc], AVal.ptr 1 2 0 0)], AObj.mp true [], AObj.mp true [(AVal.str tann, AVal.tt true), (AVal.str tbob, AVal.tt true)], AObj.rows true 2 [[AVal.str tw, AVal.str tc]], AObj.rows true 9 [[AVal.int IntKind.i64 3, AVal.str tw, AVal.str tc, AVal.str tann, AVal.str x, AVal.str t0, AVal.str t0, AVal.int IntKind.i64 0, AVal.int IntKind.i64 0]], AObj.rows false 3 [[AVal.int IntKind.i64 0, AVal.int IntKind.i64 0, AVal.fsl true 0 [] (some 0)]], AObj.rows true 2 [[AVal.str tann, AVal.str x]], AObj.rows true 2 [[AVal.str tann, AVal.str x]]]) (tr 64 ++ ((false = false) :: (tr 2 ++ ((false = false) :: (tr 30 ++ ((false = false) :: (tr 21 ++ ((false = false) :: (tr 12 ++ ((false = false) :: (tr 28 ++ ((false = false) :: ((false = false) :: (tr 3 ++ []))))))))))))))) by kernel_rfl) (allP_of (trC 64 ⟨rfl, (trC 2 ⟨rfl, (trC 30 ⟨rfl, (trC 21 ⟨rfl, (trC 12 ⟨rfl, (trC 28 ⟨rfl, ⟨rfl, (trC 3 trivial)⟩⟩)⟩)⟩)⟩)⟩)⟩))).move ([0, 1, 2, 3, 4, 9]) (by kernel_rfl) (by kernel_rfl) (by kernel_rfl)

def wP0_T (x : ByteArray) (Q : AVal → AState → Prop) : Prop := Q (AVal.agg [AVal.int IntKind.i64 0, AVal.int IntKind.i64 0, AVal.fsl true 2 [] none]) ([AObj.rows false 2 [[AVal.map 2, AVal.map 3]], AObj.rows false 2 [[AVal.map 4, AVal.slc false 5 2 0 1 none]], AObj.mp false [(AVal.agg [AVal.str tw, AVal.str tc], AVal.ptr 1 2 0 0)], AObj.mp true [], AObj.mp true [(AVal.str tann, AVal.tt true), (AVal.str tbob, AVal.tt true)], AObj.rows true 2 [[AVal.str tann, AVal.str x]]])
theorem wP0_wp (x : ByteArray) {Q : AVal → AState → Prop} (h : wP0_T x Q) : ∃ r σ', FOk Tryd.prog 31 ([AVal.ptr 0 2 0 0, ky tw tc, AVal.ptr 1 2 0 0, op 3 tw tc tann x t0 t0 0 0]) (W5 tw tc [] mAB) r σ' ∧ Q r σ' :=
  ⟨_, _, wP0_1 x, h⟩


theorem wP_1 (x : ByteArray) (b : Bool) (ps : List (List AVal))
    (h1 : decide ((List.length ps + 1) * 32 ≤ 140737488355328 ∧ List.length ps + 1 ≤ 9223372036854775807) = true)
    (h2 : decide ((↑(List.length ps) : Int) ≥ 1024) = false) :
    FOk Tryd.prog 31 ([AVal.ptr 0 2 0 0, ky tw tc, AVal.ptr 1 2 0 0, op 3 tw tc tann x t0 t0 0 0]) (W6 tw tc [] mAB b ps) (AVal.agg [AVal.int IntKind.i64 0, AVal.int IntKind.i64 (IntKind.wrap IntKind.i64 ((↑(List.length ps + 1) : Int) - 1)), AVal.fsl true 2 [] none]) ([AObj.rows false 2 [[AVal.map 2, AVal.map 3]], AObj.rows false 2 [[AVal.map 4, AVal.slc (b && false) 6 2 0 (List.length ps + 1) none]], AObj.mp false [(AVal.agg [AVal.str tw, AVal.str tc], AVal.ptr 1 2 0 0)], AObj.mp true [], AObj.mp true [(AVal.str tann, AVal.tt true), (AVal.str tbob, AVal.tt true)], AObj.dead, AObj.rows true 2 (ps ++ [[AVal.str tann, AVal.str x]])]) :=
  (evalF_ok followed Tryd.func31 (by kernel_rfl) (show evalF Tryd.prog Tryd.f31 ([AVal.ptr 0 2 0 0, ky tw tc, AVal.ptr 1 2 0 0, op 3 tw tc tann x t0 t0 0 0]) (W6 tw tc [] mAB b ps) ([Dec.br false, Dec.br false, Dec.go, Dec.br false, Dec.br false, Dec.br false, Dec.go, Dec.br false, Dec.br false]) = .ok (FRes.mk (AVal.agg [AVal.int IntKind.i64 0, AVal.int IntKind.i64 (IntKind.wrap IntKind.i64 ((↑(List.length ps + 1) : Int) - 1)), AVal.fsl true 2 [] none]) ([AObj.rows false 2 [[AVal.map 2, AVal.map 3]], AObj.rows false 2 [[AVal.map 4, AVal.slc (b && false) 10 2 0 (List.length ps + 1) none]], AObj.mp false [(AVal.agg [AVal.str tw, AVal.str tc], AVal.ptr 1 2 0 0)], AObj.mp true [], AObj.mp true [(AVal.str tann, AVal.tt true), (AVal.str tbob, AVal.tt true)], AObj.dead, AObj.rows true 2 [[AVal.str tw, AVal.str tc]], AObj.rows true 9 [[AVal.int IntKind.i64 3, AVal.str tw, AVal.str tc, AVal.str tann, AVal.str x, AVal.str t0, AVal.str t0, AVal.int IntKind.i64 0, AVal.int IntKind.i64 0]], AObj.rows false 3 [[AVal.int IntKind.i64 0, AVal.int IntKind.i64 (IntKind.wrap IntKind.i64 ((↑(List.length ps + 1) : Int) - 1)), AVal.fsl true 0 [] (some 0)]], AObj.rows true 2 [[AVal.str tann, AVal.str x]], AObj.rows true 2 (ps ++ [[AVal.str tann, AVal.str x]])]) (tr 17 ++ ((decide (List.length ps = List.length ps) = true) :: ((decide ((List.length ps + 1) * 32 ≤ 140737488355328 ∧ List.length ps + 1 ≤ 9223372036854775807) = true) :: (tr 46 ++ ((decide ((↑(List.length ps) : Int) ≥ 1024) = false) :: (tr 2 ++ ((false = false) :: (tr 30 ++ ((false = false) :: (tr 21 ++ ((false = false) :: (tr 12 ++ ((false = false) :: (tr 28 ++ ((false = false) :: ((false = false) :: (tr 3 ++ [])))))))))))))))))) by kernel_rfl) (allP_of (trC 17 ⟨decide_eq_true rfl, ⟨h1, (trC 46 ⟨h2, (trC 2 ⟨rfl, (trC 30 ⟨rfl, (trC 21 ⟨rfl, (trC 12 ⟨rfl, (trC 28 ⟨rfl, ⟨rfl, (trC 3 trivial)⟩⟩)⟩)⟩)⟩)⟩)⟩)⟩⟩))).move ([0, 1, 2, 3, 4, 5, 10]) (by kernel_rfl) (by kernel_rfl) (by kernel_rfl)

def wP_T (x : ByteArray) (b : Bool) (ps : List (List AVal)) (Q : AVal → AState → Prop) : Prop := (decide ((↑(List.length ps) : Int) ≥ 1024) = false) ∧ (decide ((List.length ps + 1) * 32 ≤ 140737488355328 ∧ List.length ps + 1 ≤ 9223372036854775807) = true) ∧ Q (AVal.agg [AVal.int IntKind.i64 0, AVal.int IntKind.i64 (IntKind.wrap IntKind.i64 ((↑(List.length ps + 1) : Int) - 1)), AVal.fsl true 2 [] none]) ([AObj.rows false 2 [[AVal.map 2, AVal.map 3]], AObj.rows false 2 [[AVal.map 4, AVal.slc (b && false) 6 2 0 (List.length ps + 1) none]], AObj.mp false [(AVal.agg [AVal.str tw, AVal.str tc], AVal.ptr 1 2 0 0)], AObj.mp true [], AObj.mp true [(AVal.str tann, AVal.tt true), (AVal.str tbob, AVal.tt true)], AObj.dead, AObj.rows true 2 (ps ++ [[AVal.str tann, AVal.str x]])])
theorem wP_wp (x : ByteArray) (b : Bool) (ps : List (List AVal)) {Q : AVal → AState → Prop} (h : wP_T x b ps Q) : ∃ r σ', FOk Tryd.prog 31 ([AVal.ptr 0 2 0 0, ky tw tc, AVal.ptr 1 2 0 0, op 3 tw tc tann x t0 t0 0 0]) (W6 tw tc [] mAB b ps) r σ' ∧ Q r σ' :=
  ⟨_, _, wP_1 x b ps (h.2.1) (h.1), h.2.2⟩


theorem wP0a_1 (x : ByteArray) :
    FOk Tryd.prog 31 ([AVal.ptr 0 2 0 0, ky tw tc, AVal.ptr 1 2 0 0, op 3 tw tc tann x t0 t0 0 0]) (W5 tw tc [] mA) (AVal.agg [AVal.int IntKind.i64 0, AVal.int IntKind.i64 0, AVal.fsl true 2 [] none]) ([AObj.rows false 2 [[AVal.map 2, AVal.map 3]], AObj.rows false 2 [[AVal.map 4, AVal.slc false 5 2 0 1 none]], AObj.mp false [(AVal.agg [AVal.str tw, AVal.str tc], AVal.ptr 1 2 0 0)], AObj.mp true [], AObj.mp true [(AVal.str tann, AVal.tt true)], AObj.rows true 2 [[AVal.str tann, AVal.str x]]]) :=
  (evalF_ok followed Tryd.func31 (by kernel_rfl) (show evalF Tryd.prog Tryd.f31 ([AVal.ptr 0 2 0 0, ky tw tc, AVal.ptr 1 2 0 0, op 3 tw tc tann x t0 t0 0 0]) (W5 tw tc [] mA) ([Dec.br false, Dec.br false, Dec.go, Dec.br false, Dec.br false, Dec.br false, Dec.go, Dec.br false, Dec.br false]) = .ok (FRes.mk (AVal.agg [AVal.int IntKind.i64 0, AVal.int IntKind.i64 0, AVal.fsl true 2 [] none]) ([AObj.rows false 2 [[AVal.map 2, AVal.map 3]], AObj.rows false 2 [[AVal.map 4, AVal.slc false 9 2 0 1 none]], AObj.mp false [(AVal.agg [AVal.str tw, AVal.str tc], AVal.ptr 1 2 0 0)], AObj.mp true [], AObj.mp true [(AVal.str tann, AVal.tt true)], AObj.rows true 2 [[AVal.str tw, AVal.str tc]], AObj.rows true 9 [[AVal.int IntKind.i64 3, AVal.str tw, AVal.str tc, AVal.str tann, AVal.str x, AVal.str t0, AVal.str t0, AVal.int IntKind.i64 0, AVal.int IntKind.i64 0]], AObj.rows false 3 [[AVal.int IntKind.i64 0, AVal.int IntKind.i64 0, AVal.fsl true 0 [] (some 0)]], AObj.rows true 2 [[AVal.str tann, AVal.str x]], AObj.rows true 2 [[AVal.str tann, AVal.str x]]]) (tr 64 ++ ((false = false) :: (tr 2 ++ ((false = false) :: (tr 30 ++ ((false = false) :: (tr 21 ++ ((false = false) :: (tr 12 ++ ((false = false) :: (tr 28 ++ ((false = false) :: ((false = false) :: (tr 3 ++ []))))))))))))))) by kernel_rfl) (allP_of (trC 64 ⟨rfl, (trC 2 ⟨rfl, (trC 30 ⟨rfl, (trC 21 ⟨rfl, (trC 12 ⟨rfl, (trC 28 ⟨rfl, ⟨rfl, (trC 3 trivial)⟩⟩)⟩)⟩)⟩)⟩)⟩))).move ([0, 1, 2, 3, 4, 9]) (by kernel_rfl) (by kernel_rfl) (by kernel_rfl)

def wP0a_T (x : ByteArray) (Q : AVal → AState → Prop) : Prop := Q (AVal.agg [AVal.int IntKind.i64 0, AVal.int IntKind.i64 0, AVal.fsl true 2 [] none]) ([AObj.rows false 2 [[AVal.map 2, AVal.map 3]], AObj.rows false 2 [[AVal.map 4, AVal.slc false 5 2 0 1 none]], AObj.mp false [(AVal.agg [AVal.str tw, AVal.str tc], AVal.ptr 1 2 0 0)], AObj.mp true [], AObj.mp true [(AVal.str tann, AVal.tt true)], AObj.rows true 2 [[AVal.str tann, AVal.str x]]])
theorem wP0a_wp (x : ByteArray) {Q : AVal → AState → Prop} (h : wP0a_T x Q) : ∃ r σ', FOk Tryd.prog 31 ([AVal.ptr 0 2 0 0, ky tw tc, AVal.ptr 1 2 0 0, op 3 tw tc tann x t0 t0 0 0]) (W5 tw tc [] mA) r σ' ∧ Q r σ' :=
  ⟨_, _, wP0a_1 x, h⟩


theorem wPa_1 (x : ByteArray) (b : Bool) (ps : List (List AVal))
    (h1 : decide ((List.length ps + 1) * 32 ≤ 140737488355328 ∧ List.length ps + 1 ≤ 9223372036854775807) = true)
    (h2 : decide ((↑(List.length ps) : Int) ≥ 1024) = false) :
    FOk Tryd.prog 31 ([AVal.ptr 0 2 0 0, ky tw tc, AVal.ptr 1 2 0 0, op 3 tw tc tann x t0 t0 0 0]) (W6 tw tc [] mA b ps) (AVal.agg [AVal.int IntKind.i64 0, AVal.int IntKind.i64 (IntKind.wrap IntKind.i64 ((↑(List.length ps + 1) : Int) - 1)), AVal.fsl true 2 [] none]) ([AObj.rows false 2 [[AVal.map 2, AVal.map 3]], AObj.rows false 2 [[AVal.map 4, AVal.slc (b && false) 6 2 0 (List.length ps + 1) none]], AObj.mp false [(AVal.agg [AVal.str tw, AVal.str tc], AVal.ptr 1 2 0 0)], AObj.mp true [], AObj.mp true [(AVal.str tann, AVal.tt true)], AObj.dead, AObj.rows true 2 (ps ++ [[AVal.str tann, AVal.str x]])]) :=
  (evalF_ok followed Tryd.func31 (by kernel_rfl) (show evalF Tryd.prog Tryd.f31 ([AVal.ptr 0 2 0 0, ky tw tc, AVal.ptr 1 2 0 0, op 3 tw tc tann x t0 t0 0 0]) (W6 tw tc [] mA b ps) ([Dec.br false, Dec.br false, Dec.go, Dec.br false, Dec.br false, Dec.br false, Dec.go, Dec.br false, Dec.br false]) = .ok (FRes.mk (AVal.agg [AVal.int IntKind.i64 0, AVal.int IntKind.i64 (IntKind.wrap IntKind.i64 ((↑(List.length ps + 1) : Int) - 1)), AVal.fsl true 2 [] none]) ([AObj.rows false 2 [[AVal.map 2, AVal.map 3]], AObj.rows false 2 [[AVal.map 4, AVal.slc (b && false) 10 2 0 (List.length ps + 1) none]], AObj.mp false [(AVal.agg [AVal.str tw, AVal.str tc], AVal.ptr 1 2 0 0)], AObj.mp true [], AObj.mp true [(AVal.str tann, AVal.tt true)], AObj.dead, AObj.rows true 2 [[AVal.str tw, AVal.str tc]], AObj.rows true 9 [[AVal.int IntKind.i64 3, AVal.str tw, AVal.str tc, AVal.str tann, AVal.str x, AVal.str t0, AVal.str t0, AVal.int IntKind.i64 0, AVal.int IntKind.i64 0]], AObj.rows false 3 [[AVal.int IntKind.i64 0, AVal.int IntKind.i64 (IntKind.wrap IntKind.i64 ((↑(List.length ps + 1) : Int) - 1)), AVal.fsl true 0 [] (some 0)]], AObj.rows true 2 [[AVal.str tann, AVal.str x]], AObj.rows true 2 (ps ++ [[AVal.str tann, AVal.str x]])]) (tr 17 ++ ((decide (List.length ps = List.length ps) = true) :: ((decide ((List.length ps + 1) * 32 ≤ 140737488355328 ∧ List.length ps + 1 ≤ 9223372036854775807) = true) :: (tr 46 ++ ((decide ((↑(List.length ps) : Int) ≥ 1024) = false) :: (tr 2 ++ ((false = false) :: (tr 30 ++ ((false = false) :: (tr 21 ++ ((false = false) :: (tr 12 ++ ((false = false) :: (tr 28 ++ ((false = false) :: ((false = false) :: (tr 3 ++ [])))))))))))))))))) by kernel_rfl) (allP_of (trC 17 ⟨decide_eq_true rfl, ⟨h1, (trC 46 ⟨h2, (trC 2 ⟨rfl, (trC 30 ⟨rfl, (trC 21 ⟨rfl, (trC 12 ⟨rfl, (trC 28 ⟨rfl, ⟨rfl, (trC 3 trivial)⟩⟩)⟩)⟩)⟩)⟩)⟩)⟩⟩))).move ([0, 1, 2, 3, 4, 5, 10]) (by kernel_rfl) (by kernel_rfl) (by kernel_rfl)

def wPa_T (x : ByteArray) (b : Bool) (ps : List (List AVal)) (Q : AVal → AState → Prop) : Prop := (decide ((↑(List.length ps) : Int) ≥ 1024) = false) ∧ (decide ((List.length ps + 1) * 32 ≤ 140737488355328 ∧ List.length ps + 1 ≤ 9223372036854775807) = true) ∧ Q (AVal.agg [AVal.int IntKind.i64 0, AVal.int IntKind.i64 (IntKind.wrap IntKind.i64 ((↑(List.length ps + 1) : Int) - 1)), AVal.fsl true 2 [] none]) ([AObj.rows false 2 [[AVal.map 2, AVal.map 3]], AObj.rows false 2 [[AVal.map 4, AVal.slc (b && false) 6 2 0 (List.length ps + 1) none]], AObj.mp false [(AVal.agg [AVal.str tw, AVal.str tc], AVal.ptr 1 2 0 0)], AObj.mp true [], AObj.mp true [(AVal.str tann, AVal.tt true)], AObj.dead, AObj.rows true 2 (ps ++ [[AVal.str tann, AVal.str x]])])
theorem wPa_wp (x : ByteArray) (b : Bool) (ps : List (List AVal)) {Q : AVal → AState → Prop} (h : wPa_T x b ps Q) : ∃ r σ', FOk Tryd.prog 31 ([AVal.ptr 0 2 0 0, ky tw tc, AVal.ptr 1 2 0 0, op 3 tw tc tann x t0 t0 0 0]) (W6 tw tc [] mA b ps) r σ' ∧ Q r σ' :=
  ⟨_, _, wPa_1 x b ps (h.2.1) (h.1), h.2.2⟩


theorem wO_1 (x : ByteArray) (b : Bool) (ps : List (List AVal))
    (h1 : FOk Tryd.prog 28 [AVal.int IntKind.i64 92] [] (AVal.agg [AVal.int IntKind.i64 92, AVal.int IntKind.i64 0, AVal.fsl true 2 [] none]) []) :
    FOk Tryd.prog 31 ([AVal.ptr 0 2 0 0, ky tw tc, AVal.ptr 1 2 0 0, op 3 tw tc tann x t0 t0 0 0]) (W6 tw tc mA [] b ps) (AVal.agg [AVal.int IntKind.i64 92, AVal.int IntKind.i64 0, AVal.fsl true 2 [] none]) ([AObj.rows false 2 [[AVal.map 2, AVal.map 3]], AObj.rows false 2 [[AVal.map 4, AVal.slc b 5 2 0 (List.length ps) none]], AObj.mp false [(AVal.agg [AVal.str tw, AVal.str tc], AVal.ptr 1 2 0 0)], AObj.mp true [(AVal.str tann, AVal.tt true)], AObj.mp true [], AObj.rows true 2 ps]) :=
  (evalF_ok followed Tryd.func31 (by kernel_rfl) (show evalF Tryd.prog Tryd.f31 ([AVal.ptr 0 2 0 0, ky tw tc, AVal.ptr 1 2 0 0, op 3 tw tc tann x t0 t0 0 0]) (W6 tw tc mA [] b ps) ([Dec.br false, Dec.br false, Dec.go, Dec.br true, Dec.use [] [AVal.int IntKind.i64 92] [] (rep 92 0 (AVal.fsl true 2 [] none)) []]) = .ok (FRes.mk (AVal.agg [AVal.int IntKind.i64 92, AVal.int IntKind.i64 0, AVal.fsl true 2 [] none]) ([AObj.rows false 2 [[AVal.map 2, AVal.map 3]], AObj.rows false 2 [[AVal.map 4, AVal.slc b 5 2 0 (List.length ps) none]], AObj.mp false [(AVal.agg [AVal.str tw, AVal.str tc], AVal.ptr 1 2 0 0)], AObj.mp true [(AVal.str tann, AVal.tt true)], AObj.mp true [], AObj.rows true 2 ps, AObj.rows true 2 [[AVal.str tw, AVal.str tc]], AObj.rows true 9 [[AVal.int IntKind.i64 3, AVal.str tw, AVal.str tc, AVal.str tann, AVal.str x, AVal.str t0, AVal.str t0, AVal.int IntKind.i64 0, AVal.int IntKind.i64 0]], AObj.rows false 3 [[AVal.int IntKind.i64 92, AVal.int IntKind.i64 0, AVal.fsl true 2 [] none]]]) (tr 4 ++ ((Owed.use (owed Tryd.prog 6) 28 [] [AVal.int IntKind.i64 92] [AObj.rows false 2 [[AVal.map 2, AVal.map 3]], AObj.rows false 2 [[AVal.map 4, AVal.slc b 5 2 0 (List.length ps) none]], AObj.mp false [(AVal.agg [AVal.str tw, AVal.str tc], AVal.ptr 1 2 0 0)], AObj.mp true [(AVal.str tann, AVal.tt true)], AObj.mp true [], AObj.rows true 2 ps, AObj.rows true 2 [[AVal.str tw, AVal.str tc]], AObj.rows true 9 [[AVal.int IntKind.i64 3, AVal.str tw, AVal.str tc, AVal.str tann, AVal.str x, AVal.str t0, AVal.str t0, AVal.int IntKind.i64 0, AVal.int IntKind.i64 0]], AObj.rows false 3 [[AVal.int IntKind.i64 0, AVal.int IntKind.i64 0, AVal.fsl true 0 [] (some 0)]]] [AVal.int IntKind.i64 92] [] (AVal.agg [AVal.int IntKind.i64 92, AVal.int IntKind.i64 0, AVal.fsl true 2 [] none]) []) :: (tr 29 ++ ((false = false) :: ((false = false) :: (tr 3 ++ []))))))) by kernel_rfl) (allP_of (trC 4 ⟨⟨h1, rfl, rfl, rfl⟩, (trC 29 ⟨rfl, ⟨rfl, (trC 3 trivial)⟩⟩)⟩))).move ([0, 1, 2, 3, 4, 5]) (by kernel_rfl) (by kernel_rfl) (by kernel_rfl)

def wO_T (x : ByteArray) (b : Bool) (ps : List (List AVal)) (Q : AVal → AState → Prop) : Prop := (FOk Tryd.prog 28 [AVal.int IntKind.i64 92] [] (AVal.agg [AVal.int IntKind.i64 92, AVal.int IntKind.i64 0, AVal.fsl true 2 [] none]) []) ∧ Q (AVal.agg [AVal.int IntKind.i64 92, AVal.int IntKind.i64 0, AVal.fsl true 2 [] none]) ([AObj.rows false 2 [[AVal.map 2, AVal.map 3]], AObj.rows false 2 [[AVal.map 4, AVal.slc b 5 2 0 (List.length ps) none]], AObj.mp false [(AVal.agg [AVal.str tw, AVal.str tc], AVal.ptr 1 2 0 0)], AObj.mp true [(AVal.str tann, AVal.tt true)], AObj.mp true [], AObj.rows true 2 ps])
theorem wO_wp (x : ByteArray) (b : Bool) (ps : List (List AVal)) {Q : AVal → AState → Prop} (h : wO_T x b ps Q) : ∃ r σ', FOk Tryd.prog 31 ([AVal.ptr 0 2 0 0, ky tw tc, AVal.ptr 1 2 0 0, op 3 tw tc tann x t0 t0 0 0]) (W6 tw tc mA [] b ps) r σ' ∧ Q r σ' :=
  ⟨_, _, wO_1 x b ps (h.1), h.2⟩


theorem wVo5_1 :
    FOk Tryd.prog 31 ([AVal.ptr 0 2 0 0, ky tw tc, AVal.ptr 1 2 0 0, op 5 tw tc t0 t0 tv td 0 0]) (W5 tw tc [] mAB) (AVal.agg [AVal.int IntKind.i64 0, AVal.int IntKind.i64 0, AVal.fsl true 2 [] none]) ([AObj.rows false 2 [[AVal.map 2, AVal.map 3]], AObj.rows false 2 [[AVal.map 4, AVal.fsl true 2 [] none]], AObj.mp false [(AVal.agg [AVal.str tv, AVal.str td], AVal.ptr 1 2 0 0)], AObj.mp true [], AObj.mp true [(AVal.str tann, AVal.tt true), (AVal.str tbob, AVal.tt true)]]) :=
  (evalF_ok followed Tryd.func31 (by kernel_rfl) (show evalF Tryd.prog Tryd.f31 ([AVal.ptr 0 2 0 0, ky tw tc, AVal.ptr 1 2 0 0, op 5 tw tc t0 t0 tv td 0 0]) (W5 tw tc [] mAB) ([Dec.br false, Dec.br true, Dec.go]) = .ok (FRes.mk (AVal.agg [AVal.int IntKind.i64 0, AVal.int IntKind.i64 0, AVal.fsl true 2 [] none]) ([AObj.rows false 2 [[AVal.map 2, AVal.map 3]], AObj.rows false 2 [[AVal.map 4, AVal.fsl true 2 [] none]], AObj.mp false [(AVal.agg [AVal.str tv, AVal.str td], AVal.ptr 1 2 0 0)], AObj.mp true [], AObj.mp true [(AVal.str tann, AVal.tt true), (AVal.str tbob, AVal.tt true)], AObj.rows true 2 [[AVal.str tw, AVal.str tc]], AObj.rows true 9 [[AVal.int IntKind.i64 5, AVal.str tw, AVal.str tc, AVal.str t0, AVal.str t0, AVal.str tv, AVal.str td, AVal.int IntKind.i64 0, AVal.int IntKind.i64 0]], AObj.rows false 3 [[AVal.int IntKind.i64 0, AVal.int IntKind.i64 0, AVal.fsl true 0 [] (some 0)]], AObj.rows true 2 [[AVal.str tv, AVal.str td]]]) (tr 94 ++ ((false = false) :: (tr 3 ++ [])))) by kernel_rfl) (allP_of (trC 94 ⟨rfl, (trC 3 trivial)⟩))).move ([0, 1, 2, 3, 4]) (by kernel_rfl) (by kernel_rfl) (by kernel_rfl)

def wVo5_T (Q : AVal → AState → Prop) : Prop := Q (AVal.agg [AVal.int IntKind.i64 0, AVal.int IntKind.i64 0, AVal.fsl true 2 [] none]) ([AObj.rows false 2 [[AVal.map 2, AVal.map 3]], AObj.rows false 2 [[AVal.map 4, AVal.fsl true 2 [] none]], AObj.mp false [(AVal.agg [AVal.str tv, AVal.str td], AVal.ptr 1 2 0 0)], AObj.mp true [], AObj.mp true [(AVal.str tann, AVal.tt true), (AVal.str tbob, AVal.tt true)]])
theorem wVo5_wp {Q : AVal → AState → Prop} (h : wVo5_T Q) : ∃ r σ', FOk Tryd.prog 31 ([AVal.ptr 0 2 0 0, ky tw tc, AVal.ptr 1 2 0 0, op 5 tw tc t0 t0 tv td 0 0]) (W5 tw tc [] mAB) r σ' ∧ Q r σ' :=
  ⟨_, _, wVo5_1, h⟩


theorem wVo6_1 (b : Bool) (ps : List (List AVal)) :
    FOk Tryd.prog 31 ([AVal.ptr 0 2 0 0, ky tw tc, AVal.ptr 1 2 0 0, op 5 tw tc t0 t0 tv td 0 0]) (W6 tw tc [] mAB b ps) (AVal.agg [AVal.int IntKind.i64 0, AVal.int IntKind.i64 0, AVal.fsl true 2 [] none]) ([AObj.rows false 2 [[AVal.map 2, AVal.map 3]], AObj.rows false 2 [[AVal.map 4, AVal.slc b 5 2 0 (List.length ps) none]], AObj.mp false [(AVal.agg [AVal.str tv, AVal.str td], AVal.ptr 1 2 0 0)], AObj.mp true [], AObj.mp true [(AVal.str tann, AVal.tt true), (AVal.str tbob, AVal.tt true)], AObj.rows true 2 ps]) :=
  (evalF_ok followed Tryd.func31 (by kernel_rfl) (show evalF Tryd.prog Tryd.f31 ([AVal.ptr 0 2 0 0, ky tw tc, AVal.ptr 1 2 0 0, op 5 tw tc t0 t0 tv td 0 0]) (W6 tw tc [] mAB b ps) ([Dec.br false, Dec.br true, Dec.go]) = .ok (FRes.mk (AVal.agg [AVal.int IntKind.i64 0, AVal.int IntKind.i64 0, AVal.fsl true 2 [] none]) ([AObj.rows false 2 [[AVal.map 2, AVal.map 3]], AObj.rows false 2 [[AVal.map 4, AVal.slc b 5 2 0 (List.length ps) none]], AObj.mp false [(AVal.agg [AVal.str tv, AVal.str td], AVal.ptr 1 2 0 0)], AObj.mp true [], AObj.mp true [(AVal.str tann, AVal.tt true), (AVal.str tbob, AVal.tt true)], AObj.rows true 2 ps, AObj.rows true 2 [[AVal.str tw, AVal.str tc]], AObj.rows true 9 [[AVal.int IntKind.i64 5, AVal.str tw, AVal.str tc, AVal.str t0, AVal.str t0, AVal.str tv, AVal.str td, AVal.int IntKind.i64 0, AVal.int IntKind.i64 0]], AObj.rows false 3 [[AVal.int IntKind.i64 0, AVal.int IntKind.i64 0, AVal.fsl true 0 [] (some 0)]], AObj.rows true 2 [[AVal.str tv, AVal.str td]]]) (tr 94 ++ ((false = false) :: (tr 3 ++ [])))) by kernel_rfl) (allP_of (trC 94 ⟨rfl, (trC 3 trivial)⟩))).move ([0, 1, 2, 3, 4, 5]) (by kernel_rfl) (by kernel_rfl) (by kernel_rfl)

def wVo6_T (b : Bool) (ps : List (List AVal)) (Q : AVal → AState → Prop) : Prop := Q (AVal.agg [AVal.int IntKind.i64 0, AVal.int IntKind.i64 0, AVal.fsl true 2 [] none]) ([AObj.rows false 2 [[AVal.map 2, AVal.map 3]], AObj.rows false 2 [[AVal.map 4, AVal.slc b 5 2 0 (List.length ps) none]], AObj.mp false [(AVal.agg [AVal.str tv, AVal.str td], AVal.ptr 1 2 0 0)], AObj.mp true [], AObj.mp true [(AVal.str tann, AVal.tt true), (AVal.str tbob, AVal.tt true)], AObj.rows true 2 ps])
theorem wVo6_wp (b : Bool) (ps : List (List AVal)) {Q : AVal → AState → Prop} (h : wVo6_T b ps Q) : ∃ r σ', FOk Tryd.prog 31 ([AVal.ptr 0 2 0 0, ky tw tc, AVal.ptr 1 2 0 0, op 5 tw tc t0 t0 tv td 0 0]) (W6 tw tc [] mAB b ps) r σ' ∧ Q r σ' :=
  ⟨_, _, wVo6_1 b ps, h⟩


theorem wVs5_1
    (h1 : FOk Tryd.prog 28 [AVal.int IntKind.i64 90] [] (AVal.agg [AVal.int IntKind.i64 90, AVal.int IntKind.i64 0, AVal.fsl true 2 [] none]) []) :
    FOk Tryd.prog 31 ([AVal.ptr 0 2 0 0, ky tv td, AVal.ptr 1 2 0 0, op 5 tv td t0 t0 tv td 0 0]) (W5 tv td [] mAB) (AVal.agg [AVal.int IntKind.i64 90, AVal.int IntKind.i64 0, AVal.fsl true 2 [] none]) ([AObj.rows false 2 [[AVal.map 2, AVal.map 3]], AObj.rows false 2 [[AVal.map 4, AVal.fsl true 2 [] none]], AObj.mp false [(AVal.agg [AVal.str tv, AVal.str td], AVal.ptr 1 2 0 0)], AObj.mp true [], AObj.mp true [(AVal.str tann, AVal.tt true), (AVal.str tbob, AVal.tt true)]]) :=
  (evalF_ok followed Tryd.func31 (by kernel_rfl) (show evalF Tryd.prog Tryd.f31 ([AVal.ptr 0 2 0 0, ky tv td, AVal.ptr 1 2 0 0, op 5 tv td t0 t0 tv td 0 0]) (W5 tv td [] mAB) ([Dec.br false, Dec.br true, Dec.go, Dec.use [] [AVal.int IntKind.i64 90] [] (rep 90 0 (AVal.fsl true 2 [] none)) []]) = .ok (FRes.mk (AVal.agg [AVal.int IntKind.i64 90, AVal.int IntKind.i64 0, AVal.fsl true 2 [] none]) ([AObj.rows false 2 [[AVal.map 2, AVal.map 3]], AObj.rows false 2 [[AVal.map 4, AVal.fsl true 2 [] none]], AObj.mp false [(AVal.agg [AVal.str tv, AVal.str td], AVal.ptr 1 2 0 0)], AObj.mp true [], AObj.mp true [(AVal.str tann, AVal.tt true), (AVal.str tbob, AVal.tt true)], AObj.rows true 2 [[AVal.str tv, AVal.str td]], AObj.rows true 9 [[AVal.int IntKind.i64 5, AVal.str tv, AVal.str td, AVal.str t0, AVal.str t0, AVal.str tv, AVal.str td, AVal.int IntKind.i64 0, AVal.int IntKind.i64 0]], AObj.rows false 3 [[AVal.int IntKind.i64 90, AVal.int IntKind.i64 0, AVal.fsl true 2 [] none]], AObj.rows true 2 [[AVal.str tv, AVal.str td]]]) (tr 4 ++ ((Owed.use (owed Tryd.prog 5) 28 [] [AVal.int IntKind.i64 90] [AObj.rows false 2 [[AVal.map 2, AVal.map 3]], AObj.rows false 2 [[AVal.map 4, AVal.fsl true 2 [] none]], AObj.mp false [(AVal.agg [AVal.str tv, AVal.str td], AVal.ptr 1 2 0 0)], AObj.mp true [], AObj.mp true [(AVal.str tann, AVal.tt true), (AVal.str tbob, AVal.tt true)], AObj.rows true 2 [[AVal.str tv, AVal.str td]], AObj.rows true 9 [[AVal.int IntKind.i64 5, AVal.str tv, AVal.str td, AVal.str t0, AVal.str t0, AVal.str tv, AVal.str td, AVal.int IntKind.i64 0, AVal.int IntKind.i64 0]], AObj.rows false 3 [[AVal.int IntKind.i64 0, AVal.int IntKind.i64 0, AVal.fsl true 0 [] (some 0)]], AObj.rows true 2 [[AVal.str tv, AVal.str td]]] [AVal.int IntKind.i64 90] [] (AVal.agg [AVal.int IntKind.i64 90, AVal.int IntKind.i64 0, AVal.fsl true 2 [] none]) []) :: (tr 42 ++ ((false = false) :: (tr 3 ++ [])))))) by kernel_rfl) (allP_of (trC 4 ⟨⟨h1, rfl, rfl, rfl⟩, (trC 42 ⟨rfl, (trC 3 trivial)⟩)⟩))).move ([0, 1, 2, 3, 4]) (by kernel_rfl) (by kernel_rfl) (by kernel_rfl)

def wVs5_T (Q : AVal → AState → Prop) : Prop := (FOk Tryd.prog 28 [AVal.int IntKind.i64 90] [] (AVal.agg [AVal.int IntKind.i64 90, AVal.int IntKind.i64 0, AVal.fsl true 2 [] none]) []) ∧ Q (AVal.agg [AVal.int IntKind.i64 90, AVal.int IntKind.i64 0, AVal.fsl true 2 [] none]) ([AObj.rows false 2 [[AVal.map 2, AVal.map 3]], AObj.rows false 2 [[AVal.map 4, AVal.fsl true 2 [] none]], AObj.mp false [(AVal.agg [AVal.str tv, AVal.str td], AVal.ptr 1 2 0 0)], AObj.mp true [], AObj.mp true [(AVal.str tann, AVal.tt true), (AVal.str tbob, AVal.tt true)]])
theorem wVs5_wp {Q : AVal → AState → Prop} (h : wVs5_T Q) : ∃ r σ', FOk Tryd.prog 31 ([AVal.ptr 0 2 0 0, ky tv td, AVal.ptr 1 2 0 0, op 5 tv td t0 t0 tv td 0 0]) (W5 tv td [] mAB) r σ' ∧ Q r σ' :=
  ⟨_, _, wVs5_1 (h.1), h.2⟩


theorem wVs6_1 (b : Bool) (ps : List (List AVal))
    (h1 : FOk Tryd.prog 28 [AVal.int IntKind.i64 90] [] (AVal.agg [AVal.int IntKind.i64 90, AVal.int IntKind.i64 0, AVal.fsl true 2 [] none]) []) :
    FOk Tryd.prog 31 ([AVal.ptr 0 2 0 0, ky tv td, AVal.ptr 1 2 0 0, op 5 tv td t0 t0 tv td 0 0]) (W6 tv td [] mAB b ps) (AVal.agg [AVal.int IntKind.i64 90, AVal.int IntKind.i64 0, AVal.fsl true 2 [] none]) ([AObj.rows false 2 [[AVal.map 2, AVal.map 3]], AObj.rows false 2 [[AVal.map 4, AVal.slc b 5 2 0 (List.length ps) none]], AObj.mp false [(AVal.agg [AVal.str tv, AVal.str td], AVal.ptr 1 2 0 0)], AObj.mp true [], AObj.mp true [(AVal.str tann, AVal.tt true), (AVal.str tbob, AVal.tt true)], AObj.rows true 2 ps]) :=
  (evalF_ok followed Tryd.func31 (by kernel_rfl) (show evalF Tryd.prog Tryd.f31 ([AVal.ptr 0 2 0 0, ky tv td, AVal.ptr 1 2 0 0, op 5 tv td t0 t0 tv td 0 0]) (W6 tv td [] mAB b ps) ([Dec.br false, Dec.br true, Dec.go, Dec.use [] [AVal.int IntKind.i64 90] [] (rep 90 0 (AVal.fsl true 2 [] none)) []]) = .ok (FRes.mk (AVal.agg [AVal.int IntKind.i64 90, AVal.int IntKind.i64 0, AVal.fsl true 2 [] none]) ([AObj.rows false 2 [[AVal.map 2, AVal.map 3]], AObj.rows false 2 [[AVal.map 4, AVal.slc b 5 2 0 (List.length ps) none]], AObj.mp false [(AVal.agg [AVal.str tv, AVal.str td], AVal.ptr 1 2 0 0)], AObj.mp true [], AObj.mp true [(AVal.str tann, AVal.tt true), (AVal.str tbob, AVal.tt true)], AObj.rows true 2 ps, AObj.rows true 2 [[AVal.str tv, AVal.str td]], AObj.rows true 9 [[AVal.int IntKind.i64 5, AVal.str tv, AVal.str td, AVal.str t0, AVal.str t0, AVal.str tv, AVal.str td, AVal.int IntKind.i64 0, AVal.int IntKind.i64 0]], AObj.rows false 3 [[AVal.int IntKind.i64 90, AVal.int IntKind.i64 0, AVal.fsl true 2 [] none]], AObj.rows true 2 [[AVal.str tv, AVal.str td]]]) (tr 4 ++ ((Owed.use (owed Tryd.prog 6) 28 [] [AVal.int IntKind.i64 90] [AObj.rows false 2 [[AVal.map 2, AVal.map 3]], AObj.rows false 2 [[AVal.map 4, AVal.slc b 5 2 0 (List.length ps) none]], AObj.mp false [(AVal.agg [AVal.str tv, AVal.str td], AVal.ptr 1 2 0 0)], AObj.mp true [], AObj.mp true [(AVal.str tann, AVal.tt true), (AVal.str tbob, AVal.tt true)], AObj.rows true 2 ps, AObj.rows true 2 [[AVal.str tv, AVal.str td]], AObj.rows true 9 [[AVal.int IntKind.i64 5, AVal.str tv, AVal.str td, AVal.str t0, AVal.str t0, AVal.str tv, AVal.str td, AVal.int IntKind.i64 0, AVal.int IntKind.i64 0]], AObj.rows false 3 [[AVal.int IntKind.i64 0, AVal.int IntKind.i64 0, AVal.fsl true 0 [] (some 0)]], AObj.rows true 2 [[AVal.str tv, AVal.str td]]] [AVal.int IntKind.i64 90] [] (AVal.agg [AVal.int IntKind.i64 90, AVal.int IntKind.i64 0, AVal.fsl true 2 [] none]) []) :: (tr 42 ++ ((false = false) :: (tr 3 ++ [])))))) by kernel_rfl) (allP_of (trC 4 ⟨⟨h1, rfl, rfl, rfl⟩, (trC 42 ⟨rfl, (trC 3 trivial)⟩)⟩))).move ([0, 1, 2, 3, 4, 5]) (by kernel_rfl) (by kernel_rfl) (by kernel_rfl)

def wVs6_T (b : Bool) (ps : List (List AVal)) (Q : AVal → AState → Prop) : Prop := (FOk Tryd.prog 28 [AVal.int IntKind.i64 90] [] (AVal.agg [AVal.int IntKind.i64 90, AVal.int IntKind.i64 0, AVal.fsl true 2 [] none]) []) ∧ Q (AVal.agg [AVal.int IntKind.i64 90, AVal.int IntKind.i64 0, AVal.fsl true 2 [] none]) ([AObj.rows false 2 [[AVal.map 2, AVal.map 3]], AObj.rows false 2 [[AVal.map 4, AVal.slc b 5 2 0 (List.length ps) none]], AObj.mp false [(AVal.agg [AVal.str tv, AVal.str td], AVal.ptr 1 2 0 0)], AObj.mp true [], AObj.mp true [(AVal.str tann, AVal.tt true), (AVal.str tbob, AVal.tt true)], AObj.rows true 2 ps])
theorem wVs6_wp (b : Bool) (ps : List (List AVal)) {Q : AVal → AState → Prop} (h : wVs6_T b ps Q) : ∃ r σ', FOk Tryd.prog 31 ([AVal.ptr 0 2 0 0, ky tv td, AVal.ptr 1 2 0 0, op 5 tv td t0 t0 tv td 0 0]) (W6 tv td [] mAB b ps) r σ' ∧ Q r σ' :=
  ⟨_, _, wVs6_1 b ps (h.1), h.2⟩


theorem wVb5_1 :
    FOk Tryd.prog 31 ([AVal.ptr 0 2 0 0, ky tv td, AVal.ptr 1 2 0 0, op 5 tv td t0 t0 tw tc 0 0]) (W5 tv td [] mAB) (AVal.agg [AVal.int IntKind.i64 0, AVal.int IntKind.i64 0, AVal.fsl true 2 [] none]) ([AObj.rows false 2 [[AVal.map 2, AVal.map 3]], AObj.rows false 2 [[AVal.map 4, AVal.fsl true 2 [] none]], AObj.mp false [(AVal.agg [AVal.str tw, AVal.str tc], AVal.ptr 1 2 0 0)], AObj.mp true [], AObj.mp true [(AVal.str tann, AVal.tt true), (AVal.str tbob, AVal.tt true)]]) :=
  (evalF_ok followed Tryd.func31 (by kernel_rfl) (show evalF Tryd.prog Tryd.f31 ([AVal.ptr 0 2 0 0, ky tv td, AVal.ptr 1 2 0 0, op 5 tv td t0 t0 tw tc 0 0]) (W5 tv td [] mAB) ([Dec.br false, Dec.br true, Dec.go]) = .ok (FRes.mk (AVal.agg [AVal.int IntKind.i64 0, AVal.int IntKind.i64 0, AVal.fsl true 2 [] none]) ([AObj.rows false 2 [[AVal.map 2, AVal.map 3]], AObj.rows false 2 [[AVal.map 4, AVal.fsl true 2 [] none]], AObj.mp false [(AVal.agg [AVal.str tw, AVal.str tc], AVal.ptr 1 2 0 0)], AObj.mp true [], AObj.mp true [(AVal.str tann, AVal.tt true), (AVal.str tbob, AVal.tt true)], AObj.rows true 2 [[AVal.str tv, AVal.str td]], AObj.rows true 9 [[AVal.int IntKind.i64 5, AVal.str tv, AVal.str td, AVal.str t0, AVal.str t0, AVal.str tw, AVal.str tc, AVal.int IntKind.i64 0, AVal.int IntKind.i64 0]], AObj.rows false 3 [[AVal.int IntKind.i64 0, AVal.int IntKind.i64 0, AVal.fsl true 0 [] (some 0)]], AObj.rows true 2 [[AVal.str tw, AVal.str tc]]]) (tr 94 ++ ((false = false) :: (tr 3 ++ [])))) by kernel_rfl) (allP_of (trC 94 ⟨rfl, (trC 3 trivial)⟩))).move ([0, 1, 2, 3, 4]) (by kernel_rfl) (by kernel_rfl) (by kernel_rfl)

def wVb5_T (Q : AVal → AState → Prop) : Prop := Q (AVal.agg [AVal.int IntKind.i64 0, AVal.int IntKind.i64 0, AVal.fsl true 2 [] none]) ([AObj.rows false 2 [[AVal.map 2, AVal.map 3]], AObj.rows false 2 [[AVal.map 4, AVal.fsl true 2 [] none]], AObj.mp false [(AVal.agg [AVal.str tw, AVal.str tc], AVal.ptr 1 2 0 0)], AObj.mp true [], AObj.mp true [(AVal.str tann, AVal.tt true), (AVal.str tbob, AVal.tt true)]])
theorem wVb5_wp {Q : AVal → AState → Prop} (h : wVb5_T Q) : ∃ r σ', FOk Tryd.prog 31 ([AVal.ptr 0 2 0 0, ky tv td, AVal.ptr 1 2 0 0, op 5 tv td t0 t0 tw tc 0 0]) (W5 tv td [] mAB) r σ' ∧ Q r σ' :=
  ⟨_, _, wVb5_1, h⟩


theorem wVb6_1 (b : Bool) (ps : List (List AVal)) :
    FOk Tryd.prog 31 ([AVal.ptr 0 2 0 0, ky tv td, AVal.ptr 1 2 0 0, op 5 tv td t0 t0 tw tc 0 0]) (W6 tv td [] mAB b ps) (AVal.agg [AVal.int IntKind.i64 0, AVal.int IntKind.i64 0, AVal.fsl true 2 [] none]) ([AObj.rows false 2 [[AVal.map 2, AVal.map 3]], AObj.rows false 2 [[AVal.map 4, AVal.slc b 5 2 0 (List.length ps) none]], AObj.mp false [(AVal.agg [AVal.str tw, AVal.str tc], AVal.ptr 1 2 0 0)], AObj.mp true [], AObj.mp true [(AVal.str tann, AVal.tt true), (AVal.str tbob, AVal.tt true)], AObj.rows true 2 ps]) :=
  (evalF_ok followed Tryd.func31 (by kernel_rfl) (show evalF Tryd.prog Tryd.f31 ([AVal.ptr 0 2 0 0, ky tv td, AVal.ptr 1 2 0 0, op 5 tv td t0 t0 tw tc 0 0]) (W6 tv td [] mAB b ps) ([Dec.br false, Dec.br true, Dec.go]) = .ok (FRes.mk (AVal.agg [AVal.int IntKind.i64 0, AVal.int IntKind.i64 0, AVal.fsl true 2 [] none]) ([AObj.rows false 2 [[AVal.map 2, AVal.map 3]], AObj.rows false 2 [[AVal.map 4, AVal.slc b 5 2 0 (List.length ps) none]], AObj.mp false [(AVal.agg [AVal.str tw, AVal.str tc], AVal.ptr 1 2 0 0)], AObj.mp true [], AObj.mp true [(AVal.str tann, AVal.tt true), (AVal.str tbob, AVal.tt true)], AObj.rows true 2 ps, AObj.rows true 2 [[AVal.str tv, AVal.str td]], AObj.rows true 9 [[AVal.int IntKind.i64 5, AVal.str tv, AVal.str td, AVal.str t0, AVal.str t0, AVal.str tw, AVal.str tc, AVal.int IntKind.i64 0, AVal.int IntKind.i64 0]], AObj.rows false 3 [[AVal.int IntKind.i64 0, AVal.int IntKind.i64 0, AVal.fsl true 0 [] (some 0)]], AObj.rows true 2 [[AVal.str tw, AVal.str tc]]]) (tr 94 ++ ((false = false) :: (tr 3 ++ [])))) by kernel_rfl) (allP_of (trC 94 ⟨rfl, (trC 3 trivial)⟩))).move ([0, 1, 2, 3, 4, 5]) (by kernel_rfl) (by kernel_rfl) (by kernel_rfl)

def wVb6_T (b : Bool) (ps : List (List AVal)) (Q : AVal → AState → Prop) : Prop := Q (AVal.agg [AVal.int IntKind.i64 0, AVal.int IntKind.i64 0, AVal.fsl true 2 [] none]) ([AObj.rows false 2 [[AVal.map 2, AVal.map 3]], AObj.rows false 2 [[AVal.map 4, AVal.slc b 5 2 0 (List.length ps) none]], AObj.mp false [(AVal.agg [AVal.str tw, AVal.str tc], AVal.ptr 1 2 0 0)], AObj.mp true [], AObj.mp true [(AVal.str tann, AVal.tt true), (AVal.str tbob, AVal.tt true)], AObj.rows true 2 ps])
theorem wVb6_wp (b : Bool) (ps : List (List AVal)) {Q : AVal → AState → Prop} (h : wVb6_T b ps Q) : ∃ r σ', FOk Tryd.prog 31 ([AVal.ptr 0 2 0 0, ky tv td, AVal.ptr 1 2 0 0, op 5 tv td t0 t0 tw tc 0 0]) (W6 tv td [] mAB b ps) r σ' ∧ Q r σ' :=
  ⟨_, _, wVb6_1 b ps, h⟩


end Go.LM
end
