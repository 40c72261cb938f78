import Derived.Test.YtjkmndfipanalaaL12g2
section
set_option linter.unusedVariables false
set_option maxRecDepth 100000
namespace Go.L12
open Go Go.Abs Go.Abs.AVal Go.Abs.AObj Go.Proofs
def rgpAr (i len q : Int) : Regs := mkR 148 [(0, .ptr 0 2 0 0), (13, .ptr 4 3 0 2), (15, .slc false 1 1 0 5 none), (16, .int .i64 5), (17, .int .i64 i), (125, .int .i64 len), (126, .int .i64 q)]
theorem pAr_1 (a0 a1 b0 b1 : Int) (nb : Bool) (rs : List (List AVal)) (i len q : Int) (k : Nat) (bs : List (List AVal))
    (h1 : Option.isSome (putR 112 (List.getD rs (Int.toNat q) [])) = true)
    (h2 : rowK 112 rs (Int.toNat q))
    (h3 : k = List.length bs)
    (h4 : List.length bs ≤ 52776558133248)
    (h5 : decide (0 ≤ q ∧ q < (↑(List.length rs) : Int)) = true)
    (h6 : decide (q < len) = true) :
    TripN Try.prog 5 (loopNo Try.f64 2) (rgpAr i len q) (hppA (rA0 a0 a1) (rA1 b0 b1 (fsl nb 2 rs none)) k bs) (AExit.normal) (mkR 148 [(0, ptr 0 2 0 0), (13, ptr 4 3 0 2), (15, slc false 1 1 0 5 none), (16, iI 5), (17, iI i), (125, iI len), (126, iI (IntKind.wrap IntKind.i64 (q + 1)))]) ([rows false 2 [[ptr 0 2 0 0, slc false 5 1 0 (k + List.length (Option.getD (putR 112 (List.getD rs (Int.toNat q) [])) [])) none]], rows false 1 (flA 3 4), dead, rows true 2 [[iI a0, iI a1]], rows true 3 [[iI b0, iI b1, fsl nb 2 rs none]], trows 5 true 1 (bs ++ rowsL (Option.getD (putR 112 (List.getD rs (Int.toNat q) [])) []))]) :=
  evalT (st := St.mk (rgpAr i len q) (hppA (rA0 a0 a1) (rA1 b0 b1 (fsl nb 2 rs none)) k bs) ([Dec.br true, Dec.use [0, 6, 5] [ptr 0 2 0 0, slc false 1 1 0 2 (some 2)] [rows false 2 [[ptr 0 2 0 0, slc false 2 1 0 k none]], rows false 1 [[iface 104 (fptr 2 rs (Int.toNat q) 0)], [iface 104 (fptr 2 rs (Int.toNat q) 1)]], trows 5 true 1 bs] (tuple []) [rows false 2 [[ptr 0 2 0 0, slc false 3 1 0 (k + List.length (Option.getD (putR 112 (List.getD rs (Int.toNat q) [])) [])) none]], rows false 1 [[iface 104 (fptr 2 rs (Int.toNat q) 0)], [iface 104 (fptr 2 rs (Int.toNat q) 1)]], dead, trows 5 true 1 (bs ++ rowsL (Option.getD (putR 112 (List.getD rs (Int.toNat q) [])) []))]]) []) (st' := St.mk (mkR 148 [(0, ptr 0 2 0 0), (13, ptr 4 3 0 2), (14, iI q), (15, slc false 1 1 0 5 none), (16, iI 5), (17, iI i), (125, iI len), (126, iI (IntKind.wrap IntKind.i64 (q + 1))), (127, tt true), (128, iI q), (129, ptr 0 2 0 0), (130, ptr 4 3 0 2), (131, ptr 4 3 0 2), (132, fsl nb 2 rs none), (133, iI q), (134, fptr 2 rs (Int.toNat q) 0), (135, fptr 2 rs (Int.toNat q) 0), (136, iface 104 (fptr 2 rs (Int.toNat q) 0)), (137, ptr 4 3 0 2), (138, ptr 4 3 0 2), (139, fsl nb 2 rs none), (140, iI q), (141, fptr 2 rs (Int.toNat q) 0), (142, fptr 2 rs (Int.toNat q) 1), (143, iface 104 (fptr 2 rs (Int.toNat q) 1)), (144, slc false 6 1 0 2 (some 2)), (145, tuple []), (146, iI (IntKind.wrap IntKind.i64 (q + 1)))]) ([rows false 2 [[ptr 0 2 0 0, slc false 7 1 0 (k + List.length (Option.getD (putR 112 (List.getD rs (Int.toNat q) [])) [])) none]], rows false 1 (flA 3 4), dead, rows true 2 [[iI a0, iI a1]], rows true 3 [[iI b0, iI b1, fsl nb 2 rs none]], dead, rows false 1 [[iface 104 (fptr 2 rs (Int.toNat q) 0)], [iface 104 (fptr 2 rs (Int.toNat q) 1)]], trows 5 true 1 (bs ++ rowsL (Option.getD (putR 112 (List.getD rs (Int.toNat q) [])) []))]) ([]) (tr 2 ++ ((oU 5 64 [0, 6, 5] [ptr 0 2 0 0, slc false 6 1 0 2 (some 2)] [rows false 2 [[ptr 0 2 0 0, slc false 5 1 0 k none]], rows false 1 (flA 3 4), dead, rows true 2 [[iI a0, iI a1]], rows true 3 [[iI b0, iI b1, fsl nb 2 rs none]], trows 5 true 1 bs, rows false 1 [[iface 104 (fptr 2 rs (Int.toNat q) 0)], [iface 104 (fptr 2 rs (Int.toNat q) 1)]]] [ptr 0 2 0 0, slc false 1 1 0 2 (some 2)] [rows false 2 [[ptr 0 2 0 0, slc false 2 1 0 k none]], rows false 1 [[iface 104 (fptr 2 rs (Int.toNat q) 0)], [iface 104 (fptr 2 rs (Int.toNat q) 1)]], trows 5 true 1 bs] (tuple []) [rows false 2 [[ptr 0 2 0 0, slc false 3 1 0 (k + List.length (Option.getD (putR 112 (List.getD rs (Int.toNat q) [])) [])) none]], rows false 1 [[iface 104 (fptr 2 rs (Int.toNat q) 0)], [iface 104 (fptr 2 rs (Int.toNat q) 1)]], dead, trows 5 true 1 (bs ++ rowsL (Option.getD (putR 112 (List.getD rs (Int.toNat q) [])) []))]) :: (tr 8 ++ ((decide (0 ≤ q ∧ q < (↑(List.length rs) : Int)) = true) :: (tr 25 ++ ((decide (0 ≤ q ∧ q < (↑(List.length rs) : Int)) = true) :: (tr 15 ++ ((decide (q < len) = true) :: []))))))))) followed (by kernel_rfl) (allP_of (trC 2 ⟨⟨(@Go.L12.putsP_ok (rs) (Int.toNat q) (k) (bs) h1 h2 h3 h4), rfl, rfl, rfl⟩, (trC 8 ⟨h5, (trC 25 ⟨h5, (trC 15 ⟨h6, trivial⟩)⟩)⟩)⟩)) (keepM 148 [0, 13, 15, 16, 17, 125, 126]) ([0, 1, 2, 3, 4, 7]) (by kernel_rfl) (by kernel_rfl) (by kernel_rfl)

theorem pAr_2 (a0 a1 b0 b1 : Int) (nb : Bool) (rs : List (List AVal)) (i len q : Int) (k : Nat) (bs : List (List AVal))
    (h1 : Option.isSome (putR 112 (List.getD rs (Int.toNat q) [])) = false)
    (h2 : rowK 112 rs (Int.toNat q))
    (h3 : k = List.length bs)
    (h4 : List.length bs ≤ 52776558133248)
    (h5 : decide (0 ≤ q ∧ q < (↑(List.length rs) : Int)) = true)
    (h6 : decide (q < len) = true) :
    TripN Try.prog 5 (loopNo Try.f64 2) (rgpAr i len q) (hppA (rA0 a0 a1) (rA1 b0 b1 (fsl nb 2 rs none)) k bs) (AExit.pan 117) (mkR 148 [(0, ptr 0 2 0 0), (13, ptr 4 3 0 2), (15, slc false 1 1 0 5 none), (16, iI 5), (17, iI i), (125, iI len), (126, iI q)]) ([dead, rows false 1 (flA 3 4), dead, rows true 2 [[iI a0, iI a1]], rows true 3 [[iI b0, iI b1, fsl nb 2 rs none]]]) :=
  evalT (st := St.mk (rgpAr i len q) (hppA (rA0 a0 a1) (rA1 b0 b1 (fsl nb 2 rs none)) k bs) ([Dec.br true, Dec.use [0, 6, 5] [ptr 0 2 0 0, slc false 1 1 0 2 (some 2)] [rows false 2 [[ptr 0 2 0 0, slc false 2 1 0 k none]], rows false 1 [[iface 104 (fptr 2 rs (Int.toNat q) 0)], [iface 104 (fptr 2 rs (Int.toNat q) 1)]], trows 5 true 1 bs] (pan 117) [dead, dead, dead]]) []) (st' := St.mk (mkR 148 [(0, ptr 0 2 0 0), (13, ptr 4 3 0 2), (14, iI q), (15, slc false 1 1 0 5 none), (16, iI 5), (17, iI i), (125, iI len), (126, iI q), (127, tt true), (128, iI q), (129, ptr 0 2 0 0), (130, ptr 4 3 0 2), (131, ptr 4 3 0 2), (132, fsl nb 2 rs none), (133, iI q), (134, fptr 2 rs (Int.toNat q) 0), (135, fptr 2 rs (Int.toNat q) 0), (136, iface 104 (fptr 2 rs (Int.toNat q) 0)), (137, ptr 4 3 0 2), (138, ptr 4 3 0 2), (139, fsl nb 2 rs none), (140, iI q), (141, fptr 2 rs (Int.toNat q) 0), (142, fptr 2 rs (Int.toNat q) 1), (143, iface 104 (fptr 2 rs (Int.toNat q) 1)), (144, slc false 6 1 0 2 (some 2))]) ([dead, rows false 1 (flA 3 4), dead, rows true 2 [[iI a0, iI a1]], rows true 3 [[iI b0, iI b1, fsl nb 2 rs none]], dead, dead]) ([]) (tr 2 ++ ((oU 5 64 [0, 6, 5] [ptr 0 2 0 0, slc false 6 1 0 2 (some 2)] [rows false 2 [[ptr 0 2 0 0, slc false 5 1 0 k none]], rows false 1 (flA 3 4), dead, rows true 2 [[iI a0, iI a1]], rows true 3 [[iI b0, iI b1, fsl nb 2 rs none]], trows 5 true 1 bs, rows false 1 [[iface 104 (fptr 2 rs (Int.toNat q) 0)], [iface 104 (fptr 2 rs (Int.toNat q) 1)]]] [ptr 0 2 0 0, slc false 1 1 0 2 (some 2)] [rows false 2 [[ptr 0 2 0 0, slc false 2 1 0 k none]], rows false 1 [[iface 104 (fptr 2 rs (Int.toNat q) 0)], [iface 104 (fptr 2 rs (Int.toNat q) 1)]], trows 5 true 1 bs] (pan 117) [dead, dead, dead]) :: (tr 8 ++ ((decide (0 ≤ q ∧ q < (↑(List.length rs) : Int)) = true) :: (tr 25 ++ ((decide (0 ≤ q ∧ q < (↑(List.length rs) : Int)) = true) :: (tr 15 ++ ((decide (q < len) = true) :: []))))))))) followed (by kernel_rfl) (allP_of (trC 2 ⟨⟨(@Go.L12.putsP_no (rs) (Int.toNat q) (k) (bs) h1 h2 h3 h4), rfl, rfl, rfl⟩, (trC 8 ⟨h5, (trC 25 ⟨h5, (trC 15 ⟨h6, trivial⟩)⟩)⟩)⟩)) (keepM 148 [0, 13, 15, 16, 17, 125, 126]) ([0, 1, 2, 3, 4]) (by kernel_rfl) (by kernel_rfl) (by kernel_rfl)

def pAr_T (a0 a1 b0 b1 : Int) (nb : Bool) (rs : List (List AVal)) (i len q : Int) (k : Nat) (bs : List (List AVal)) (Q : AExit → Regs → AState → Prop) : Prop := (decide (q < len) = true) ∧ (decide (0 ≤ q ∧ q < (↑(List.length rs) : Int)) = true) ∧ ((rowK 112 rs (Int.toNat q)) ∧ (k = List.length bs) ∧ (List.length bs ≤ 52776558133248) ∧ (((Option.isSome (putR 112 (List.getD rs (Int.toNat q) [])) = true)) → Q (AExit.normal) (mkR 148 [(0, ptr 0 2 0 0), (13, ptr 4 3 0 2), (15, slc false 1 1 0 5 none), (16, iI 5), (17, iI i), (125, iI len), (126, iI (IntKind.wrap IntKind.i64 (q + 1)))]) ([rows false 2 [[ptr 0 2 0 0, slc false 5 1 0 (k + List.length (Option.getD (putR 112 (List.getD rs (Int.toNat q) [])) [])) none]], rows false 1 (flA 3 4), dead, rows true 2 [[iI a0, iI a1]], rows true 3 [[iI b0, iI b1, fsl nb 2 rs none]], trows 5 true 1 (bs ++ rowsL (Option.getD (putR 112 (List.getD rs (Int.toNat q) [])) []))])) ∧ (((Option.isSome (putR 112 (List.getD rs (Int.toNat q) [])) = false)) → Q (AExit.pan 117) (mkR 148 [(0, ptr 0 2 0 0), (13, ptr 4 3 0 2), (15, slc false 1 1 0 5 none), (16, iI 5), (17, iI i), (125, iI len), (126, iI q)]) ([dead, rows false 1 (flA 3 4), dead, rows true 2 [[iI a0, iI a1]], rows true 3 [[iI b0, iI b1, fsl nb 2 rs none]]])) ∧ (((Option.isSome (putR 112 (List.getD rs (Int.toNat q) [])) = true)) ∨ ((Option.isSome (putR 112 (List.getD rs (Int.toNat q) [])) = false))))
theorem pAr_wp (a0 a1 b0 b1 : Int) (nb : Bool) (rs : List (List AVal)) (i len q : Int) (k : Nat) (bs : List (List AVal)) {Q : AExit → Regs → AState → Prop} (h : pAr_T a0 a1 b0 b1 nb rs i len q k bs Q) : ∃ e rg' σ', TripN Try.prog 5 (loopNo Try.f64 2) (rgpAr i len q) (hppA (rA0 a0 a1) (rA1 b0 b1 (fsl nb 2 rs none)) k bs) e rg' σ' ∧ Q e rg' σ' :=
  Or.elim h.2.2.2.2.2.2.2 (fun (c0 : (Option.isSome (putR 112 (List.getD rs (Int.toNat q) [])) = true)) => ⟨_, _, _, pAr_1 a0 a1 b0 b1 nb rs i len q k bs (c0) (h.2.2.1) (h.2.2.2.1) (h.2.2.2.2.1) (h.2.1) (h.1), (h.2.2.2.2.2.1 c0)⟩) (fun (c1 : (Option.isSome (putR 112 (List.getD rs (Int.toNat q) [])) = false)) => ⟨_, _, _, pAr_2 a0 a1 b0 b1 nb rs i len q k bs (c1) (h.2.2.1) (h.2.2.2.1) (h.2.2.2.2.1) (h.2.1) (h.1), (h.2.2.2.2.2.2.1 c1)⟩)


theorem pAx_1 (a0 a1 b0 b1 : Int) (nb : Bool) (rs : List (List AVal)) (i len q : Int) (k : Nat) (bs : List (List AVal))
    (h1 : decide (q < len) = false) :
    TripN Try.prog 5 (loopNo Try.f64 2) (rgpAr i len q) (hppA (rA0 a0 a1) (rA1 b0 b1 (fsl nb 2 rs none)) k bs) (AExit.exit 5) (mkR 148 [(0, ptr 0 2 0 0), (13, ptr 4 3 0 2), (15, slc false 1 1 0 5 none), (16, iI 5), (17, iI i), (125, iI len), (126, iI q)]) ([rows false 2 [[ptr 0 2 0 0, slc false 5 1 0 k none]], rows false 1 (flA 3 4), dead, rows true 2 [[iI a0, iI a1]], rows true 3 [[iI b0, iI b1, fsl nb 2 rs none]], trows 5 true 1 bs]) :=
  evalT (st := St.mk (rgpAr i len q) (hppA (rA0 a0 a1) (rA1 b0 b1 (fsl nb 2 rs none)) k bs) ([Dec.br false]) []) (st' := St.mk (mkR 148 [(0, ptr 0 2 0 0), (13, ptr 4 3 0 2), (15, slc false 1 1 0 5 none), (16, iI 5), (17, iI i), (125, iI len), (126, iI q), (127, tt false)]) ([rows false 2 [[ptr 0 2 0 0, slc false 5 1 0 k none]], rows false 1 (flA 3 4), dead, rows true 2 [[iI a0, iI a1]], rows true 3 [[iI b0, iI b1, fsl nb 2 rs none]], trows 5 true 1 bs]) ([]) ((decide (q < len) = false) :: [])) followed (by kernel_rfl) (allP_of ⟨h1, trivial⟩) (keepM 148 [0, 13, 15, 16, 17, 125, 126]) ([0, 1, 2, 3, 4, 5]) (by kernel_rfl) (by kernel_rfl) (by kernel_rfl)

def pAx_T (a0 a1 b0 b1 : Int) (nb : Bool) (rs : List (List AVal)) (i len q : Int) (k : Nat) (bs : List (List AVal)) (Q : AExit → Regs → AState → Prop) : Prop := (decide (q < len) = false) ∧ Q (AExit.exit 5) (mkR 148 [(0, ptr 0 2 0 0), (13, ptr 4 3 0 2), (15, slc false 1 1 0 5 none), (16, iI 5), (17, iI i), (125, iI len), (126, iI q)]) ([rows false 2 [[ptr 0 2 0 0, slc false 5 1 0 k none]], rows false 1 (flA 3 4), dead, rows true 2 [[iI a0, iI a1]], rows true 3 [[iI b0, iI b1, fsl nb 2 rs none]], trows 5 true 1 bs])
theorem pAx_wp (a0 a1 b0 b1 : Int) (nb : Bool) (rs : List (List AVal)) (i len q : Int) (k : Nat) (bs : List (List AVal)) {Q : AExit → Regs → AState → Prop} (h : pAx_T a0 a1 b0 b1 nb rs i len q k bs Q) : ∃ e rg' σ', TripN Try.prog 5 (loopNo Try.f64 2) (rgpAr i len q) (hppA (rA0 a0 a1) (rA1 b0 b1 (fsl nb 2 rs none)) k bs) e rg' σ' ∧ Q e rg' σ' :=
  ⟨_, _, _, pAx_1 a0 a1 b0 b1 nb rs i len q k bs (h.1), h.2⟩


def rgtAr (i len q : Int) : Regs := mkR 117 [(0, .ptr 0 1 0 0), (13, .ptr 3 3 0 2), (15, .slc false 1 1 0 5 none), (16, .int .i64 5), (17, .int .i64 i), (97, .int .i64 len), (98, .int .i64 q)]
abbrev hinA (a0 a1 b0 b1 : Int) (b : Bool) (kk : Nat) (rs : List (List AVal)) (s : ByteArray) : AState := [.rows true 1 [[.str s]], .rows false 1 (flA 2 3), .rows true 2 [rA0 a0 a1], .rows false 3 [rA1 b0 b1 (.slc b 4 2 0 kk none)], .rows true 2 rs]
theorem tAr_1 (a0 a1 b0 b1 : Int) (b : Bool) (kk : Nat) (rs : List (List AVal)) (i len q : Int) (s : ByteArray)
    (h1 : decide (List.length rs = kk) = true)
    (h2 : decide ((kk + 1) * 32 ≤ 140737488355328 ∧ kk + 1 ≤ 9223372036854775807) = true)
    (h3 : Option.isSome (takeR 112 s) = true)
    (h4 : decide (q < len) = true) :
    TripN Try.prog 4 (loopNo Try.f60 2) (rgtAr i len q) (hinA a0 a1 b0 b1 b kk rs s) (AExit.normal) (mkR 117 [(0, ptr 0 1 0 0), (13, ptr 3 3 0 2), (15, slc false 1 1 0 5 none), (16, iI 5), (17, iI i), (97, iI len), (98, iI (IntKind.wrap IntKind.i64 (q + 1)))]) ([rows true 1 [[str (Prod.snd (Option.getD (takeR 112 s) ([], ByteArray.mk #[])))]], rows false 1 (flA 2 3), rows true 2 [[iI a0, iI a1]], rows false 3 [[iI b0, iI b1, slc (b && false) 4 2 0 (kk + 1) none]], rows true 2 (rs ++ [[str (toStr (List.getD (Prod.fst (Option.getD (takeR 112 s) ([], ByteArray.mk #[]))) 0 any)), str (toStr (List.getD (Prod.fst (Option.getD (takeR 112 s) ([], ByteArray.mk #[]))) 1 any))]])]) :=
  evalT (st := St.mk (rgtAr i len q) (hinA a0 a1 b0 b1 b kk rs s) ([Dec.br true, Dec.use [0, 6, 5] [ptr 0 1 0 0, slc false 1 1 0 2 (some 2)] [rows true 1 [[str s]], rows false 1 [[iface 104 (ptr 2 2 0 0)], [iface 104 (ptr 2 2 0 1)]], rows true 2 [[str (ByteArray.mk #[]), str (ByteArray.mk #[])]]] (tuple []) [rows true 1 [[str (Prod.snd (Option.getD (takeR 112 s) ([], ByteArray.mk #[])))]], rows false 1 [[iface 104 (ptr 2 2 0 0)], [iface 104 (ptr 2 2 0 1)]], rows true 2 [[str (toStr (List.getD (Prod.fst (Option.getD (takeR 112 s) ([], ByteArray.mk #[]))) 0 any)), str (toStr (List.getD (Prod.fst (Option.getD (takeR 112 s) ([], ByteArray.mk #[]))) 1 any))]]]]) []) (st' := St.mk (mkR 117 [(0, ptr 0 1 0 0), (13, ptr 3 3 0 2), (14, ptr 5 2 0 0), (15, slc false 1 1 0 5 none), (16, iI 5), (17, iI i), (97, iI len), (98, iI (IntKind.wrap IntKind.i64 (q + 1))), (99, tt true), (100, ptr 0 1 0 0), (101, ptr 5 2 0 0), (102, iface 104 (ptr 5 2 0 0)), (103, ptr 5 2 0 1), (104, iface 104 (ptr 5 2 0 1)), (105, slc false 6 1 0 2 (some 2)), (106, tuple []), (107, ptr 3 3 0 2), (108, ptr 3 3 0 2), (109, ptr 3 3 0 2), (110, slc b 4 2 0 kk none), (111, agg [str (toStr (List.getD (Prod.fst (Option.getD (takeR 112 s) ([], ByteArray.mk #[]))) 0 any)), str (toStr (List.getD (Prod.fst (Option.getD (takeR 112 s) ([], ByteArray.mk #[]))) 1 any))]), (112, slc false 7 2 0 1 (some 1)), (113, slc (b && false) 8 2 0 (kk + 1) none), (114, ptr 3 3 0 2), (115, iI (IntKind.wrap IntKind.i64 (q + 1)))]) ([rows true 1 [[str (Prod.snd (Option.getD (takeR 112 s) ([], ByteArray.mk #[])))]], rows false 1 (flA 2 3), rows true 2 [[iI a0, iI a1]], rows false 3 [[iI b0, iI b1, slc (b && false) 8 2 0 (kk + 1) none]], dead, rows true 2 [[str (toStr (List.getD (Prod.fst (Option.getD (takeR 112 s) ([], ByteArray.mk #[]))) 0 any)), str (toStr (List.getD (Prod.fst (Option.getD (takeR 112 s) ([], ByteArray.mk #[]))) 1 any))]], rows false 1 [[iface 104 (ptr 5 2 0 0)], [iface 104 (ptr 5 2 0 1)]], rows true 2 [[str (toStr (List.getD (Prod.fst (Option.getD (takeR 112 s) ([], ByteArray.mk #[]))) 0 any)), str (toStr (List.getD (Prod.fst (Option.getD (takeR 112 s) ([], ByteArray.mk #[]))) 1 any))]], rows true 2 (rs ++ [[str (toStr (List.getD (Prod.fst (Option.getD (takeR 112 s) ([], ByteArray.mk #[]))) 0 any)), str (toStr (List.getD (Prod.fst (Option.getD (takeR 112 s) ([], ByteArray.mk #[]))) 1 any))]])]) ([]) (tr 9 ++ ((decide (List.length rs = kk) = true) :: ((decide ((kk + 1) * 32 ≤ 140737488355328 ∧ kk + 1 ≤ 9223372036854775807) = true) :: (tr 25 ++ ((oU 4 60 [0, 6, 5] [ptr 0 1 0 0, slc false 6 1 0 2 (some 2)] [rows true 1 [[str s]], rows false 1 (flA 2 3), rows true 2 [[iI a0, iI a1]], rows false 3 [[iI b0, iI b1, slc b 4 2 0 kk none]], rows true 2 rs, rows true 2 [[str (ByteArray.mk #[]), str (ByteArray.mk #[])]], rows false 1 [[iface 104 (ptr 5 2 0 0)], [iface 104 (ptr 5 2 0 1)]]] [ptr 0 1 0 0, slc false 1 1 0 2 (some 2)] [rows true 1 [[str s]], rows false 1 [[iface 104 (ptr 2 2 0 0)], [iface 104 (ptr 2 2 0 1)]], rows true 2 [[str (ByteArray.mk #[]), str (ByteArray.mk #[])]]] (tuple []) [rows true 1 [[str (Prod.snd (Option.getD (takeR 112 s) ([], ByteArray.mk #[])))]], rows false 1 [[iface 104 (ptr 2 2 0 0)], [iface 104 (ptr 2 2 0 1)]], rows true 2 [[str (toStr (List.getD (Prod.fst (Option.getD (takeR 112 s) ([], ByteArray.mk #[]))) 0 any)), str (toStr (List.getD (Prod.fst (Option.getD (takeR 112 s) ([], ByteArray.mk #[]))) 1 any))]]]) :: ((decide (q < len) = true) :: []))))))) followed (by kernel_rfl) (allP_of (trC 9 ⟨h1, ⟨h2, (trC 25 ⟨⟨(@Go.L12.takesP_ok (s) h3), rfl, rfl, rfl⟩, ⟨h4, trivial⟩⟩)⟩⟩)) (keepM 117 [0, 13, 15, 16, 17, 97, 98]) ([0, 1, 2, 3, 8]) (by kernel_rfl) (by kernel_rfl) (by kernel_rfl)

theorem tAr_2 (a0 a1 b0 b1 : Int) (b : Bool) (kk : Nat) (rs : List (List AVal)) (i len q : Int) (s : ByteArray)
    (h1 : Option.isSome (takeR 112 s) = false)
    (h2 : decide (q < len) = true) :
    TripN Try.prog 4 (loopNo Try.f60 2) (rgtAr i len q) (hinA a0 a1 b0 b1 b kk rs s) (AExit.pan 117) (mkR 117 [(0, ptr 0 1 0 0), (13, ptr 3 3 0 2), (15, slc false 1 1 0 5 none), (16, iI 5), (17, iI i), (97, iI len), (98, iI q)]) ([dead, rows false 1 (flA 2 3), rows true 2 [[iI a0, iI a1]], rows false 3 [[iI b0, iI b1, slc b 4 2 0 kk none]], rows true 2 rs]) :=
  evalT (st := St.mk (rgtAr i len q) (hinA a0 a1 b0 b1 b kk rs s) ([Dec.br true, Dec.use [0, 6, 5] [ptr 0 1 0 0, slc false 1 1 0 2 (some 2)] [rows true 1 [[str s]], rows false 1 [[iface 104 (ptr 2 2 0 0)], [iface 104 (ptr 2 2 0 1)]], rows true 2 [[str (ByteArray.mk #[]), str (ByteArray.mk #[])]]] (pan 117) [dead, dead, dead]]) []) (st' := St.mk (mkR 117 [(0, ptr 0 1 0 0), (13, ptr 3 3 0 2), (14, ptr 5 2 0 0), (15, slc false 1 1 0 5 none), (16, iI 5), (17, iI i), (97, iI len), (98, iI q), (99, tt true), (100, ptr 0 1 0 0), (101, ptr 5 2 0 0), (102, iface 104 (ptr 5 2 0 0)), (103, ptr 5 2 0 1), (104, iface 104 (ptr 5 2 0 1)), (105, slc false 6 1 0 2 (some 2))]) ([dead, rows false 1 (flA 2 3), rows true 2 [[iI a0, iI a1]], rows false 3 [[iI b0, iI b1, slc b 4 2 0 kk none]], rows true 2 rs, dead, dead]) ([]) ((oU 4 60 [0, 6, 5] [ptr 0 1 0 0, slc false 6 1 0 2 (some 2)] [rows true 1 [[str s]], rows false 1 (flA 2 3), rows true 2 [[iI a0, iI a1]], rows false 3 [[iI b0, iI b1, slc b 4 2 0 kk none]], rows true 2 rs, rows true 2 [[str (ByteArray.mk #[]), str (ByteArray.mk #[])]], rows false 1 [[iface 104 (ptr 5 2 0 0)], [iface 104 (ptr 5 2 0 1)]]] [ptr 0 1 0 0, slc false 1 1 0 2 (some 2)] [rows true 1 [[str s]], rows false 1 [[iface 104 (ptr 2 2 0 0)], [iface 104 (ptr 2 2 0 1)]], rows true 2 [[str (ByteArray.mk #[]), str (ByteArray.mk #[])]]] (pan 117) [dead, dead, dead]) :: ((decide (q < len) = true) :: []))) followed (by kernel_rfl) (allP_of ⟨⟨(@Go.L12.takesP_no (s) h1), rfl, rfl, rfl⟩, ⟨h2, trivial⟩⟩) (keepM 117 [0, 13, 15, 16, 17, 97, 98]) ([0, 1, 2, 3, 4]) (by kernel_rfl) (by kernel_rfl) (by kernel_rfl)

def tAr_T (a0 a1 b0 b1 : Int) (b : Bool) (kk : Nat) (rs : List (List AVal)) (i len q : Int) (s : ByteArray) (Q : AExit → Regs → AState → Prop) : Prop := (decide (q < len) = true) ∧ ((((Option.isSome (takeR 112 s) = true)) → (decide ((kk + 1) * 32 ≤ 140737488355328 ∧ kk + 1 ≤ 9223372036854775807) = true) ∧ (decide (List.length rs = kk) = true) ∧ Q (AExit.normal) (mkR 117 [(0, ptr 0 1 0 0), (13, ptr 3 3 0 2), (15, slc false 1 1 0 5 none), (16, iI 5), (17, iI i), (97, iI len), (98, iI (IntKind.wrap IntKind.i64 (q + 1)))]) ([rows true 1 [[str (Prod.snd (Option.getD (takeR 112 s) ([], ByteArray.mk #[])))]], rows false 1 (flA 2 3), rows true 2 [[iI a0, iI a1]], rows false 3 [[iI b0, iI b1, slc (b && false) 4 2 0 (kk + 1) none]], rows true 2 (rs ++ [[str (toStr (List.getD (Prod.fst (Option.getD (takeR 112 s) ([], ByteArray.mk #[]))) 0 any)), str (toStr (List.getD (Prod.fst (Option.getD (takeR 112 s) ([], ByteArray.mk #[]))) 1 any))]])])) ∧ (((Option.isSome (takeR 112 s) = false)) → Q (AExit.pan 117) (mkR 117 [(0, ptr 0 1 0 0), (13, ptr 3 3 0 2), (15, slc false 1 1 0 5 none), (16, iI 5), (17, iI i), (97, iI len), (98, iI q)]) ([dead, rows false 1 (flA 2 3), rows true 2 [[iI a0, iI a1]], rows false 3 [[iI b0, iI b1, slc b 4 2 0 kk none]], rows true 2 rs])) ∧ (((Option.isSome (takeR 112 s) = true)) ∨ ((Option.isSome (takeR 112 s) = false))))
theorem tAr_wp (a0 a1 b0 b1 : Int) (b : Bool) (kk : Nat) (rs : List (List AVal)) (i len q : Int) (s : ByteArray) {Q : AExit → Regs → AState → Prop} (h : tAr_T a0 a1 b0 b1 b kk rs i len q s Q) : ∃ e rg' σ', TripN Try.prog 4 (loopNo Try.f60 2) (rgtAr i len q) (hinA a0 a1 b0 b1 b kk rs s) e rg' σ' ∧ Q e rg' σ' :=
  Or.elim h.2.2.2 (fun (c0 : (Option.isSome (takeR 112 s) = true)) => ⟨_, _, _, tAr_1 a0 a1 b0 b1 b kk rs i len q s ((h.2.1 c0).2.1) ((h.2.1 c0).1) (c0) (h.1), (h.2.1 c0).2.2⟩) (fun (c1 : (Option.isSome (takeR 112 s) = false)) => ⟨_, _, _, tAr_2 a0 a1 b0 b1 b kk rs i len q s (c1) (h.1), (h.2.2.1 c1)⟩)


theorem tAx_1 (a0 a1 b0 b1 : Int) (b : Bool) (kk : Nat) (rs : List (List AVal)) (i len q : Int) (s : ByteArray)
    (h1 : decide (q < len) = false) :
    TripN Try.prog 4 (loopNo Try.f60 2) (rgtAr i len q) (hinA a0 a1 b0 b1 b kk rs s) (AExit.exit 5) (mkR 117 [(0, ptr 0 1 0 0), (13, ptr 3 3 0 2), (15, slc false 1 1 0 5 none), (16, iI 5), (17, iI i), (97, iI len), (98, iI q)]) ([rows true 1 [[str s]], rows false 1 (flA 2 3), rows true 2 [[iI a0, iI a1]], rows false 3 [[iI b0, iI b1, slc b 4 2 0 kk none]], rows true 2 rs]) :=
  evalT (st := St.mk (rgtAr i len q) (hinA a0 a1 b0 b1 b kk rs s) ([Dec.br false]) []) (st' := St.mk (mkR 117 [(0, ptr 0 1 0 0), (13, ptr 3 3 0 2), (15, slc false 1 1 0 5 none), (16, iI 5), (17, iI i), (97, iI len), (98, iI q), (99, tt false)]) ([rows true 1 [[str s]], rows false 1 (flA 2 3), rows true 2 [[iI a0, iI a1]], rows false 3 [[iI b0, iI b1, slc b 4 2 0 kk none]], rows true 2 rs]) ([]) ((decide (q < len) = false) :: [])) followed (by kernel_rfl) (allP_of ⟨h1, trivial⟩) (keepM 117 [0, 13, 15, 16, 17, 97, 98]) ([0, 1, 2, 3, 4]) (by kernel_rfl) (by kernel_rfl) (by kernel_rfl)

def tAx_T (a0 a1 b0 b1 : Int) (b : Bool) (kk : Nat) (rs : List (List AVal)) (i len q : Int) (s : ByteArray) (Q : AExit → Regs → AState → Prop) : Prop := (decide (q < len) = false) ∧ Q (AExit.exit 5) (mkR 117 [(0, ptr 0 1 0 0), (13, ptr 3 3 0 2), (15, slc false 1 1 0 5 none), (16, iI 5), (17, iI i), (97, iI len), (98, iI q)]) ([rows true 1 [[str s]], rows false 1 (flA 2 3), rows true 2 [[iI a0, iI a1]], rows false 3 [[iI b0, iI b1, slc b 4 2 0 kk none]], rows true 2 rs])
theorem tAx_wp (a0 a1 b0 b1 : Int) (b : Bool) (kk : Nat) (rs : List (List AVal)) (i len q : Int) (s : ByteArray) {Q : AExit → Regs → AState → Prop} (h : tAx_T a0 a1 b0 b1 b kk rs i len q s Q) : ∃ e rg' σ', TripN Try.prog 4 (loopNo Try.f60 2) (rgtAr i len q) (hinA a0 a1 b0 b1 b kk rs s) e rg' σ' ∧ Q e rg' σ' :=
  ⟨_, _, _, tAx_1 a0 a1 b0 b1 b kk rs i len q s (h.1), h.2⟩


end Go.L12
end

section
set_option linter.unusedVariables false
set_option linter.unusedSimpArgs false
set_option maxRecDepth 100000
namespace Go.L12
open Go Go.Abs Go.Proofs
theorem pA_list (a0 a1 b0 b1 : Int) (nb : Bool) (rs : List (List AVal)) (hr : ∀ q, q < rs.length → rowK 112 rs q) (hm : rs.length ≤ 64) (i : Int) (l : List UInt8) (hl : l.length ≤ 35184372088832) :
    (∀ b, seqO (fun q => putR 112 (rs.getD q [])) rs.length 0 = some b → TripN Try.prog 5 (.loop (loopNo Try.f64 2)) (rgpAr i (rs.length : Nat) 0) (hppA (rA0 a0 a1) (rA1 b0 b1 (.fsl nb 2 rs none)) l.length (rowsL l)) (.exit 5) (rgpAr i (rs.length : Nat) (rs.length : Nat)) (hppA (rA0 a0 a1) (rA1 b0 b1 (.fsl nb 2 rs none)) (l ++ b).length (rowsL (l ++ b)))) ∧
    (seqO (fun q => putR 112 (rs.getD q [])) rs.length 0 = none → TripN Try.prog 5 (.loop (loopNo Try.f64 2)) (rgpAr i (rs.length : Nat) 0) (hppA (rA0 a0 a1) (rA1 b0 b1 (.fsl nb 2 rs none)) l.length (rowsL l)) (.pan 117) (mkR 148 []) (List.replicate 5 .dead)) := by
  have key := puts_runG (fun rg => rg.length = 148) (P := Try.prog) (N := 5) (c := loopNo Try.f64 2) rs.length (fun q => rgpAr i (rs.length : Nat) (q : Nat)) (fun l => hppA (rA0 a0 a1) (rA1 b0 b1 (.fsl nb 2 rs none)) l.length (rowsL l)) (fun q => putR 112 (rs.getD q [])) 35184372088832 600000 5
    (fun q b h => putR_len h)
    (fun l => TripN.wp (pAx_wp a0 a1 b0 b1 nb rs i (rs.length : Nat) (rs.length : Nat) l.length (rowsL l) ⟨decide_eq_false (by omega), rfl, rfl, rfl⟩))
    (fun q hq l hl => by
      have w1 : IntKind.wrap .i64 ((q : Int) + 1) = ((q + 1 : Nat) : Int) := by rw [wrapS (by omega) (by omega)]; omega
      have hlr : (rowsL l).length = l.length := List.length_map _
      have hq64 : q * 600000 ≤ 64 * 600000 := Nat.mul_le_mul_right _ (by omega)
      cases ho : putR 112 (rs.getD q []) with
      | some b =>
        refine ⟨fun b' hb' => ?_, fun h => by cases h⟩
        cases hb'
        refine TripN.wp (pAr_wp a0 a1 b0 b1 nb rs i (rs.length : Nat) (q : Nat) l.length (rowsL l) ?_)
        unfold pAr_T
        rw [w1, Int.toNat_natCast, ho]
        simp only [Option.getD_some, Option.isSome_some]
        refine ⟨decide_eq_true (by omega), decide_eq_true (by omega), hr q hq, hlr.symm, by omega, fun _ => ⟨by trivial, by first | rfl | trivial, ?_⟩, fun c => absurd c (by simp), .inl (by trivial)⟩
        rw [rowsL_append, List.length_append]
      | none =>
        refine ⟨fun b' hb' => (by cases hb'), fun _ => TripN.wpG (pAr_wp a0 a1 b0 b1 nb rs i (rs.length : Nat) (q : Nat) l.length (rowsL l) ?_)⟩
        unfold pAr_T
        rw [w1, Int.toNat_natCast, ho]
        simp only [Option.isSome_none]
        exact ⟨decide_eq_true (by omega), decide_eq_true (by omega), hr q hq, hlr.symm, by omega, fun c => absurd c (by simp), fun _ => ⟨by trivial, by kernel_rfl⟩, .inr (by trivial)⟩)
    rs.length 0 (by omega) l (by omega)
  refine ⟨fun b hb => (key.1 b hb).trip, fun h => ?_⟩
  obtain ⟨rg', σ', hg, r⟩ := key.2 h
  have q := TripN.panAll r.trip
  rw [hg] at q
  exact q

theorem takeR_rowP {s : ByteArray} {y : List AVal × ByteArray} (h : takeR 112 s = some y) : y.1 = [.str (List.getD y.1 0 .any).toStr, .str (List.getD y.1 1 .any).toStr] := by
  rw [takeR_P] at h
  cases h1 : tS s with
  | none => rw [h1] at h; cases h
  | some x =>
    rw [h1] at h
    simp only [Option.map_some] at h
    cases h2 : tS x.2 with
    | none => rw [h2] at h; cases h
    | some z => rw [h2] at h; cases h; rfl

theorem tA_out (a0 a1 b0 b1 i : Int) (n : Nat) (s : ByteArray) {e : AExit} {rg' : Regs} {σ' : AState}
    (h : TripN Try.prog 4 (.loop (loopNo Try.f60 2)) (rgtAr i (n : Nat) 0) (hinA a0 a1 b0 b1 true 0 [] s) e rg' σ') :
    TripN Try.prog 4 (.loop (loopNo Try.f60 2)) (rgtAr i (n : Nat) 0) (hptA (rA0 a0 a1) (rA1 b0 b1 (.fsl true 0 [] (some 0))) s) e rg' σ' := by
  refine TripN.preObj 3 (.rows false 3 [(rA1 b0 b1 (.fsl true 0 [] (some 0)))]) ?_ (by simp) rfl (fun F w ρ b h => ORel.lead h)
  refine TripN.ext (S := [.rows true 1 [[.str s]], .rows false 1 (flA 2 3), .rows true 2 [rA0 a0 a1], .rows false 3 [(rA1 b0 b1 (.fsl true 0 [] (some 0)))], .rows true 2 []]) ?_ rfl
  refine TripN.weakCell (id := 3) (es' := 3) (rs := [(rA1 b0 b1 (.fsl true 0 [] (some 0)))]) (i := 0) (j := 2) (v' := (.slc true 4 2 0 0 none)) ?_ rfl (Imp.nilSlc _ _ _ _ _)
  exact h
theorem tA_list (a0 a1 b0 b1 i : Int) (n : Nat) (hn : n ≤ 64) (s : ByteArray) :
    (∀ x, seqG (tkG 112) n 0 [] s = some x → TripN Try.prog 4 (.loop (loopNo Try.f60 2)) (rgtAr i (n : Nat) 0) (hptA (rA0 a0 a1) (rA1 b0 b1 (.fsl true 0 [] (some 0))) s) (.exit 5) (rgtAr i (n : Nat) (n : Nat)) (hptA (rA0 a0 a1) (rA1 b0 b1 (listV x.1)) x.2)) ∧
    (seqG (tkG 112) n 0 [] s = none → TripN Try.prog 4 (.loop (loopNo Try.f60 2)) (rgtAr i (n : Nat) 0) (hptA (rA0 a0 a1) (rA1 b0 b1 (.fsl true 0 [] (some 0))) s) (.pan 117) (mkR 117 []) (List.replicate 4 .dead)) := by
  have key := takes_runG (fun rg => rg.length = 117) (P := Try.prog) (N := 4) (c := loopNo Try.f60 2) n (fun q => rgtAr i (n : Nat) (q : Nat)) (fun (u : List (List AVal)) s => hinA a0 a1 b0 b1 u.isEmpty u.length u s) (tkG 112) (fun q u => u.length = q) 5
    (fun u s _ => TripN.wp (tAx_wp a0 a1 b0 b1 u.isEmpty u.length u i (n : Nat) (n : Nat) s ⟨decide_eq_false (by omega), rfl, rfl, rfl⟩))
    (fun q hq u s hI => by
      have w1 : IntKind.wrap .i64 ((q : Int) + 1) = ((q + 1 : Nat) : Int) := by rw [wrapS (by omega) (by omega)]; omega
      have eg : tkG 112 q u s = (takeR 112 s).map fun y => (u ++ [y.1], y.2) := rfl
      cases ho : takeR 112 s with
      | some y =>
        refine ⟨fun x hx => ?_, fun h => (by rw [eg, ho] at h; cases h)⟩
        rw [eg, ho] at hx
        cases hx
        refine ⟨by simp [hI], TripN.wp (tAr_wp a0 a1 b0 b1 u.isEmpty u.length u i (n : Nat) (q : Nat) s ?_)⟩
        unfold tAr_T
        rw [w1, ho]
        simp only [Option.getD_some, Option.isSome_some]
        refine ⟨decide_eq_true (by omega), fun _ => ⟨decide_eq_true (by omega), (by first | exact decide_eq_true rfl | simp), by trivial, by first | rfl | trivial, ?_⟩, fun c => absurd c (by simp), .inl (by trivial)⟩
        rw [← takeR_rowP ho, Bool.and_false, List.length_append, show (u ++ [y.1]).isEmpty = false by cases u <;> rfl]
        rfl
      | none =>
        refine ⟨fun x hx => (by rw [eg, ho] at hx; cases hx), fun _ => TripN.wpG (tAr_wp a0 a1 b0 b1 u.isEmpty u.length u i (n : Nat) (q : Nat) s ?_)⟩
        unfold tAr_T
        rw [w1, ho]
        simp only [Option.isSome_none]
        exact ⟨decide_eq_true (by omega), fun c => absurd c (by simp), fun _ => ⟨by trivial, by kernel_rfl⟩, .inr (by trivial)⟩)
    n 0 (by omega) [] s rfl
  refine ⟨fun x hx => ?_, fun h => ?_⟩
  · have h1 := TripN.freezeCell (key.1 x hx).trip (id := 3) (id2 := 4) (j := 2) (es := 3) (es2 := 2) (off := 0) (len := x.1.length) (nl := x.1.isEmpty) (p := true) (cap := none) (row := (rA1 b0 b1 (.slc x.1.isEmpty 4 2 0 x.1.length none))) (rs := x.1) rfl rfl rfl (by decide) rfl (by omega) (fun q v hv hne => by
      match q, hv, hne with
      | 0, hv, hne => cases hv; rfl
      | 1, hv, hne => cases hv; rfl
      | 2, hv, hne => exact absurd rfl hne
      | q + 3, hv, hne => exact absurd hv (by simp))
    rw [List.drop_zero, List.take_length] at h1
    exact tA_out a0 a1 b0 b1 i n s (h1.post (List.replicate 117 true) (List.range 4) (by kernel_rfl) rfl (by kernel_rfl))
  · obtain ⟨rg', σ', hg, r⟩ := key.2 h
    have q := TripN.panAll (tA_out a0 a1 b0 b1 i n s r.trip)
    rw [hg] at q
    exact q
end Go.L12
end

section
set_option linter.unusedVariables false
set_option maxRecDepth 100000
namespace Go.L12
open Go Go.Abs Go.Abs.AVal Go.Abs.AObj Go.Proofs
theorem pAN_1 (a0 a1 b0 b1 : Int) (nb : Bool) (rs : List (List AVal)) (k k2 : Nat) (bs bs2 : List (List AVal))
    (h1 : TripN Try.prog 5 (Code.loop (loopNo Try.f64 2)) (mkR 148 [(0, ptr 0 2 0 0), (13, ptr 4 3 0 2), (15, slc false 1 1 0 5 none), (16, iI 5), (17, iI 4), (125, iI (↑(List.length rs) : Int)), (126, iI 0)]) [rows false 2 [[ptr 0 2 0 0, slc false 5 1 0 (k + List.length (nRows (↑(List.length rs) : Int))) none]], rows false 1 (flA 3 4), dead, rows true 2 [[iI a0, iI a1]], rows true 3 [[iI b0, iI b1, fsl nb 2 rs none]], trows 5 true 1 (bs ++ nRows (↑(List.length rs) : Int))] (AExit.exit 5) (mkR 148 [(0, ptr 0 2 0 0), (13, ptr 4 3 0 2), (15, slc false 1 1 0 5 none), (16, iI 5), (17, iI 4), (125, iI (↑(List.length rs) : Int)), (126, iI (↑(List.length rs) : Int))]) [rows false 2 [[ptr 0 2 0 0, slc false 5 1 0 k2 none]], rows false 1 (flA 3 4), dead, rows true 2 [[iI a0, iI a1]], rows true 3 [[iI b0, iI b1, fsl nb 2 rs none]], trows 5 true 1 bs2])
    (h2 : nOk (↑(List.length rs) : Int) = true)
    (h3 : k = List.length bs)
    (h4 : List.length bs ≤ 70368744177664)
    (h5 : decide ((↑(List.length rs) : Int) ≤ 64) = true) :
    TripN Try.prog 5 (loopNo Try.f64 0) (rgpA 4) (hppA (rA0 a0 a1) (rA1 b0 b1 (fsl nb 2 rs none)) k bs) (AExit.normal) (mkR 148 [(0, ptr 0 2 0 0), (15, slc false 1 1 0 5 none), (16, iI 5), (17, iI 5)]) ([rows false 2 [[ptr 0 2 0 0, slc false 5 1 0 k2 none]], rows false 1 (flA 3 4), dead, rows true 2 [[iI a0, iI a1]], rows true 3 [[iI b0, iI b1, fsl nb 2 rs none]], trows 5 true 1 bs2]) :=
  evalT (st := St.mk (rgpA 4) (hppA (rA0 a0 a1) (rA1 b0 b1 (fsl nb 2 rs none)) k bs) ([Dec.br true, Dec.use [] [bool (decide ((↑(List.length rs) : Int) ≤ 64))] [] (tuple []) [], Dec.use [0, 5] [ptr 0 2 0 0, iI (↑(List.length rs) : Int)] [rows false 2 [[ptr 0 2 0 0, slc false 1 1 0 k none]], trows 5 true 1 bs] (tuple []) [rows false 2 [[ptr 0 2 0 0, slc false 2 1 0 (k + List.length (nRows (↑(List.length rs) : Int))) none]], dead, trows 5 true 1 (bs ++ nRows (↑(List.length rs) : Int))], Dec.compact (keepM 148 [0, 13, 15, 16, 17, 125, 126]) [0, 1, 2, 3, 4, 6], Dec.loop (AExit.exit 5) (rgpAr 4 (↑(List.length rs) : Int) (↑(List.length rs) : Int)) (hppA (rA0 a0 a1) (rA1 b0 b1 (fsl nb 2 rs none)) k2 bs2)]) []) (st' := St.mk (mkR 148 [(0, ptr 0 2 0 0), (13, ptr 4 3 0 2), (15, slc false 1 1 0 5 none), (16, iI 5), (17, iI 5), (125, iI (↑(List.length rs) : Int)), (126, iI (↑(List.length rs) : Int)), (147, iI 5)]) ([rows false 2 [[ptr 0 2 0 0, slc false 5 1 0 k2 none]], rows false 1 (flA 3 4), dead, rows true 2 [[iI a0, iI a1]], rows true 3 [[iI b0, iI b1, fsl nb 2 rs none]], trows 5 true 1 bs2]) ([]) ((Owed.loop (owed Try.prog 5) (loopNo Try.f64 2) (mkR 148 [(0, ptr 0 2 0 0), (13, ptr 4 3 0 2), (15, slc false 1 1 0 5 none), (16, iI 5), (17, iI 4), (125, iI (↑(List.length rs) : Int)), (126, iI 0)]) [rows false 2 [[ptr 0 2 0 0, slc false 5 1 0 (k + List.length (nRows (↑(List.length rs) : Int))) none]], rows false 1 (flA 3 4), dead, rows true 2 [[iI a0, iI a1]], rows true 3 [[iI b0, iI b1, fsl nb 2 rs none]], trows 5 true 1 (bs ++ nRows (↑(List.length rs) : Int))] (AExit.exit 5) (mkR 148 [(0, ptr 0 2 0 0), (13, ptr 4 3 0 2), (15, slc false 1 1 0 5 none), (16, iI 5), (17, iI 4), (125, iI (↑(List.length rs) : Int)), (126, iI (↑(List.length rs) : Int))]) [rows false 2 [[ptr 0 2 0 0, slc false 5 1 0 k2 none]], rows false 1 (flA 3 4), dead, rows true 2 [[iI a0, iI a1]], rows true 3 [[iI b0, iI b1, fsl nb 2 rs none]], trows 5 true 1 bs2]) :: (tr 3 ++ ((oU 5 68 [0, 5] [ptr 0 2 0 0, iI (↑(List.length rs) : Int)] [rows false 2 [[ptr 0 2 0 0, slc false 5 1 0 k none]], rows false 1 (flA 3 4), dead, rows true 2 [[iI a0, iI a1]], rows true 3 [[iI b0, iI b1, fsl nb 2 rs none]], trows 5 true 1 bs] [ptr 0 2 0 0, iI (↑(List.length rs) : Int)] [rows false 2 [[ptr 0 2 0 0, slc false 1 1 0 k none]], trows 5 true 1 bs] (tuple []) [rows false 2 [[ptr 0 2 0 0, slc false 2 1 0 (k + List.length (nRows (↑(List.length rs) : Int))) none]], dead, trows 5 true 1 (bs ++ nRows (↑(List.length rs) : Int))]) :: (tr 3 ++ ((oU 5 58 [] [bool (decide ((↑(List.length rs) : Int) ≤ 64))] [rows false 2 [[ptr 0 2 0 0, slc false 5 1 0 k none]], rows false 1 (flA 3 4), dead, rows true 2 [[iI a0, iI a1]], rows true 3 [[iI b0, iI b1, fsl nb 2 rs none]], trows 5 true 1 bs] [bool (decide ((↑(List.length rs) : Int) ≤ 64))] [] (tuple []) []) :: (tr 7 ++ []))))))) followed (by kernel_rfl) (allP_of ⟨h1, (trC 3 ⟨⟨(@Go.L12.num_ok ((↑(List.length rs) : Int)) (bs) (k) h2 h3 h4), rfl, rfl, rfl⟩, (trC 3 ⟨⟨(@Go.L12.right_ok (decide ((↑(List.length rs) : Int) ≤ 64)) h5), rfl, rfl, rfl⟩, (trC 7 trivial)⟩)⟩)⟩) (keepM 148 [0, 15, 16, 17]) ([0, 1, 2, 3, 4, 5]) (by kernel_rfl) (by kernel_rfl) (by kernel_rfl)

theorem pAN_2 (a0 a1 b0 b1 : Int) (nb : Bool) (rs : List (List AVal)) (k k2 : Nat) (bs bs2 : List (List AVal))
    (h1 : nOk (↑(List.length rs) : Int) = false)
    (h2 : (↑(List.length rs) : Int) < 9223372036854775808)
    (h3 : decide ((↑(List.length rs) : Int) ≤ 64) = true) :
    TripN Try.prog 5 (loopNo Try.f64 0) (rgpA 4) (hppA (rA0 a0 a1) (rA1 b0 b1 (fsl nb 2 rs none)) k bs) (AExit.pan 117) (mkR 148 [(0, ptr 0 2 0 0), (15, slc false 1 1 0 5 none), (16, iI 5), (17, iI 4)]) ([dead, rows false 1 (flA 3 4), dead, rows true 2 [[iI a0, iI a1]], rows true 3 [[iI b0, iI b1, fsl nb 2 rs none]]]) :=
  evalT (st := St.mk (rgpA 4) (hppA (rA0 a0 a1) (rA1 b0 b1 (fsl nb 2 rs none)) k bs) ([Dec.br true, Dec.use [] [bool (decide ((↑(List.length rs) : Int) ≤ 64))] [] (tuple []) [], Dec.use [0, 5] [ptr 0 2 0 0, iI (↑(List.length rs) : Int)] [rows false 2 [[ptr 0 2 0 0, slc false 1 1 0 k none]], trows 5 true 1 bs] (pan 117) [dead, dead]]) []) (st' := St.mk (mkR 148 [(0, ptr 0 2 0 0), (5, iface 112 (ptr 4 3 0 2)), (13, ptr 4 3 0 2), (15, slc false 1 1 0 5 none), (16, iI 5), (17, iI 4), (18, tt true), (19, ptr 1 1 4 0), (20, iface 112 (ptr 4 3 0 2)), (21, iface 112 (ptr 4 3 0 2)), (22, tuple [nilp, tt false]), (23, tt false), (24, nilp), (30, tuple [nilp, tt false]), (31, tt false), (32, nilp), (38, tuple [nilp, tt false]), (39, tt false), (40, nilp), (47, tuple [nilp, tt false]), (48, tt false), (49, nilp), (67, tuple [nilp, tt false]), (68, tt false), (69, nilp), (107, tuple [ptr 4 3 0 2, tt true]), (108, tt true), (109, ptr 4 3 0 2), (110, ptr 4 3 0 2), (111, ptr 4 3 0 2), (112, fsl nb 2 rs none), (113, iI (↑(List.length rs) : Int)), (114, bool (decide ((↑(List.length rs) : Int) ≤ 64))), (115, tuple []), (116, ptr 0 2 0 0), (117, ptr 4 3 0 2), (118, ptr 4 3 0 2), (119, fsl nb 2 rs none), (120, iI (↑(List.length rs) : Int))]) ([dead, rows false 1 (flA 3 4), dead, rows true 2 [[iI a0, iI a1]], rows true 3 [[iI b0, iI b1, fsl nb 2 rs none]], dead]) ([]) ((oU 5 68 [0, 5] [ptr 0 2 0 0, iI (↑(List.length rs) : Int)] [rows false 2 [[ptr 0 2 0 0, slc false 5 1 0 k none]], rows false 1 (flA 3 4), dead, rows true 2 [[iI a0, iI a1]], rows true 3 [[iI b0, iI b1, fsl nb 2 rs none]], trows 5 true 1 bs] [ptr 0 2 0 0, iI (↑(List.length rs) : Int)] [rows false 2 [[ptr 0 2 0 0, slc false 1 1 0 k none]], trows 5 true 1 bs] (pan 117) [dead, dead]) :: (tr 3 ++ ((oU 5 58 [] [bool (decide ((↑(List.length rs) : Int) ≤ 64))] [rows false 2 [[ptr 0 2 0 0, slc false 5 1 0 k none]], rows false 1 (flA 3 4), dead, rows true 2 [[iI a0, iI a1]], rows true 3 [[iI b0, iI b1, fsl nb 2 rs none]], trows 5 true 1 bs] [bool (decide ((↑(List.length rs) : Int) ≤ 64))] [] (tuple []) []) :: (tr 7 ++ []))))) followed (by kernel_rfl) (allP_of ⟨⟨(@Go.L12.num_no ((↑(List.length rs) : Int)) (bs) (k) h1 h2), rfl, rfl, rfl⟩, (trC 3 ⟨⟨(@Go.L12.right_ok (decide ((↑(List.length rs) : Int) ≤ 64)) h3), rfl, rfl, rfl⟩, (trC 7 trivial)⟩)⟩) (keepM 148 [0, 15, 16, 17]) ([0, 1, 2, 3, 4]) (by kernel_rfl) (by kernel_rfl) (by kernel_rfl)

theorem pAN_3 (a0 a1 b0 b1 : Int) (nb : Bool) (rs : List (List AVal)) (k k2 : Nat) (bs bs2 : List (List AVal))
    (h1 : decide ((↑(List.length rs) : Int) ≤ 64) = false) :
    TripN Try.prog 5 (loopNo Try.f64 0) (rgpA 4) (hppA (rA0 a0 a1) (rA1 b0 b1 (fsl nb 2 rs none)) k bs) (AExit.pan 117) (mkR 148 [(0, ptr 0 2 0 0), (15, slc false 1 1 0 5 none), (16, iI 5), (17, iI 4)]) ([rows false 2 [[ptr 0 2 0 0, slc false 5 1 0 k none]], rows false 1 (flA 3 4), dead, rows true 2 [[iI a0, iI a1]], rows true 3 [[iI b0, iI b1, fsl nb 2 rs none]], trows 5 true 1 bs]) :=
  evalT (st := St.mk (rgpA 4) (hppA (rA0 a0 a1) (rA1 b0 b1 (fsl nb 2 rs none)) k bs) ([Dec.br true, Dec.use [] [bool (decide ((↑(List.length rs) : Int) ≤ 64))] [] (pan 117) []]) []) (st' := St.mk (mkR 148 [(0, ptr 0 2 0 0), (5, iface 112 (ptr 4 3 0 2)), (13, ptr 4 3 0 2), (15, slc false 1 1 0 5 none), (16, iI 5), (17, iI 4), (18, tt true), (19, ptr 1 1 4 0), (20, iface 112 (ptr 4 3 0 2)), (21, iface 112 (ptr 4 3 0 2)), (22, tuple [nilp, tt false]), (23, tt false), (24, nilp), (30, tuple [nilp, tt false]), (31, tt false), (32, nilp), (38, tuple [nilp, tt false]), (39, tt false), (40, nilp), (47, tuple [nilp, tt false]), (48, tt false), (49, nilp), (67, tuple [nilp, tt false]), (68, tt false), (69, nilp), (107, tuple [ptr 4 3 0 2, tt true]), (108, tt true), (109, ptr 4 3 0 2), (110, ptr 4 3 0 2), (111, ptr 4 3 0 2), (112, fsl nb 2 rs none), (113, iI (↑(List.length rs) : Int)), (114, bool (decide ((↑(List.length rs) : Int) ≤ 64)))]) ([rows false 2 [[ptr 0 2 0 0, slc false 5 1 0 k none]], rows false 1 (flA 3 4), dead, rows true 2 [[iI a0, iI a1]], rows true 3 [[iI b0, iI b1, fsl nb 2 rs none]], trows 5 true 1 bs]) ([]) ((oU 5 58 [] [bool (decide ((↑(List.length rs) : Int) ≤ 64))] [rows false 2 [[ptr 0 2 0 0, slc false 5 1 0 k none]], rows false 1 (flA 3 4), dead, rows true 2 [[iI a0, iI a1]], rows true 3 [[iI b0, iI b1, fsl nb 2 rs none]], trows 5 true 1 bs] [bool (decide ((↑(List.length rs) : Int) ≤ 64))] [] (pan 117) []) :: (tr 7 ++ []))) followed (by kernel_rfl) (allP_of ⟨⟨(@Go.L12.right_no (decide ((↑(List.length rs) : Int) ≤ 64)) h1), rfl, rfl, rfl⟩, (trC 7 trivial)⟩) (keepM 148 [0, 15, 16, 17]) ([0, 1, 2, 3, 4, 5]) (by kernel_rfl) (by kernel_rfl) (by kernel_rfl)

def pAN_T (a0 a1 b0 b1 : Int) (nb : Bool) (rs : List (List AVal)) (k k2 : Nat) (bs bs2 : List (List AVal)) (Q : AExit → Regs → AState → Prop) : Prop := ((((decide ((↑(List.length rs) : Int) ≤ 64) = true)) → ((((nOk (↑(List.length rs) : Int) = true) ∧ (k = List.length bs) ∧ (List.length bs ≤ 70368744177664)) → (TripN Try.prog 5 (Code.loop (loopNo Try.f64 2)) (mkR 148 [(0, ptr 0 2 0 0), (13, ptr 4 3 0 2), (15, slc false 1 1 0 5 none), (16, iI 5), (17, iI 4), (125, iI (↑(List.length rs) : Int)), (126, iI 0)]) [rows false 2 [[ptr 0 2 0 0, slc false 5 1 0 (k + List.length (nRows (↑(List.length rs) : Int))) none]], rows false 1 (flA 3 4), dead, rows true 2 [[iI a0, iI a1]], rows true 3 [[iI b0, iI b1, fsl nb 2 rs none]], trows 5 true 1 (bs ++ nRows (↑(List.length rs) : Int))] (AExit.exit 5) (mkR 148 [(0, ptr 0 2 0 0), (13, ptr 4 3 0 2), (15, slc false 1 1 0 5 none), (16, iI 5), (17, iI 4), (125, iI (↑(List.length rs) : Int)), (126, iI (↑(List.length rs) : Int))]) [rows false 2 [[ptr 0 2 0 0, slc false 5 1 0 k2 none]], rows false 1 (flA 3 4), dead, rows true 2 [[iI a0, iI a1]], rows true 3 [[iI b0, iI b1, fsl nb 2 rs none]], trows 5 true 1 bs2]) ∧ Q (AExit.normal) (mkR 148 [(0, ptr 0 2 0 0), (15, slc false 1 1 0 5 none), (16, iI 5), (17, iI 5)]) ([rows false 2 [[ptr 0 2 0 0, slc false 5 1 0 k2 none]], rows false 1 (flA 3 4), dead, rows true 2 [[iI a0, iI a1]], rows true 3 [[iI b0, iI b1, fsl nb 2 rs none]], trows 5 true 1 bs2])) ∧ (((nOk (↑(List.length rs) : Int) = false) ∧ ((↑(List.length rs) : Int) < 9223372036854775808)) → Q (AExit.pan 117) (mkR 148 [(0, ptr 0 2 0 0), (15, slc false 1 1 0 5 none), (16, iI 5), (17, iI 4)]) ([dead, rows false 1 (flA 3 4), dead, rows true 2 [[iI a0, iI a1]], rows true 3 [[iI b0, iI b1, fsl nb 2 rs none]]])) ∧ (((nOk (↑(List.length rs) : Int) = true) ∧ (k = List.length bs) ∧ (List.length bs ≤ 70368744177664)) ∨ ((nOk (↑(List.length rs) : Int) = false) ∧ ((↑(List.length rs) : Int) < 9223372036854775808))))) ∧ (((decide ((↑(List.length rs) : Int) ≤ 64) = false)) → Q (AExit.pan 117) (mkR 148 [(0, ptr 0 2 0 0), (15, slc false 1 1 0 5 none), (16, iI 5), (17, iI 4)]) ([rows false 2 [[ptr 0 2 0 0, slc false 5 1 0 k none]], rows false 1 (flA 3 4), dead, rows true 2 [[iI a0, iI a1]], rows true 3 [[iI b0, iI b1, fsl nb 2 rs none]], trows 5 true 1 bs])) ∧ (((decide ((↑(List.length rs) : Int) ≤ 64) = true)) ∨ ((decide ((↑(List.length rs) : Int) ≤ 64) = false))))
theorem pAN_wp (a0 a1 b0 b1 : Int) (nb : Bool) (rs : List (List AVal)) (k k2 : Nat) (bs bs2 : List (List AVal)) {Q : AExit → Regs → AState → Prop} (h : pAN_T a0 a1 b0 b1 nb rs k k2 bs bs2 Q) : ∃ e rg' σ', TripN Try.prog 5 (loopNo Try.f64 0) (rgpA 4) (hppA (rA0 a0 a1) (rA1 b0 b1 (fsl nb 2 rs none)) k bs) e rg' σ' ∧ Q e rg' σ' :=
  Or.elim h.2.2 (fun (c0 : (decide ((↑(List.length rs) : Int) ≤ 64) = true)) => Or.elim (h.1 c0).2.2 (fun (c1 : (nOk (↑(List.length rs) : Int) = true) ∧ (k = List.length bs) ∧ (List.length bs ≤ 70368744177664)) => ⟨_, _, _, pAN_1 a0 a1 b0 b1 nb rs k k2 bs bs2 (((h.1 c0).1 c1).1) (c1.1) (c1.2.1) (c1.2.2) (c0), ((h.1 c0).1 c1).2⟩) (fun (c2 : (nOk (↑(List.length rs) : Int) = false) ∧ ((↑(List.length rs) : Int) < 9223372036854775808)) => ⟨_, _, _, pAN_2 a0 a1 b0 b1 nb rs k k2 bs bs2 (c2.1) (c2.2) (c0), ((h.1 c0).2.1 c2)⟩)) (fun (c3 : (decide ((↑(List.length rs) : Int) ≤ 64) = false)) => ⟨_, _, _, pAN_3 a0 a1 b0 b1 nb rs k k2 bs bs2 (c3), (h.2.1 c3)⟩)


theorem pANn_1 (a0 a1 b0 b1 : Int) (nb : Bool) (rs : List (List AVal)) (k : Nat) (bs : List (List AVal))
    (h1 : TripN Try.prog 5 (Code.loop (loopNo Try.f64 2)) (mkR 148 [(0, ptr 0 2 0 0), (13, ptr 4 3 0 2), (15, slc false 1 1 0 5 none), (16, iI 5), (17, iI 4), (125, iI (↑(List.length rs) : Int)), (126, iI 0)]) [rows false 2 [[ptr 0 2 0 0, slc false 5 1 0 (k + List.length (nRows (↑(List.length rs) : Int))) none]], rows false 1 (flA 3 4), dead, rows true 2 [[iI a0, iI a1]], rows true 3 [[iI b0, iI b1, fsl nb 2 rs none]], trows 5 true 1 (bs ++ nRows (↑(List.length rs) : Int))] (AExit.pan 117) (mkR 148 []) [dead, dead, dead, dead, dead])
    (h2 : nOk (↑(List.length rs) : Int) = true)
    (h3 : k = List.length bs)
    (h4 : List.length bs ≤ 70368744177664)
    (h5 : decide ((↑(List.length rs) : Int) ≤ 64) = true) :
    TripN Try.prog 5 (loopNo Try.f64 0) (rgpA 4) (hppA (rA0 a0 a1) (rA1 b0 b1 (fsl nb 2 rs none)) k bs) (AExit.pan 117) (mkR 148 []) ([dead, dead, dead, dead, dead]) :=
  evalT (st := St.mk (rgpA 4) (hppA (rA0 a0 a1) (rA1 b0 b1 (fsl nb 2 rs none)) k bs) ([Dec.br true, Dec.use [] [bool (decide ((↑(List.length rs) : Int) ≤ 64))] [] (tuple []) [], Dec.use [0, 5] [ptr 0 2 0 0, iI (↑(List.length rs) : Int)] [rows false 2 [[ptr 0 2 0 0, slc false 1 1 0 k none]], trows 5 true 1 bs] (tuple []) [rows false 2 [[ptr 0 2 0 0, slc false 2 1 0 (k + List.length (nRows (↑(List.length rs) : Int))) none]], dead, trows 5 true 1 (bs ++ nRows (↑(List.length rs) : Int))], Dec.compact (keepM 148 [0, 13, 15, 16, 17, 125, 126]) [0, 1, 2, 3, 4, 6], Dec.loop (AExit.pan 117) (mkR 148 []) (List.replicate 5 dead)]) []) (st' := St.mk (mkR 148 []) ([dead, dead, dead, dead, dead]) ([]) ((Owed.loop (owed Try.prog 5) (loopNo Try.f64 2) (mkR 148 [(0, ptr 0 2 0 0), (13, ptr 4 3 0 2), (15, slc false 1 1 0 5 none), (16, iI 5), (17, iI 4), (125, iI (↑(List.length rs) : Int)), (126, iI 0)]) [rows false 2 [[ptr 0 2 0 0, slc false 5 1 0 (k + List.length (nRows (↑(List.length rs) : Int))) none]], rows false 1 (flA 3 4), dead, rows true 2 [[iI a0, iI a1]], rows true 3 [[iI b0, iI b1, fsl nb 2 rs none]], trows 5 true 1 (bs ++ nRows (↑(List.length rs) : Int))] (AExit.pan 117) (mkR 148 []) [dead, dead, dead, dead, dead]) :: (tr 3 ++ ((oU 5 68 [0, 5] [ptr 0 2 0 0, iI (↑(List.length rs) : Int)] [rows false 2 [[ptr 0 2 0 0, slc false 5 1 0 k none]], rows false 1 (flA 3 4), dead, rows true 2 [[iI a0, iI a1]], rows true 3 [[iI b0, iI b1, fsl nb 2 rs none]], trows 5 true 1 bs] [ptr 0 2 0 0, iI (↑(List.length rs) : Int)] [rows false 2 [[ptr 0 2 0 0, slc false 1 1 0 k none]], trows 5 true 1 bs] (tuple []) [rows false 2 [[ptr 0 2 0 0, slc false 2 1 0 (k + List.length (nRows (↑(List.length rs) : Int))) none]], dead, trows 5 true 1 (bs ++ nRows (↑(List.length rs) : Int))]) :: (tr 3 ++ ((oU 5 58 [] [bool (decide ((↑(List.length rs) : Int) ≤ 64))] [rows false 2 [[ptr 0 2 0 0, slc false 5 1 0 k none]], rows false 1 (flA 3 4), dead, rows true 2 [[iI a0, iI a1]], rows true 3 [[iI b0, iI b1, fsl nb 2 rs none]], trows 5 true 1 bs] [bool (decide ((↑(List.length rs) : Int) ≤ 64))] [] (tuple []) []) :: (tr 7 ++ []))))))) followed (by kernel_rfl) (allP_of ⟨h1, (trC 3 ⟨⟨(@Go.L12.num_ok ((↑(List.length rs) : Int)) (bs) (k) h2 h3 h4), rfl, rfl, rfl⟩, (trC 3 ⟨⟨(@Go.L12.right_ok (decide ((↑(List.length rs) : Int) ≤ 64)) h5), rfl, rfl, rfl⟩, (trC 7 trivial)⟩)⟩)⟩) (keepM 148 [0, 15, 16, 17]) ([0, 1, 2, 3, 4]) (by kernel_rfl) (by kernel_rfl) (by kernel_rfl)

theorem pANn_2 (a0 a1 b0 b1 : Int) (nb : Bool) (rs : List (List AVal)) (k : Nat) (bs : List (List AVal))
    (h1 : nOk (↑(List.length rs) : Int) = false)
    (h2 : (↑(List.length rs) : Int) < 9223372036854775808)
    (h3 : decide ((↑(List.length rs) : Int) ≤ 64) = true) :
    TripN Try.prog 5 (loopNo Try.f64 0) (rgpA 4) (hppA (rA0 a0 a1) (rA1 b0 b1 (fsl nb 2 rs none)) k bs) (AExit.pan 117) (mkR 148 [(0, ptr 0 2 0 0), (15, slc false 1 1 0 5 none), (16, iI 5), (17, iI 4)]) ([dead, rows false 1 (flA 3 4), dead, rows true 2 [[iI a0, iI a1]], rows true 3 [[iI b0, iI b1, fsl nb 2 rs none]]]) :=
  evalT (st := St.mk (rgpA 4) (hppA (rA0 a0 a1) (rA1 b0 b1 (fsl nb 2 rs none)) k bs) ([Dec.br true, Dec.use [] [bool (decide ((↑(List.length rs) : Int) ≤ 64))] [] (tuple []) [], Dec.use [0, 5] [ptr 0 2 0 0, iI (↑(List.length rs) : Int)] [rows false 2 [[ptr 0 2 0 0, slc false 1 1 0 k none]], trows 5 true 1 bs] (pan 117) [dead, dead]]) []) (st' := St.mk (mkR 148 [(0, ptr 0 2 0 0), (5, iface 112 (ptr 4 3 0 2)), (13, ptr 4 3 0 2), (15, slc false 1 1 0 5 none), (16, iI 5), (17, iI 4), (18, tt true), (19, ptr 1 1 4 0), (20, iface 112 (ptr 4 3 0 2)), (21, iface 112 (ptr 4 3 0 2)), (22, tuple [nilp, tt false]), (23, tt false), (24, nilp), (30, tuple [nilp, tt false]), (31, tt false), (32, nilp), (38, tuple [nilp, tt false]), (39, tt false), (40, nilp), (47, tuple [nilp, tt false]), (48, tt false), (49, nilp), (67, tuple [nilp, tt false]), (68, tt false), (69, nilp), (107, tuple [ptr 4 3 0 2, tt true]), (108, tt true), (109, ptr 4 3 0 2), (110, ptr 4 3 0 2), (111, ptr 4 3 0 2), (112, fsl nb 2 rs none), (113, iI (↑(List.length rs) : Int)), (114, bool (decide ((↑(List.length rs) : Int) ≤ 64))), (115, tuple []), (116, ptr 0 2 0 0), (117, ptr 4 3 0 2), (118, ptr 4 3 0 2), (119, fsl nb 2 rs none), (120, iI (↑(List.length rs) : Int))]) ([dead, rows false 1 (flA 3 4), dead, rows true 2 [[iI a0, iI a1]], rows true 3 [[iI b0, iI b1, fsl nb 2 rs none]], dead]) ([]) ((oU 5 68 [0, 5] [ptr 0 2 0 0, iI (↑(List.length rs) : Int)] [rows false 2 [[ptr 0 2 0 0, slc false 5 1 0 k none]], rows false 1 (flA 3 4), dead, rows true 2 [[iI a0, iI a1]], rows true 3 [[iI b0, iI b1, fsl nb 2 rs none]], trows 5 true 1 bs] [ptr 0 2 0 0, iI (↑(List.length rs) : Int)] [rows false 2 [[ptr 0 2 0 0, slc false 1 1 0 k none]], trows 5 true 1 bs] (pan 117) [dead, dead]) :: (tr 3 ++ ((oU 5 58 [] [bool (decide ((↑(List.length rs) : Int) ≤ 64))] [rows false 2 [[ptr 0 2 0 0, slc false 5 1 0 k none]], rows false 1 (flA 3 4), dead, rows true 2 [[iI a0, iI a1]], rows true 3 [[iI b0, iI b1, fsl nb 2 rs none]], trows 5 true 1 bs] [bool (decide ((↑(List.length rs) : Int) ≤ 64))] [] (tuple []) []) :: (tr 7 ++ []))))) followed (by kernel_rfl) (allP_of ⟨⟨(@Go.L12.num_no ((↑(List.length rs) : Int)) (bs) (k) h1 h2), rfl, rfl, rfl⟩, (trC 3 ⟨⟨(@Go.L12.right_ok (decide ((↑(List.length rs) : Int) ≤ 64)) h3), rfl, rfl, rfl⟩, (trC 7 trivial)⟩)⟩) (keepM 148 [0, 15, 16, 17]) ([0, 1, 2, 3, 4]) (by kernel_rfl) (by kernel_rfl) (by kernel_rfl)

theorem pANn_3 (a0 a1 b0 b1 : Int) (nb : Bool) (rs : List (List AVal)) (k : Nat) (bs : List (List AVal))
    (h1 : decide ((↑(List.length rs) : Int) ≤ 64) = false) :
    TripN Try.prog 5 (loopNo Try.f64 0) (rgpA 4) (hppA (rA0 a0 a1) (rA1 b0 b1 (fsl nb 2 rs none)) k bs) (AExit.pan 117) (mkR 148 [(0, ptr 0 2 0 0), (15, slc false 1 1 0 5 none), (16, iI 5), (17, iI 4)]) ([rows false 2 [[ptr 0 2 0 0, slc false 5 1 0 k none]], rows false 1 (flA 3 4), dead, rows true 2 [[iI a0, iI a1]], rows true 3 [[iI b0, iI b1, fsl nb 2 rs none]], trows 5 true 1 bs]) :=
  evalT (st := St.mk (rgpA 4) (hppA (rA0 a0 a1) (rA1 b0 b1 (fsl nb 2 rs none)) k bs) ([Dec.br true, Dec.use [] [bool (decide ((↑(List.length rs) : Int) ≤ 64))] [] (pan 117) []]) []) (st' := St.mk (mkR 148 [(0, ptr 0 2 0 0), (5, iface 112 (ptr 4 3 0 2)), (13, ptr 4 3 0 2), (15, slc false 1 1 0 5 none), (16, iI 5), (17, iI 4), (18, tt true), (19, ptr 1 1 4 0), (20, iface 112 (ptr 4 3 0 2)), (21, iface 112 (ptr 4 3 0 2)), (22, tuple [nilp, tt false]), (23, tt false), (24, nilp), (30, tuple [nilp, tt false]), (31, tt false), (32, nilp), (38, tuple [nilp, tt false]), (39, tt false), (40, nilp), (47, tuple [nilp, tt false]), (48, tt false), (49, nilp), (67, tuple [nilp, tt false]), (68, tt false), (69, nilp), (107, tuple [ptr 4 3 0 2, tt true]), (108, tt true), (109, ptr 4 3 0 2), (110, ptr 4 3 0 2), (111, ptr 4 3 0 2), (112, fsl nb 2 rs none), (113, iI (↑(List.length rs) : Int)), (114, bool (decide ((↑(List.length rs) : Int) ≤ 64)))]) ([rows false 2 [[ptr 0 2 0 0, slc false 5 1 0 k none]], rows false 1 (flA 3 4), dead, rows true 2 [[iI a0, iI a1]], rows true 3 [[iI b0, iI b1, fsl nb 2 rs none]], trows 5 true 1 bs]) ([]) ((oU 5 58 [] [bool (decide ((↑(List.length rs) : Int) ≤ 64))] [rows false 2 [[ptr 0 2 0 0, slc false 5 1 0 k none]], rows false 1 (flA 3 4), dead, rows true 2 [[iI a0, iI a1]], rows true 3 [[iI b0, iI b1, fsl nb 2 rs none]], trows 5 true 1 bs] [bool (decide ((↑(List.length rs) : Int) ≤ 64))] [] (pan 117) []) :: (tr 7 ++ []))) followed (by kernel_rfl) (allP_of ⟨⟨(@Go.L12.right_no (decide ((↑(List.length rs) : Int) ≤ 64)) h1), rfl, rfl, rfl⟩, (trC 7 trivial)⟩) (keepM 148 [0, 15, 16, 17]) ([0, 1, 2, 3, 4, 5]) (by kernel_rfl) (by kernel_rfl) (by kernel_rfl)

def pANn_T (a0 a1 b0 b1 : Int) (nb : Bool) (rs : List (List AVal)) (k : Nat) (bs : List (List AVal)) (Q : AExit → Regs → AState → Prop) : Prop := ((((decide ((↑(List.length rs) : Int) ≤ 64) = true)) → ((((nOk (↑(List.length rs) : Int) = true) ∧ (k = List.length bs) ∧ (List.length bs ≤ 70368744177664)) → (TripN Try.prog 5 (Code.loop (loopNo Try.f64 2)) (mkR 148 [(0, ptr 0 2 0 0), (13, ptr 4 3 0 2), (15, slc false 1 1 0 5 none), (16, iI 5), (17, iI 4), (125, iI (↑(List.length rs) : Int)), (126, iI 0)]) [rows false 2 [[ptr 0 2 0 0, slc false 5 1 0 (k + List.length (nRows (↑(List.length rs) : Int))) none]], rows false 1 (flA 3 4), dead, rows true 2 [[iI a0, iI a1]], rows true 3 [[iI b0, iI b1, fsl nb 2 rs none]], trows 5 true 1 (bs ++ nRows (↑(List.length rs) : Int))] (AExit.pan 117) (mkR 148 []) [dead, dead, dead, dead, dead]) ∧ Q (AExit.pan 117) (mkR 148 []) ([dead, dead, dead, dead, dead])) ∧ (((nOk (↑(List.length rs) : Int) = false) ∧ ((↑(List.length rs) : Int) < 9223372036854775808)) → Q (AExit.pan 117) (mkR 148 [(0, ptr 0 2 0 0), (15, slc false 1 1 0 5 none), (16, iI 5), (17, iI 4)]) ([dead, rows false 1 (flA 3 4), dead, rows true 2 [[iI a0, iI a1]], rows true 3 [[iI b0, iI b1, fsl nb 2 rs none]]])) ∧ (((nOk (↑(List.length rs) : Int) = true) ∧ (k = List.length bs) ∧ (List.length bs ≤ 70368744177664)) ∨ ((nOk (↑(List.length rs) : Int) = false) ∧ ((↑(List.length rs) : Int) < 9223372036854775808))))) ∧ (((decide ((↑(List.length rs) : Int) ≤ 64) = false)) → Q (AExit.pan 117) (mkR 148 [(0, ptr 0 2 0 0), (15, slc false 1 1 0 5 none), (16, iI 5), (17, iI 4)]) ([rows false 2 [[ptr 0 2 0 0, slc false 5 1 0 k none]], rows false 1 (flA 3 4), dead, rows true 2 [[iI a0, iI a1]], rows true 3 [[iI b0, iI b1, fsl nb 2 rs none]], trows 5 true 1 bs])) ∧ (((decide ((↑(List.length rs) : Int) ≤ 64) = true)) ∨ ((decide ((↑(List.length rs) : Int) ≤ 64) = false))))
theorem pANn_wp (a0 a1 b0 b1 : Int) (nb : Bool) (rs : List (List AVal)) (k : Nat) (bs : List (List AVal)) {Q : AExit → Regs → AState → Prop} (h : pANn_T a0 a1 b0 b1 nb rs k bs Q) : ∃ e rg' σ', TripN Try.prog 5 (loopNo Try.f64 0) (rgpA 4) (hppA (rA0 a0 a1) (rA1 b0 b1 (fsl nb 2 rs none)) k bs) e rg' σ' ∧ Q e rg' σ' :=
  Or.elim h.2.2 (fun (c0 : (decide ((↑(List.length rs) : Int) ≤ 64) = true)) => Or.elim (h.1 c0).2.2 (fun (c1 : (nOk (↑(List.length rs) : Int) = true) ∧ (k = List.length bs) ∧ (List.length bs ≤ 70368744177664)) => ⟨_, _, _, pANn_1 a0 a1 b0 b1 nb rs k bs (((h.1 c0).1 c1).1) (c1.1) (c1.2.1) (c1.2.2) (c0), ((h.1 c0).1 c1).2⟩) (fun (c2 : (nOk (↑(List.length rs) : Int) = false) ∧ ((↑(List.length rs) : Int) < 9223372036854775808)) => ⟨_, _, _, pANn_2 a0 a1 b0 b1 nb rs k bs (c2.1) (c2.2) (c0), ((h.1 c0).2.1 c2)⟩)) (fun (c3 : (decide ((↑(List.length rs) : Int) ≤ 64) = false)) => ⟨_, _, _, pANn_3 a0 a1 b0 b1 nb rs k bs (c3), (h.2.1 c3)⟩)


theorem tAN_1 (a0 a1 b0 b1 : Int) (v : AVal) (s s2 : ByteArray)
    (h1 : TripN Try.prog 4 (Code.loop (loopNo Try.f60 2)) (mkR 117 [(0, ptr 0 1 0 0), (13, ptr 3 3 0 2), (15, slc false 1 1 0 5 none), (16, iI 5), (17, iI 4), (97, iI (tkV s)), (98, iI 0)]) [rows true 1 [[str (tkR s)]], rows false 1 (flA 2 3), rows true 2 [[iI a0, iI a1]], rows true 3 [[iI b0, iI b1, fsl true 0 [] (some 0)]]] (AExit.exit 5) (mkR 117 [(0, ptr 0 1 0 0), (13, ptr 3 3 0 2), (15, slc false 1 1 0 5 none), (16, iI 5), (17, iI 4), (97, iI (tkV s)), (98, iI (tkV s))]) [rows true 1 [[str s2]], rows false 1 (flA 2 3), rows true 2 [[iI a0, iI a1]], rows true 3 [[iI b0, iI b1, v]]])
    (h2 : tkOk s 64 = true) :
    TripN Try.prog 4 (loopNo Try.f60 0) (rgtA 4) (hptA (rA0 a0 a1) (rA1 b0 b1 (fsl true 0 [] (some 0))) s) (AExit.normal) (mkR 117 [(0, ptr 0 1 0 0), (15, slc false 1 1 0 5 none), (16, iI 5), (17, iI 5)]) ([rows true 1 [[str s2]], rows false 1 (flA 2 3), rows true 2 [[iI a0, iI a1]], rows true 3 [[iI b0, iI b1, v]]]) :=
  evalT (st := St.mk (rgtA 4) (hptA (rA0 a0 a1) (rA1 b0 b1 (fsl true 0 [] (some 0))) s) ([Dec.br true, Dec.use [0] [ptr 0 1 0 0, iI 64] [rows true 1 [[str s]]] (iI (tkV s)) [rows true 1 [[str (tkR s)]]], Dec.compact (keepM 117 [0, 13, 15, 16, 17, 97, 98]) [0, 1, 2, 3], Dec.loop (AExit.exit 5) (rgtAr 4 (tkV s) (tkV s)) (hptA (rA0 a0 a1) (rA1 b0 b1 v) s2)]) []) (st' := St.mk (mkR 117 [(0, ptr 0 1 0 0), (13, ptr 3 3 0 2), (15, slc false 1 1 0 5 none), (16, iI 5), (17, iI 5), (97, iI (tkV s)), (98, iI (tkV s)), (116, iI 5)]) ([rows true 1 [[str s2]], rows false 1 (flA 2 3), rows true 2 [[iI a0, iI a1]], rows true 3 [[iI b0, iI b1, v]]]) ([]) ((Owed.loop (owed Try.prog 4) (loopNo Try.f60 2) (mkR 117 [(0, ptr 0 1 0 0), (13, ptr 3 3 0 2), (15, slc false 1 1 0 5 none), (16, iI 5), (17, iI 4), (97, iI (tkV s)), (98, iI 0)]) [rows true 1 [[str (tkR s)]], rows false 1 (flA 2 3), rows true 2 [[iI a0, iI a1]], rows true 3 [[iI b0, iI b1, fsl true 0 [] (some 0)]]] (AExit.exit 5) (mkR 117 [(0, ptr 0 1 0 0), (13, ptr 3 3 0 2), (15, slc false 1 1 0 5 none), (16, iI 5), (17, iI 4), (97, iI (tkV s)), (98, iI (tkV s))]) [rows true 1 [[str s2]], rows false 1 (flA 2 3), rows true 2 [[iI a0, iI a1]], rows true 3 [[iI b0, iI b1, v]]]) :: ((oU 4 66 [0] [ptr 0 1 0 0, iI 64] [rows true 1 [[str s]], rows false 1 (flA 2 3), rows true 2 [[iI a0, iI a1]], rows true 3 [[iI b0, iI b1, fsl true 0 [] (some 0)]]] [ptr 0 1 0 0, iI 64] [rows true 1 [[str s]]] (iI (tkV s)) [rows true 1 [[str (tkR s)]]]) :: (tr 4 ++ [])))) followed (by kernel_rfl) (allP_of ⟨h1, ⟨⟨(@Go.L12.taken_ok (s) (64) h2), rfl, rfl, rfl⟩, (trC 4 trivial)⟩⟩) (keepM 117 [0, 15, 16, 17]) ([0, 1, 2, 3]) (by kernel_rfl) (by kernel_rfl) (by kernel_rfl)

theorem tAN_2 (a0 a1 b0 b1 : Int) (v : AVal) (s s2 : ByteArray)
    (h1 : tkOk s 64 = false) :
    TripN Try.prog 4 (loopNo Try.f60 0) (rgtA 4) (hptA (rA0 a0 a1) (rA1 b0 b1 (fsl true 0 [] (some 0))) s) (AExit.pan 117) (mkR 117 [(0, ptr 0 1 0 0), (15, slc false 1 1 0 5 none), (16, iI 5), (17, iI 4)]) ([dead, rows false 1 (flA 2 3), rows true 2 [[iI a0, iI a1]], rows true 3 [[iI b0, iI b1, fsl true 0 [] (some 0)]]]) :=
  evalT (st := St.mk (rgtA 4) (hptA (rA0 a0 a1) (rA1 b0 b1 (fsl true 0 [] (some 0))) s) ([Dec.br true, Dec.use [0] [ptr 0 1 0 0, iI 64] [rows true 1 [[str s]]] (pan 117) [dead]]) []) (st' := St.mk (mkR 117 [(0, ptr 0 1 0 0), (5, iface 112 (ptr 3 3 0 2)), (13, ptr 3 3 0 2), (15, slc false 1 1 0 5 none), (16, iI 5), (17, iI 4), (18, tt true), (19, ptr 1 1 4 0), (20, iface 112 (ptr 3 3 0 2)), (21, iface 112 (ptr 3 3 0 2)), (22, tuple [nilp, tt false]), (23, tt false), (24, nilp), (29, tuple [nilp, tt false]), (30, tt false), (31, nilp), (36, tuple [nilp, tt false]), (37, tt false), (38, nilp), (44, tuple [nilp, tt false]), (45, tt false), (46, nilp), (70, tuple [nilp, tt false]), (71, tt false), (72, nilp), (93, tuple [ptr 3 3 0 2, tt true]), (94, tt true), (95, ptr 3 3 0 2), (96, ptr 0 1 0 0)]) ([dead, rows false 1 (flA 2 3), rows true 2 [[iI a0, iI a1]], rows true 3 [[iI b0, iI b1, fsl true 0 [] (some 0)]]]) ([]) ((oU 4 66 [0] [ptr 0 1 0 0, iI 64] [rows true 1 [[str s]], rows false 1 (flA 2 3), rows true 2 [[iI a0, iI a1]], rows true 3 [[iI b0, iI b1, fsl true 0 [] (some 0)]]] [ptr 0 1 0 0, iI 64] [rows true 1 [[str s]]] (pan 117) [dead]) :: (tr 4 ++ []))) followed (by kernel_rfl) (allP_of ⟨⟨(@Go.L12.taken_no (s) (64) h1), rfl, rfl, rfl⟩, (trC 4 trivial)⟩) (keepM 117 [0, 15, 16, 17]) ([0, 1, 2, 3]) (by kernel_rfl) (by kernel_rfl) (by kernel_rfl)

def tAN_T (a0 a1 b0 b1 : Int) (v : AVal) (s s2 : ByteArray) (Q : AExit → Regs → AState → Prop) : Prop := ((((tkOk s 64 = true)) → (TripN Try.prog 4 (Code.loop (loopNo Try.f60 2)) (mkR 117 [(0, ptr 0 1 0 0), (13, ptr 3 3 0 2), (15, slc false 1 1 0 5 none), (16, iI 5), (17, iI 4), (97, iI (tkV s)), (98, iI 0)]) [rows true 1 [[str (tkR s)]], rows false 1 (flA 2 3), rows true 2 [[iI a0, iI a1]], rows true 3 [[iI b0, iI b1, fsl true 0 [] (some 0)]]] (AExit.exit 5) (mkR 117 [(0, ptr 0 1 0 0), (13, ptr 3 3 0 2), (15, slc false 1 1 0 5 none), (16, iI 5), (17, iI 4), (97, iI (tkV s)), (98, iI (tkV s))]) [rows true 1 [[str s2]], rows false 1 (flA 2 3), rows true 2 [[iI a0, iI a1]], rows true 3 [[iI b0, iI b1, v]]]) ∧ Q (AExit.normal) (mkR 117 [(0, ptr 0 1 0 0), (15, slc false 1 1 0 5 none), (16, iI 5), (17, iI 5)]) ([rows true 1 [[str s2]], rows false 1 (flA 2 3), rows true 2 [[iI a0, iI a1]], rows true 3 [[iI b0, iI b1, v]]])) ∧ (((tkOk s 64 = false)) → Q (AExit.pan 117) (mkR 117 [(0, ptr 0 1 0 0), (15, slc false 1 1 0 5 none), (16, iI 5), (17, iI 4)]) ([dead, rows false 1 (flA 2 3), rows true 2 [[iI a0, iI a1]], rows true 3 [[iI b0, iI b1, fsl true 0 [] (some 0)]]])) ∧ (((tkOk s 64 = true)) ∨ ((tkOk s 64 = false))))
theorem tAN_wp (a0 a1 b0 b1 : Int) (v : AVal) (s s2 : ByteArray) {Q : AExit → Regs → AState → Prop} (h : tAN_T a0 a1 b0 b1 v s s2 Q) : ∃ e rg' σ', TripN Try.prog 4 (loopNo Try.f60 0) (rgtA 4) (hptA (rA0 a0 a1) (rA1 b0 b1 (fsl true 0 [] (some 0))) s) e rg' σ' ∧ Q e rg' σ' :=
  Or.elim h.2.2 (fun (c0 : (tkOk s 64 = true)) => ⟨_, _, _, tAN_1 a0 a1 b0 b1 v s s2 ((h.1 c0).1) (c0), (h.1 c0).2⟩) (fun (c1 : (tkOk s 64 = false)) => ⟨_, _, _, tAN_2 a0 a1 b0 b1 v s s2 (c1), (h.2.1 c1)⟩)


theorem tANn_1 (a0 a1 b0 b1 : Int) (s : ByteArray)
    (h1 : TripN Try.prog 4 (Code.loop (loopNo Try.f60 2)) (mkR 117 [(0, ptr 0 1 0 0), (13, ptr 3 3 0 2), (15, slc false 1 1 0 5 none), (16, iI 5), (17, iI 4), (97, iI (tkV s)), (98, iI 0)]) [rows true 1 [[str (tkR s)]], rows false 1 (flA 2 3), rows true 2 [[iI a0, iI a1]], rows true 3 [[iI b0, iI b1, fsl true 0 [] (some 0)]]] (AExit.pan 117) (mkR 117 []) [dead, dead, dead, dead])
    (h2 : tkOk s 64 = true) :
    TripN Try.prog 4 (loopNo Try.f60 0) (rgtA 4) (hptA (rA0 a0 a1) (rA1 b0 b1 (fsl true 0 [] (some 0))) s) (AExit.pan 117) (mkR 117 []) ([dead, dead, dead, dead]) :=
  evalT (st := St.mk (rgtA 4) (hptA (rA0 a0 a1) (rA1 b0 b1 (fsl true 0 [] (some 0))) s) ([Dec.br true, Dec.use [0] [ptr 0 1 0 0, iI 64] [rows true 1 [[str s]]] (iI (tkV s)) [rows true 1 [[str (tkR s)]]], Dec.compact (keepM 117 [0, 13, 15, 16, 17, 97, 98]) [0, 1, 2, 3], Dec.loop (AExit.pan 117) (mkR 117 []) (List.replicate 4 dead)]) []) (st' := St.mk (mkR 117 []) ([dead, dead, dead, dead]) ([]) ((Owed.loop (owed Try.prog 4) (loopNo Try.f60 2) (mkR 117 [(0, ptr 0 1 0 0), (13, ptr 3 3 0 2), (15, slc false 1 1 0 5 none), (16, iI 5), (17, iI 4), (97, iI (tkV s)), (98, iI 0)]) [rows true 1 [[str (tkR s)]], rows false 1 (flA 2 3), rows true 2 [[iI a0, iI a1]], rows true 3 [[iI b0, iI b1, fsl true 0 [] (some 0)]]] (AExit.pan 117) (mkR 117 []) [dead, dead, dead, dead]) :: ((oU 4 66 [0] [ptr 0 1 0 0, iI 64] [rows true 1 [[str s]], rows false 1 (flA 2 3), rows true 2 [[iI a0, iI a1]], rows true 3 [[iI b0, iI b1, fsl true 0 [] (some 0)]]] [ptr 0 1 0 0, iI 64] [rows true 1 [[str s]]] (iI (tkV s)) [rows true 1 [[str (tkR s)]]]) :: (tr 4 ++ [])))) followed (by kernel_rfl) (allP_of ⟨h1, ⟨⟨(@Go.L12.taken_ok (s) (64) h2), rfl, rfl, rfl⟩, (trC 4 trivial)⟩⟩) (keepM 117 [0, 15, 16, 17]) ([0, 1, 2, 3]) (by kernel_rfl) (by kernel_rfl) (by kernel_rfl)

theorem tANn_2 (a0 a1 b0 b1 : Int) (s : ByteArray)
    (h1 : tkOk s 64 = false) :
    TripN Try.prog 4 (loopNo Try.f60 0) (rgtA 4) (hptA (rA0 a0 a1) (rA1 b0 b1 (fsl true 0 [] (some 0))) s) (AExit.pan 117) (mkR 117 [(0, ptr 0 1 0 0), (15, slc false 1 1 0 5 none), (16, iI 5), (17, iI 4)]) ([dead, rows false 1 (flA 2 3), rows true 2 [[iI a0, iI a1]], rows true 3 [[iI b0, iI b1, fsl true 0 [] (some 0)]]]) :=
  evalT (st := St.mk (rgtA 4) (hptA (rA0 a0 a1) (rA1 b0 b1 (fsl true 0 [] (some 0))) s) ([Dec.br true, Dec.use [0] [ptr 0 1 0 0, iI 64] [rows true 1 [[str s]]] (pan 117) [dead]]) []) (st' := St.mk (mkR 117 [(0, ptr 0 1 0 0), (5, iface 112 (ptr 3 3 0 2)), (13, ptr 3 3 0 2), (15, slc false 1 1 0 5 none), (16, iI 5), (17, iI 4), (18, tt true), (19, ptr 1 1 4 0), (20, iface 112 (ptr 3 3 0 2)), (21, iface 112 (ptr 3 3 0 2)), (22, tuple [nilp, tt false]), (23, tt false), (24, nilp), (29, tuple [nilp, tt false]), (30, tt false), (31, nilp), (36, tuple [nilp, tt false]), (37, tt false), (38, nilp), (44, tuple [nilp, tt false]), (45, tt false), (46, nilp), (70, tuple [nilp, tt false]), (71, tt false), (72, nilp), (93, tuple [ptr 3 3 0 2, tt true]), (94, tt true), (95, ptr 3 3 0 2), (96, ptr 0 1 0 0)]) ([dead, rows false 1 (flA 2 3), rows true 2 [[iI a0, iI a1]], rows true 3 [[iI b0, iI b1, fsl true 0 [] (some 0)]]]) ([]) ((oU 4 66 [0] [ptr 0 1 0 0, iI 64] [rows true 1 [[str s]], rows false 1 (flA 2 3), rows true 2 [[iI a0, iI a1]], rows true 3 [[iI b0, iI b1, fsl true 0 [] (some 0)]]] [ptr 0 1 0 0, iI 64] [rows true 1 [[str s]]] (pan 117) [dead]) :: (tr 4 ++ []))) followed (by kernel_rfl) (allP_of ⟨⟨(@Go.L12.taken_no (s) (64) h1), rfl, rfl, rfl⟩, (trC 4 trivial)⟩) (keepM 117 [0, 15, 16, 17]) ([0, 1, 2, 3]) (by kernel_rfl) (by kernel_rfl) (by kernel_rfl)

def tANn_T (a0 a1 b0 b1 : Int) (s : ByteArray) (Q : AExit → Regs → AState → Prop) : Prop := ((((tkOk s 64 = true)) → (TripN Try.prog 4 (Code.loop (loopNo Try.f60 2)) (mkR 117 [(0, ptr 0 1 0 0), (13, ptr 3 3 0 2), (15, slc false 1 1 0 5 none), (16, iI 5), (17, iI 4), (97, iI (tkV s)), (98, iI 0)]) [rows true 1 [[str (tkR s)]], rows false 1 (flA 2 3), rows true 2 [[iI a0, iI a1]], rows true 3 [[iI b0, iI b1, fsl true 0 [] (some 0)]]] (AExit.pan 117) (mkR 117 []) [dead, dead, dead, dead]) ∧ Q (AExit.pan 117) (mkR 117 []) ([dead, dead, dead, dead])) ∧ (((tkOk s 64 = false)) → Q (AExit.pan 117) (mkR 117 [(0, ptr 0 1 0 0), (15, slc false 1 1 0 5 none), (16, iI 5), (17, iI 4)]) ([dead, rows false 1 (flA 2 3), rows true 2 [[iI a0, iI a1]], rows true 3 [[iI b0, iI b1, fsl true 0 [] (some 0)]]])) ∧ (((tkOk s 64 = true)) ∨ ((tkOk s 64 = false))))
theorem tANn_wp (a0 a1 b0 b1 : Int) (s : ByteArray) {Q : AExit → Regs → AState → Prop} (h : tANn_T a0 a1 b0 b1 s Q) : ∃ e rg' σ', TripN Try.prog 4 (loopNo Try.f60 0) (rgtA 4) (hptA (rA0 a0 a1) (rA1 b0 b1 (fsl true 0 [] (some 0))) s) e rg' σ' ∧ Q e rg' σ' :=
  Or.elim h.2.2 (fun (c0 : (tkOk s 64 = true)) => ⟨_, _, _, tANn_1 a0 a1 b0 b1 s ((h.1 c0).1) (c0), (h.1 c0).2⟩) (fun (c1 : (tkOk s 64 = false)) => ⟨_, _, _, tANn_2 a0 a1 b0 b1 s (c1), (h.2.1 c1)⟩)


end Go.L12
end

section
set_option linter.unusedVariables false
set_option linter.unusedSimpArgs false
set_option maxRecDepth 100000
namespace Go.L12
open Go Go.Abs Go.Proofs
theorem pAN_r (a0 a1 b0 b1 : Int) (nb : Bool) (rs : List (List AVal)) (hr : ∀ q, q < rs.length → rowK 112 rs q) (hz : rs.length < 4611686018427387904) (l : List UInt8) (hl : l.length ≤ 30000000000000) :
    (∀ b, pL 112 rs = some b → TripN Try.prog 5 (loopNo Try.f64 0) (rgpA 4) (hppA (rA0 a0 a1) (rA1 b0 b1 (.fsl nb 2 rs none)) l.length (rowsL l)) .normal (rgpA 5) (hppA (rA0 a0 a1) (rA1 b0 b1 (.fsl nb 2 rs none)) (l ++ b).length (rowsL (l ++ b)))) ∧
    (pL 112 rs = none → ∃ rg' σ', TripN Try.prog 5 (loopNo Try.f64 0) (rgpA 4) (hppA (rA0 a0 a1) (rA1 b0 b1 (.fsl nb 2 rs none)) l.length (rowsL l)) (.pan 117) rg' σ') := by
  have hlr : (rowsL l).length = l.length := List.length_map _
  have emx : mx 112 = 64 := rfl
  unfold pL
  by_cases hm : rs.length ≤ mx 112
  · rw [if_pos hm]
    rw [emx] at hm
    have hok : nOk (rs.length : Int) = true := decide_eq_true ⟨by omega, by omega⟩
    have h9 := vbl_len9 (n := rs.length) (by omega)
    have e1 : nRows (rs.length : Int) = rowsL (vbl rs.length) := by rw [nRows_rowsL, Int.toNat_natCast]
    obtain ⟨k1, k2⟩ := pA_list a0 a1 b0 b1 nb rs hr (by omega) 4 (l ++ vbl rs.length) (by rw [List.length_append]; omega)
    have eh : l.length + (nRows (rs.length : Int)).length = (l ++ vbl rs.length).length := by rw [e1, List.length_append, List.length_map]
    have eb : rowsL l ++ nRows (rs.length : Int) = rowsL (l ++ vbl rs.length) := by rw [e1, rowsL_append]
    cases hs : seqO (fun k => putR 112 (rs.getD k [])) rs.length 0 with
    | some b =>
      refine ⟨fun b' hb' => ?_, fun h => by cases h⟩
      cases hb'
      refine TripN.wp (pAN_wp a0 a1 b0 b1 nb rs l.length (l ++ (vbl rs.length ++ b)).length (rowsL l) (rowsL (l ++ (vbl rs.length ++ b))) ?_)
      unfold pAN_T
      rw [eh, eb]
      have q := k1 b hs
      rw [List.append_assoc] at q
      exact ⟨fun _ => ⟨fun _ => ⟨q, by trivial, by trivial, by trivial⟩, fun c => absurd c.1 (by rw [hok]; simp), .inl ⟨hok, hlr.symm, by omega⟩⟩, fun c => absurd (of_decide_eq_false c) (by omega), .inl (decide_eq_true (by omega))⟩
    | none =>
      refine ⟨fun b' hb' => (by cases hb'), fun _ => TripN.wpE (pANn_wp a0 a1 b0 b1 nb rs l.length (rowsL l) ?_)⟩
      unfold pANn_T
      rw [eh, eb]
      exact ⟨fun _ => ⟨fun _ => ⟨k2 hs, by trivial⟩, fun c => absurd c.1 (by rw [hok]; simp), .inl ⟨hok, hlr.symm, by omega⟩⟩, fun c => absurd (of_decide_eq_false c) (by omega), .inl (decide_eq_true (by omega))⟩
  · rw [if_neg hm]
    rw [emx] at hm
    refine ⟨fun b' hb' => (by cases hb'), fun _ => TripN.wpE (pANn_wp a0 a1 b0 b1 nb rs l.length (rowsL l) ?_)⟩
    unfold pANn_T
    exact ⟨fun c => absurd (of_decide_eq_true c) (by omega), fun _ => by trivial, .inr (decide_eq_false (by omega))⟩
theorem tAN_r (a0 a1 b0 b1 : Int) (s : ByteArray) :
    (∀ x, tL 112 s = some x → TripN Try.prog 4 (loopNo Try.f60 0) (rgtA 4) (hptA (rA0 a0 a1) (rA1 b0 b1 (.fsl true 0 [] (some 0))) s) .normal (rgtA 5) (hptA (rA0 a0 a1) (rA1 b0 b1 (listV x.1)) x.2)) ∧
    (tL 112 s = none → ∃ rg' σ', TripN Try.prog 4 (loopNo Try.f60 0) (rgtA 4) (hptA (rA0 a0 a1) (rA1 b0 b1 (.fsl true 0 [] (some 0))) s) (.pan 117) rg' σ') := by
  have emx : ((mx 112 : Nat) : Int) = 64 := rfl
  unfold tL tI
  rw [emx]
  cases ho : tkOk s 64 with
  | true =>
    rw [if_pos rfl]
    have hv := (of_decide_eq_true ho).2
    have hv : tkV s ≤ 64 := hv
    have h0 := tkV0 s
    have en : (((tkV s).toNat : Nat) : Int) = tkV s := Int.toNat_of_nonneg h0
    obtain ⟨k1, k2⟩ := tA_list a0 a1 b0 b1 4 (tkV s).toNat (by omega) (tkR s)
    rw [en] at k1 k2
    dsimp only
    refine ⟨fun x hx => ?_, fun hx => ?_⟩
    · refine TripN.wp (tAN_wp a0 a1 b0 b1 (listV x.1) s x.2 ?_)
      unfold tAN_T
      exact ⟨fun _ => ⟨k1 x hx, by trivial, by trivial, by trivial⟩, fun c => absurd c (by rw [ho]; simp), .inl ho⟩
    · refine TripN.wpE (tANn_wp a0 a1 b0 b1 s ?_)
      unfold tANn_T
      exact ⟨fun _ => ⟨k2 hx, by trivial⟩, fun c => absurd c (by rw [ho]; simp), .inl ho⟩
  | false =>
    rw [if_neg (by simp)]
    refine ⟨fun x hx => (by cases hx), fun hx => ?_⟩
    refine TripN.wpE (tANn_wp a0 a1 b0 b1 s ?_)
    unfold tANn_T
    exact ⟨fun c => absurd c (by rw [ho]; simp), fun _ => by trivial, .inr ho⟩
end Go.L12
end

section
set_option linter.unusedVariables false
set_option linter.unusedSimpArgs false
set_option maxRecDepth 100000
namespace Go.L12
open Go Go.Abs Go.Proofs

def FA : List (Nat × Nat × Nat) := [(100, 0, 0), (100, 0, 1), (102, 1, 0), (100, 1, 1), (112, 1, 2)]
abbrev flAp : List (List AVal) := (flA 3 4)
abbrev flAt : List (List AVal) := (flA 2 3)
theorem pAI0_r (u0 u1 : List AVal) (i j : Nat) (hi : i < 5) (hfl : asType Try.prog 20 [List.getD (List.getD flAp i []) 0 .any] = .iface 100 (.ptr 3 2 0 j)) (hj : j + 1 ≤ 2) (hk : oI (u0.getD j .any)) (l : List UInt8) (hl : l.length ≤ 35184372088832) :
    (∀ b, putF 100 (u0.getD j .any) = some b → TripN Try.prog 5 (loopNo Try.f64 0) (rgpA (i : Nat)) (hppA u0 u1 l.length (rowsL l)) .normal (rgpA ((i + 1 : Nat) : Int)) (hppA u0 u1 (l ++ b).length (rowsL (l ++ b)))) ∧ (putF 100 (u0.getD j .any) = none → ∃ rg' σ', TripN Try.prog 5 (loopNo Try.f64 0) (rgpA (i : Nat)) (hppA u0 u1 l.length (rowsL l)) (.pan 117) rg' σ') := by
  have w1 : IntKind.wrap .i64 ((i : Int) + 1) = ((i + 1 : Nat) : Int) := by rw [wrapS (by omega) (by omega)]; omega
  have hlr : (rowsL l).length = l.length := List.length_map _
  obtain ⟨v, hn, hv1, hv2⟩ := hk
  rw [hn]
  refine ⟨fun b hb => TripN.wp (pAI0_wp u0 u1 i j l.length (rowsL l) ?_), fun hb => TripN.wpE (pAI0_wp u0 u1 i j l.length (rowsL l) ?_)⟩
  · unfold pAI0_T
    rw [Int.toNat_natCast, w1, hn]
    simp only [AVal.toInt]
    have hb : pI v = some b := hb
    unfold pI at hb
    split at hb
    · rename_i ho
      cases hb
      refine ⟨decide_eq_true (by omega), decide_eq_true (by omega), decide_eq_true (by omega), hfl, rfl, decide_eq_true (by omega), fun _ => ⟨by trivial, by first | rfl | trivial, ?_⟩, fun c => absurd c.1 (by rw [ho]; simp), .inl ⟨ho, hlr.symm, by rw [hlr]; omega⟩⟩
      rw [nRows_rowsL, rowsL_append, List.length_append, List.length_map]
    · cases hb
  · unfold pAI0_T
    rw [Int.toNat_natCast, w1, hn]
    simp only [AVal.toInt]
    have hb : pI v = none := hb
    unfold pI at hb
    split at hb
    · cases hb
    · rename_i ho
      have ho : nOk v = false := by simpa using ho
      exact ⟨decide_eq_true (by omega), decide_eq_true (by omega), decide_eq_true (by omega), hfl, rfl, decide_eq_true (by omega), fun c => absurd c.1 (by rw [ho]; simp), fun _ => by trivial, .inr ⟨ho, hv2⟩⟩

theorem pAE1_r (u0 u1 : List AVal) (i j : Nat) (hi : i < 5) (hfl : asType Try.prog 20 [List.getD (List.getD flAp i []) 0 .any] = .iface 102 (.ptr 4 3 0 j)) (hj : j + 1 ≤ 3) (hk : oI (u1.getD j .any)) (l : List UInt8) (hl : l.length ≤ 35184372088832) :
    (∀ b, putF 102 (u1.getD j .any) = some b → TripN Try.prog 5 (loopNo Try.f64 0) (rgpA (i : Nat)) (hppA u0 u1 l.length (rowsL l)) .normal (rgpA ((i + 1 : Nat) : Int)) (hppA u0 u1 (l ++ b).length (rowsL (l ++ b)))) ∧ (putF 102 (u1.getD j .any) = none → ∃ rg' σ', TripN Try.prog 5 (loopNo Try.f64 0) (rgpA (i : Nat)) (hppA u0 u1 l.length (rowsL l)) (.pan 117) rg' σ') := by
  have w1 : IntKind.wrap .i64 ((i : Int) + 1) = ((i + 1 : Nat) : Int) := by rw [wrapS (by omega) (by omega)]; omega
  have hlr : (rowsL l).length = l.length := List.length_map _
  obtain ⟨v, hn, hv1, hv2⟩ := hk
  rw [hn]
  refine ⟨fun b hb => TripN.wp (pAE1_wp u0 u1 i j l.length (rowsL l) ?_), fun hb => TripN.wpE (pAE1_wp u0 u1 i j l.length (rowsL l) ?_)⟩
  · unfold pAE1_T
    rw [Int.toNat_natCast, w1, hn]
    simp only [AVal.toInt]
    have hb : pI v = some b := hb
    unfold pI at hb
    split at hb
    · rename_i ho
      cases hb
      refine ⟨decide_eq_true (by omega), decide_eq_true (by omega), decide_eq_true (by omega), hfl, rfl, decide_eq_true (by omega), fun _ => ⟨by trivial, by first | rfl | trivial, ?_⟩, fun c => absurd c.1 (by rw [ho]; simp), .inl ⟨ho, hlr.symm, by rw [hlr]; omega⟩⟩
      rw [nRows_rowsL, rowsL_append, List.length_append, List.length_map]
    · cases hb
  · unfold pAE1_T
    rw [Int.toNat_natCast, w1, hn]
    simp only [AVal.toInt]
    have hb : pI v = none := hb
    unfold pI at hb
    split at hb
    · cases hb
    · rename_i ho
      have ho : nOk v = false := by simpa using ho
      exact ⟨decide_eq_true (by omega), decide_eq_true (by omega), decide_eq_true (by omega), hfl, rfl, decide_eq_true (by omega), fun c => absurd c.1 (by rw [ho]; simp), fun _ => by trivial, .inr ⟨ho, hv2⟩⟩

theorem pAI1_r (u0 u1 : List AVal) (i j : Nat) (hi : i < 5) (hfl : asType Try.prog 20 [List.getD (List.getD flAp i []) 0 .any] = .iface 100 (.ptr 4 3 0 j)) (hj : j + 1 ≤ 3) (hk : oI (u1.getD j .any)) (l : List UInt8) (hl : l.length ≤ 35184372088832) :
    (∀ b, putF 100 (u1.getD j .any) = some b → TripN Try.prog 5 (loopNo Try.f64 0) (rgpA (i : Nat)) (hppA u0 u1 l.length (rowsL l)) .normal (rgpA ((i + 1 : Nat) : Int)) (hppA u0 u1 (l ++ b).length (rowsL (l ++ b)))) ∧ (putF 100 (u1.getD j .any) = none → ∃ rg' σ', TripN Try.prog 5 (loopNo Try.f64 0) (rgpA (i : Nat)) (hppA u0 u1 l.length (rowsL l)) (.pan 117) rg' σ') := by
  have w1 : IntKind.wrap .i64 ((i : Int) + 1) = ((i + 1 : Nat) : Int) := by rw [wrapS (by omega) (by omega)]; omega
  have hlr : (rowsL l).length = l.length := List.length_map _
  obtain ⟨v, hn, hv1, hv2⟩ := hk
  rw [hn]
  refine ⟨fun b hb => TripN.wp (pAI1_wp u0 u1 i j l.length (rowsL l) ?_), fun hb => TripN.wpE (pAI1_wp u0 u1 i j l.length (rowsL l) ?_)⟩
  · unfold pAI1_T
    rw [Int.toNat_natCast, w1, hn]
    simp only [AVal.toInt]
    have hb : pI v = some b := hb
    unfold pI at hb
    split at hb
    · rename_i ho
      cases hb
      refine ⟨decide_eq_true (by omega), decide_eq_true (by omega), decide_eq_true (by omega), hfl, rfl, decide_eq_true (by omega), fun _ => ⟨by trivial, by first | rfl | trivial, ?_⟩, fun c => absurd c.1 (by rw [ho]; simp), .inl ⟨ho, hlr.symm, by rw [hlr]; omega⟩⟩
      rw [nRows_rowsL, rowsL_append, List.length_append, List.length_map]
    · cases hb
  · unfold pAI1_T
    rw [Int.toNat_natCast, w1, hn]
    simp only [AVal.toInt]
    have hb : pI v = none := hb
    unfold pI at hb
    split at hb
    · cases hb
    · rename_i ho
      have ho : nOk v = false := by simpa using ho
      exact ⟨decide_eq_true (by omega), decide_eq_true (by omega), decide_eq_true (by omega), hfl, rfl, decide_eq_true (by omega), fun c => absurd c.1 (by rw [ho]; simp), fun _ => by trivial, .inr ⟨ho, hv2⟩⟩

def objA (u0 u1 : List AVal) (o : Nat) : List AVal := if o = 0 then u0 else u1
def fpA (u0 u1 : List AVal) (i : Nat) : Option (List UInt8) := putF (FA.getD i (0, 0, 0)).1 ((objA u0 u1 (FA.getD i (0, 0, 0)).2.1).getD (FA.getD i (0, 0, 0)).2.2 .any)
def bdA (a0 a1 b0 b1 : Int) : Prop := (-9223372036854775808 ≤ a0 ∧ a0 < 9223372036854775808) ∧ (-9223372036854775808 ≤ a1 ∧ a1 < 9223372036854775808) ∧ (-9223372036854775808 ≤ b0 ∧ b0 < 9223372036854775808) ∧ (-9223372036854775808 ≤ b1 ∧ b1 < 9223372036854775808)
def kA (a0 a1 b0 b1 : Int) (rs : List (List AVal)) : Prop := bdA a0 a1 b0 b1 ∧ (∀ q, q < rs.length → rowK 112 rs q) ∧ rs.length < 4611686018427387904
theorem pA_round (a0 a1 b0 b1 : Int) (nb : Bool) (rs : List (List AVal)) (hk : kA a0 a1 b0 b1 rs) : ∀ i, i < 5 → ∀ l : List UInt8, l.length ≤ 17592186044416 + i * 40000000 → (∀ b, fpA (rA0 a0 a1) (rA1 b0 b1 (.fsl nb 2 rs none)) i = some b → TripN Try.prog 5 (loopNo Try.f64 0) (rgpA (i : Nat)) (hppA (rA0 a0 a1) (rA1 b0 b1 (.fsl nb 2 rs none)) l.length (rowsL l)) .normal (rgpA ((i + 1 : Nat) : Int)) (hppA (rA0 a0 a1) (rA1 b0 b1 (.fsl nb 2 rs none)) (l ++ b).length (rowsL (l ++ b)))) ∧ (fpA (rA0 a0 a1) (rA1 b0 b1 (.fsl nb 2 rs none)) i = none → ∃ rg' σ', TripN Try.prog 5 (loopNo Try.f64 0) (rgpA (i : Nat)) (hppA (rA0 a0 a1) (rA1 b0 b1 (.fsl nb 2 rs none)) l.length (rowsL l)) (.pan 117) rg' σ')
  | 0, hi, l, hl => pAI0_r (rA0 a0 a1) (rA1 b0 b1 (.fsl nb 2 rs none)) 0 0 hi (by kernel_rfl) (by omega) ⟨_, rfl, hk.1.1⟩ l (by omega)
  | 1, hi, l, hl => pAI0_r (rA0 a0 a1) (rA1 b0 b1 (.fsl nb 2 rs none)) 1 1 hi (by kernel_rfl) (by omega) ⟨_, rfl, hk.1.2.1⟩ l (by omega)
  | 2, hi, l, hl => pAE1_r (rA0 a0 a1) (rA1 b0 b1 (.fsl nb 2 rs none)) 2 0 hi (by kernel_rfl) (by omega) ⟨_, rfl, hk.1.2.2.1⟩ l (by omega)
  | 3, hi, l, hl => pAI1_r (rA0 a0 a1) (rA1 b0 b1 (.fsl nb 2 rs none)) 3 1 hi (by kernel_rfl) (by omega) ⟨_, rfl, hk.1.2.2.2⟩ l (by omega)
  | 4, hi, l, hl => pAN_r a0 a1 b0 b1 nb rs hk.2.1 hk.2.2 l (by omega)
  | n + 5, hi, l, hl => absurd hi (by omega)
theorem putsA_ok (a0 a1 b0 b1 : Int) (nb : Bool) (rs : List (List AVal)) (hk : kA a0 a1 b0 b1 rs) (l b : List UInt8) (hl : l.length ≤ 17592186044416) (hb : seqO (fpA (rA0 a0 a1) (rA1 b0 b1 (.fsl nb 2 rs none))) 5 0 = some b) :
    FOk Try.prog 64 [.ptr 0 2 0 0, .slc false 1 1 0 5 none] [.rows false 2 [[.ptr 0 2 0 0, .slc false 2 1 0 l.length none]], .rows false 1 flAp, .trows 5 true 1 (rowsL l), .rows true 2 [rA0 a0 a1], .rows true 3 [rA1 b0 b1 (.fsl nb 2 rs none)]] (.tuple []) [.rows false 2 [[.ptr 0 2 0 0, .slc false 5 1 0 (l ++ b).length none]], .rows false 1 flAp, .dead, .rows true 2 [rA0 a0 a1], .rows true 3 [rA1 b0 b1 (.fsl nb 2 rs none)], .trows 5 true 1 (rowsL (l ++ b))] := by
  have r := (puts_run (c := loopNo Try.f64 0) 5 (fun i => rgpA (i : Nat)) (fun l => hppA (rA0 a0 a1) (rA1 b0 b1 (.fsl nb 2 rs none)) l.length (rowsL l)) (fpA (rA0 a0 a1) (rA1 b0 b1 (.fsl nb 2 rs none))) 17592186044416 40000000 0 (fun i b h => putF_len h) (fun l => TripN.wp (pAX_wp (rA0 a0 a1) (rA1 b0 b1 (.fsl nb 2 rs none)) 5 l.length (rowsL l) ⟨by kernel_rfl, rfl, rfl, rfl⟩)) (pA_round a0 a1 b0 b1 nb rs hk) 5 0 (by omega) l (by omega)).1 b hb
  exact (evalF_ok followed Try.func64 (by kernel_rfl) (show evalF Try.prog Try.f64 [.ptr 0 2 0 0, .slc false 1 1 0 5 none] [.rows false 2 [[.ptr 0 2 0 0, .slc false 2 1 0 l.length none]], .rows false 1 flAp, .trows 5 true 1 (rowsL l), .rows true 2 [rA0 a0 a1], .rows true 3 [rA1 b0 b1 (.fsl nb 2 rs none)]] [Dec.lift 2, Dec.compact (keepM 148 [0, 15, 16, 17]) [0, 1, 2, 3, 4, 5], Dec.loop (.exit 0) (rgpA 5) (hppA (rA0 a0 a1) (rA1 b0 b1 (.fsl nb 2 rs none)) (l ++ b).length (rowsL (l ++ b)))] = .ok (FRes.mk (.tuple []) (hppA (rA0 a0 a1) (rA1 b0 b1 (.fsl nb 2 rs none)) (l ++ b).length (rowsL (l ++ b))) [(owed Try.prog 5).loop (loopNo Try.f64 0) (rgpA 0) (hppA (rA0 a0 a1) (rA1 b0 b1 (.fsl nb 2 rs none)) l.length (rowsL l)) (.exit 0) (rgpA 5) (hppA (rA0 a0 a1) (rA1 b0 b1 (.fsl nb 2 rs none)) (l ++ b).length (rowsL (l ++ b)))]) by kernel_rfl) (allP_of ⟨r.trip, trivial⟩)).move [0, 1, 2, 3, 4, 5] (by kernel_rfl) (by kernel_rfl) (by kernel_rfl)
theorem putsA_no (a0 a1 b0 b1 : Int) (nb : Bool) (rs : List (List AVal)) (hk : kA a0 a1 b0 b1 rs) (l : List UInt8) (hl : l.length ≤ 17592186044416) (hb : seqO (fpA (rA0 a0 a1) (rA1 b0 b1 (.fsl nb 2 rs none))) 5 0 = none) :
    FOk Try.prog 64 [.ptr 0 2 0 0, .slc false 1 1 0 5 none] [.rows false 2 [[.ptr 0 2 0 0, .slc false 2 1 0 l.length none]], .rows false 1 flAp, .trows 5 true 1 (rowsL l), .rows true 2 [rA0 a0 a1], .rows true 3 [rA1 b0 b1 (.fsl nb 2 rs none)]] (.pan 117) [.dead, .dead, .dead, .dead, .dead] := by
  obtain ⟨rg', σ', r⟩ := (puts_run (c := loopNo Try.f64 0) 5 (fun i => rgpA (i : Nat)) (fun l => hppA (rA0 a0 a1) (rA1 b0 b1 (.fsl nb 2 rs none)) l.length (rowsL l)) (fpA (rA0 a0 a1) (rA1 b0 b1 (.fsl nb 2 rs none))) 17592186044416 40000000 0 (fun i b h => putF_len h) (fun l => TripN.wp (pAX_wp (rA0 a0 a1) (rA1 b0 b1 (.fsl nb 2 rs none)) 5 l.length (rowsL l) ⟨by kernel_rfl, rfl, rfl, rfl⟩)) (pA_round a0 a1 b0 b1 nb rs hk) 5 0 (by omega) l (by omega)).2 hb
  exact (evalF_ok followed Try.func64 (by kernel_rfl) (show evalF Try.prog Try.f64 [.ptr 0 2 0 0, .slc false 1 1 0 5 none] [.rows false 2 [[.ptr 0 2 0 0, .slc false 2 1 0 l.length none]], .rows false 1 flAp, .trows 5 true 1 (rowsL l), .rows true 2 [rA0 a0 a1], .rows true 3 [rA1 b0 b1 (.fsl nb 2 rs none)]] [Dec.lift 2, Dec.compact (keepM 148 [0, 15, 16, 17]) [0, 1, 2, 3, 4, 5], Dec.loop (.pan 117) rg' σ'] = .ok (FRes.mk (.pan 117) σ' [(owed Try.prog 5).loop (loopNo Try.f64 0) (rgpA 0) (hppA (rA0 a0 a1) (rA1 b0 b1 (.fsl nb 2 rs none)) l.length (rowsL l)) (.pan 117) rg' σ']) by kernel_rfl) (allP_of ⟨r.trip, trivial⟩)).pan

theorem tAI0_r (u0 u1 : List AVal) (i j : Nat) (hi : i < 5) (hfl : asType Try.prog 20 [List.getD (List.getD flAt i []) 0 .any] = .iface 100 (.ptr 2 2 0 j)) (hj : j + 1 ≤ 2) (s : ByteArray) :
    (∀ x, takeF 100 s = some x → TripN Try.prog 4 (loopNo Try.f60 0) (rgtA (i : Nat)) (hptA u0 u1 s) .normal (rgtA ((i + 1 : Nat) : Int)) (hptA (u0.set j x.1) u1 x.2)) ∧ (takeF 100 s = none → ∃ rg' σ', TripN Try.prog 4 (loopNo Try.f60 0) (rgtA (i : Nat)) (hptA u0 u1 s) (.pan 117) rg' σ') := by
  have w1 : IntKind.wrap .i64 ((i : Int) + 1) = ((i + 1 : Nat) : Int) := by rw [wrapS (by omega) (by omega)]; omega
  have h0 : 0 ≤ tkV s := Int.natCast_nonneg _
  have e : takeF 100 s = (tI 1099511627776 s).map fun x => (.int .i64 x.1, x.2) := rfl
  rw [e]
  unfold tI
  cases ho : tkOk s 1099511627776 with
  | true =>
    refine ⟨fun x hx => ?_, fun h => by cases h⟩
    cases hx
    refine TripN.wp (tAI0_wp u0 u1 i j s ?_)
    unfold tAI0_T
    rw [Int.toNat_natCast, w1]
    exact ⟨decide_eq_true (by omega), decide_eq_true (by omega), decide_eq_true (by omega), hfl, fun _ => ⟨decide_eq_true (by omega), rfl, rfl, rfl⟩, fun c => absurd c (by rw [ho]; simp), .inl ho⟩
  | false =>
    refine ⟨fun x hx => (by cases hx), fun h => TripN.wpE (tAI0_wp u0 u1 i j s ?_)⟩
    unfold tAI0_T
    rw [Int.toNat_natCast, w1]
    exact ⟨decide_eq_true (by omega), decide_eq_true (by omega), decide_eq_true (by omega), hfl, fun c => absurd c (by rw [ho]; simp), fun _ => rfl, .inr ho⟩

theorem tAE1_r (u0 u1 : List AVal) (i j : Nat) (hi : i < 5) (hfl : asType Try.prog 20 [List.getD (List.getD flAt i []) 0 .any] = .iface 102 (.ptr 3 3 0 j)) (hj : j + 1 ≤ 3) (s : ByteArray) :
    (∀ x, takeF 102 s = some x → TripN Try.prog 4 (loopNo Try.f60 0) (rgtA (i : Nat)) (hptA u0 u1 s) .normal (rgtA ((i + 1 : Nat) : Int)) (hptA u0 (u1.set j x.1) x.2)) ∧ (takeF 102 s = none → ∃ rg' σ', TripN Try.prog 4 (loopNo Try.f60 0) (rgtA (i : Nat)) (hptA u0 u1 s) (.pan 117) rg' σ') := by
  have w1 : IntKind.wrap .i64 ((i : Int) + 1) = ((i + 1 : Nat) : Int) := by rw [wrapS (by omega) (by omega)]; omega
  have h0 : 0 ≤ tkV s := Int.natCast_nonneg _
  have e : takeF 102 s = (tI 1099511627776 s).map fun x => (.int .i64 x.1, x.2) := rfl
  rw [e]
  unfold tI
  cases ho : tkOk s 1099511627776 with
  | true =>
    refine ⟨fun x hx => ?_, fun h => by cases h⟩
    cases hx
    refine TripN.wp (tAE1_wp u0 u1 i j s ?_)
    unfold tAE1_T
    rw [Int.toNat_natCast, w1]
    exact ⟨decide_eq_true (by omega), decide_eq_true (by omega), decide_eq_true (by omega), hfl, fun _ => ⟨decide_eq_true (by omega), rfl, rfl, rfl⟩, fun c => absurd c (by rw [ho]; simp), .inl ho⟩
  | false =>
    refine ⟨fun x hx => (by cases hx), fun h => TripN.wpE (tAE1_wp u0 u1 i j s ?_)⟩
    unfold tAE1_T
    rw [Int.toNat_natCast, w1]
    exact ⟨decide_eq_true (by omega), decide_eq_true (by omega), decide_eq_true (by omega), hfl, fun c => absurd c (by rw [ho]; simp), fun _ => rfl, .inr ho⟩

theorem tAI1_r (u0 u1 : List AVal) (i j : Nat) (hi : i < 5) (hfl : asType Try.prog 20 [List.getD (List.getD flAt i []) 0 .any] = .iface 100 (.ptr 3 3 0 j)) (hj : j + 1 ≤ 3) (s : ByteArray) :
    (∀ x, takeF 100 s = some x → TripN Try.prog 4 (loopNo Try.f60 0) (rgtA (i : Nat)) (hptA u0 u1 s) .normal (rgtA ((i + 1 : Nat) : Int)) (hptA u0 (u1.set j x.1) x.2)) ∧ (takeF 100 s = none → ∃ rg' σ', TripN Try.prog 4 (loopNo Try.f60 0) (rgtA (i : Nat)) (hptA u0 u1 s) (.pan 117) rg' σ') := by
  have w1 : IntKind.wrap .i64 ((i : Int) + 1) = ((i + 1 : Nat) : Int) := by rw [wrapS (by omega) (by omega)]; omega
  have h0 : 0 ≤ tkV s := Int.natCast_nonneg _
  have e : takeF 100 s = (tI 1099511627776 s).map fun x => (.int .i64 x.1, x.2) := rfl
  rw [e]
  unfold tI
  cases ho : tkOk s 1099511627776 with
  | true =>
    refine ⟨fun x hx => ?_, fun h => by cases h⟩
    cases hx
    refine TripN.wp (tAI1_wp u0 u1 i j s ?_)
    unfold tAI1_T
    rw [Int.toNat_natCast, w1]
    exact ⟨decide_eq_true (by omega), decide_eq_true (by omega), decide_eq_true (by omega), hfl, fun _ => ⟨decide_eq_true (by omega), rfl, rfl, rfl⟩, fun c => absurd c (by rw [ho]; simp), .inl ho⟩
  | false =>
    refine ⟨fun x hx => (by cases hx), fun h => TripN.wpE (tAI1_wp u0 u1 i j s ?_)⟩
    unfold tAI1_T
    rw [Int.toNat_natCast, w1]
    exact ⟨decide_eq_true (by omega), decide_eq_true (by omega), decide_eq_true (by omega), hfl, fun c => absurd c (by rw [ho]; simp), fun _ => rfl, .inr ho⟩

def gtA (i : Nat) (u : List AVal × List AVal) (s : ByteArray) : Option ((List AVal × List AVal) × ByteArray) := (takeF (FA.getD i (0, 0, 0)).1 s).map fun x => (if (FA.getD i (0, 0, 0)).2.1 = 0 then (u.1.set (FA.getD i (0, 0, 0)).2.2 x.1, u.2) else (u.1, u.2.set (FA.getD i (0, 0, 0)).2.2 x.1), x.2)
def ivA (i : Nat) (u : List AVal × List AVal) : Prop := ∃ (a0 a1 b0 b1 : Int) (v : AVal), u = (rA0 a0 a1, rA1 b0 b1 v) ∧ (i ≤ 4 → v = .fsl true 0 [] (some 0))
theorem takeF_I2 {t : Nat} (ht : t = 100 ∨ t = 102) {s : ByteArray} {x : AVal × ByteArray} (h : takeF t s = some x) : ∃ n, x.1 = .int .i64 n := by
  have h : (tI 1099511627776 s).map (fun x => ((AVal.int .i64 x.1), x.2)) = some x := by rcases ht with rfl | rfl <;> exact h
  rw [Option.map_eq_some_iff] at h
  obtain ⟨y, _, rfl⟩ := h
  exact ⟨_, rfl⟩
theorem tA_round : ∀ i, i < 5 → ∀ (u : List AVal × List AVal) (s : ByteArray), ivA i u → (∀ x, gtA i u s = some x → ivA (i + 1) x.1 ∧ TripN Try.prog 4 (loopNo Try.f60 0) (rgtA (i : Nat)) (hptA u.1 u.2 s) .normal (rgtA ((i + 1 : Nat) : Int)) (hptA x.1.1 x.1.2 x.2)) ∧ (gtA i u s = none → ∃ rg' σ', TripN Try.prog 4 (loopNo Try.f60 0) (rgtA (i : Nat)) (hptA u.1 u.2 s) (.pan 117) rg' σ')
  | 0, hi, u, s, hI => by
    obtain ⟨h1, h2⟩ := tAI0_r u.1 u.2 0 0 hi (by kernel_rfl) (by omega) s
    have e : gtA 0 u s = (takeF 100 s).map fun x => ((u.1.set 0 x.1, u.2), x.2) := rfl
    rw [e]
    cases ht : takeF 100 s with
    | none => exact ⟨fun x hx => (by cases hx), fun _ => h2 ht⟩
    | some x =>
      refine ⟨fun y hy => ?_, fun h => by cases h⟩
      cases hy
      refine ⟨?_, h1 x ht⟩
      obtain ⟨a0, a1, b0, b1, v, rfl, hv⟩ := hI
      obtain ⟨z, hz⟩ := takeF_I2 (.inl rfl) ht
      refine ⟨z, a1, b0, b1, v, ?_, fun h => hv (by omega)⟩
      dsimp only
      rw [hz]; rfl
  | 1, hi, u, s, hI => by
    obtain ⟨h1, h2⟩ := tAI0_r u.1 u.2 1 1 hi (by kernel_rfl) (by omega) s
    have e : gtA 1 u s = (takeF 100 s).map fun x => ((u.1.set 1 x.1, u.2), x.2) := rfl
    rw [e]
    cases ht : takeF 100 s with
    | none => exact ⟨fun x hx => (by cases hx), fun _ => h2 ht⟩
    | some x =>
      refine ⟨fun y hy => ?_, fun h => by cases h⟩
      cases hy
      refine ⟨?_, h1 x ht⟩
      obtain ⟨a0, a1, b0, b1, v, rfl, hv⟩ := hI
      obtain ⟨z, hz⟩ := takeF_I2 (.inl rfl) ht
      refine ⟨a0, z, b0, b1, v, ?_, fun h => hv (by omega)⟩
      dsimp only
      rw [hz]; rfl
  | 2, hi, u, s, hI => by
    obtain ⟨h1, h2⟩ := tAE1_r u.1 u.2 2 0 hi (by kernel_rfl) (by omega) s
    have e : gtA 2 u s = (takeF 102 s).map fun x => ((u.1, u.2.set 0 x.1), x.2) := rfl
    rw [e]
    cases ht : takeF 102 s with
    | none => exact ⟨fun x hx => (by cases hx), fun _ => h2 ht⟩
    | some x =>
      refine ⟨fun y hy => ?_, fun h => by cases h⟩
      cases hy
      refine ⟨?_, h1 x ht⟩
      obtain ⟨a0, a1, b0, b1, v, rfl, hv⟩ := hI
      obtain ⟨z, hz⟩ := takeF_I2 (.inr rfl) ht
      refine ⟨a0, a1, z, b1, v, ?_, fun h => hv (by omega)⟩
      dsimp only
      rw [hz]; rfl
  | 3, hi, u, s, hI => by
    obtain ⟨h1, h2⟩ := tAI1_r u.1 u.2 3 1 hi (by kernel_rfl) (by omega) s
    have e : gtA 3 u s = (takeF 100 s).map fun x => ((u.1, u.2.set 1 x.1), x.2) := rfl
    rw [e]
    cases ht : takeF 100 s with
    | none => exact ⟨fun x hx => (by cases hx), fun _ => h2 ht⟩
    | some x =>
      refine ⟨fun y hy => ?_, fun h => by cases h⟩
      cases hy
      refine ⟨?_, h1 x ht⟩
      obtain ⟨a0, a1, b0, b1, v, rfl, hv⟩ := hI
      obtain ⟨z, hz⟩ := takeF_I2 (.inl rfl) ht
      refine ⟨a0, a1, b0, z, v, ?_, fun h => hv (by omega)⟩
      dsimp only
      rw [hz]; rfl
  | 4, hi, u, s, hI => by
    obtain ⟨a0, a1, b0, b1, v, rfl, hv⟩ := hI
    obtain rfl := hv (by omega)
    obtain ⟨h1, h2⟩ := tAN_r a0 a1 b0 b1 s
    have e : gtA 4 (rA0 a0 a1, rA1 b0 b1 (.fsl true 0 [] (some 0))) s = (tL 112 s).map fun x => ((rA0 a0 a1, rA1 b0 b1 (listV x.1)), x.2) := by
      show Option.map _ ((tL 112 s).map _) = _
      cases tL 112 s <;> rfl
    rw [e]
    cases ht : tL 112 s with
    | none => exact ⟨fun x hx => (by cases hx), fun _ => h2 ht⟩
    | some x => exact ⟨fun y hy => (by cases hy; exact ⟨⟨_, _, _, _, _, rfl, fun h => absurd h (by omega)⟩, h1 x ht⟩), fun h => by cases h⟩
  | n + 5, hi, u, s, _ => absurd hi (by omega)
theorem takesA_ok (u : List AVal × List AVal) (hI : ivA 0 u) (s : ByteArray) (x : (List AVal × List AVal) × ByteArray) (hb : seqG gtA 5 0 u s = some x) :
    FOk Try.prog 60 [.ptr 0 1 0 0, .slc false 1 1 0 5 none] [.rows true 1 [[.str s]], .rows false 1 flAt, .rows true 2 [u.1], .rows true 3 [u.2]] (.tuple []) [.rows true 1 [[.str x.2]], .rows false 1 flAt, .rows true 2 [x.1.1], .rows true 3 [x.1.2]] := by
  have r := (takes_run (c := loopNo Try.f60 0) 5 (fun i => rgtA (i : Nat)) (fun (u : List AVal × List AVal) s => hptA u.1 u.2 s) gtA ivA 0 (fun u s _ => TripN.wp (tAX_wp u.1 u.2 5 s ⟨by kernel_rfl, rfl, rfl, rfl⟩)) tA_round 5 0 (by omega) u s hI).1 x hb
  exact (evalF_ok followed Try.func60 (by kernel_rfl) (show evalF Try.prog Try.f60 [.ptr 0 1 0 0, .slc false 1 1 0 5 none] [.rows true 1 [[.str s]], .rows false 1 flAt, .rows true 2 [u.1], .rows true 3 [u.2]] [Dec.compact (keepM 117 [0, 15, 16, 17]) [0, 1, 2, 3], Dec.loop (.exit 0) (rgtA 5) (hptA x.1.1 x.1.2 x.2)] = .ok (FRes.mk (.tuple []) (hptA x.1.1 x.1.2 x.2) [(owed Try.prog 4).loop (loopNo Try.f60 0) (rgtA 0) (hptA u.1 u.2 s) (.exit 0) (rgtA 5) (hptA x.1.1 x.1.2 x.2)]) by kernel_rfl) (allP_of ⟨r.trip, trivial⟩)).move [0, 1, 2, 3] (by kernel_rfl) (by kernel_rfl) (by kernel_rfl)
end Go.L12
end

section
set_option linter.unusedVariables false
set_option maxRecDepth 100000
namespace Go.L12
open Go Go.Abs Go.Abs.AVal Go.Abs.AObj Go.Proofs

theorem rTA_1 (u0 u1 : List AVal) (k k2 : Nat) (bs bs2 : List (List AVal))
    (h1 : FOk Try.prog 64 [ptr 0 2 0 0, slc false 1 1 0 5 none] [rows false 2 [[ptr 0 2 0 0, slc false 2 1 0 k none]], rows false 1 (flA 3 4), trows 5 true 1 bs, rows true 2 [u0], rows true 3 [u1]] (tuple []) [rows false 2 [[ptr 0 2 0 0, slc false 5 1 0 k2 none]], rows false 1 (flA 3 4), dead, rows true 2 [u0], rows true 3 [u1], trows 5 true 1 bs2]) :
    TripN Try.prog 6 (codeTail (codeTail (bodyOf Try.f53))) (mkR 8 [(0, ptr 0 2 0 0), (1, slc false 1 1 0 5 none), (4, ptr 5 1 0 0)]) ([rows false 2 [[ptr 0 2 0 0, slc false 2 1 0 k none]], rows false 1 (flA 3 4), trows 5 true 1 bs, rows true 2 [u0], rows true 3 [u1], rows true 1 [[iI 0]]]) (AExit.ret) (mkR 8 [(4, ptr 5 1 0 0)]) ([rows false 2 [[ptr 0 2 0 0, slc false 6 1 0 k2 none]], rows false 1 (flA 3 4), dead, rows true 2 [u0], rows true 3 [u1], rows true 1 [[iI 0]], trows 5 true 1 bs2]) :=
  evalT (st := St.mk (mkR 8 [(0, ptr 0 2 0 0), (1, slc false 1 1 0 5 none), (4, ptr 5 1 0 0)]) ([rows false 2 [[ptr 0 2 0 0, slc false 2 1 0 k none]], rows false 1 (flA 3 4), trows 5 true 1 bs, rows true 2 [u0], rows true 3 [u1], rows true 1 [[iI 0]]]) ([Dec.use [0, 1, 2, 3, 4] [ptr 0 2 0 0, slc false 1 1 0 5 none] [rows false 2 [[ptr 0 2 0 0, slc false 2 1 0 k none]], rows false 1 (flA 3 4), trows 5 true 1 bs, rows true 2 [u0], rows true 3 [u1]] (tuple []) [rows false 2 [[ptr 0 2 0 0, slc false 5 1 0 k2 none]], rows false 1 (flA 3 4), dead, rows true 2 [u0], rows true 3 [u1], trows 5 true 1 bs2]]) []) (st' := St.mk (mkR 8 [(0, ptr 0 2 0 0), (1, slc false 1 1 0 5 none), (4, ptr 5 1 0 0), (5, ptr 0 2 0 0), (6, slc false 1 1 0 5 none), (7, tuple [])]) ([rows false 2 [[ptr 0 2 0 0, slc false 6 1 0 k2 none]], rows false 1 (flA 3 4), dead, rows true 2 [u0], rows true 3 [u1], rows true 1 [[iI 0]], trows 5 true 1 bs2]) ([]) (tr 2 ++ ((oU 6 64 [0, 1, 2, 3, 4] [ptr 0 2 0 0, slc false 1 1 0 5 none] [rows false 2 [[ptr 0 2 0 0, slc false 2 1 0 k none]], rows false 1 (flA 3 4), trows 5 true 1 bs, rows true 2 [u0], rows true 3 [u1], rows true 1 [[iI 0]]] [ptr 0 2 0 0, slc false 1 1 0 5 none] [rows false 2 [[ptr 0 2 0 0, slc false 2 1 0 k none]], rows false 1 (flA 3 4), trows 5 true 1 bs, rows true 2 [u0], rows true 3 [u1]] (tuple []) [rows false 2 [[ptr 0 2 0 0, slc false 5 1 0 k2 none]], rows false 1 (flA 3 4), dead, rows true 2 [u0], rows true 3 [u1], trows 5 true 1 bs2]) :: []))) followed (by kernel_rfl) (allP_of (trC 2 ⟨⟨h1, rfl, rfl, rfl⟩, trivial⟩)) (keepM 8 [4]) ([0, 1, 2, 3, 4, 5, 6]) (by kernel_rfl) (by kernel_rfl) (by kernel_rfl)

theorem rTnA_1 (u0 u1 : List AVal) (k : Nat) (bs : List (List AVal))
    (h1 : FOk Try.prog 64 [ptr 0 2 0 0, slc false 1 1 0 5 none] [rows false 2 [[ptr 0 2 0 0, slc false 2 1 0 k none]], rows false 1 (flA 3 4), trows 5 true 1 bs, rows true 2 [u0], rows true 3 [u1]] (pan 117) [dead, dead, dead, dead, dead]) :
    TripN Try.prog 6 (codeTail (codeTail (bodyOf Try.f53))) (mkR 8 [(0, ptr 0 2 0 0), (1, slc false 1 1 0 5 none), (4, ptr 5 1 0 0)]) ([rows false 2 [[ptr 0 2 0 0, slc false 2 1 0 k none]], rows false 1 (flA 3 4), trows 5 true 1 bs, rows true 2 [u0], rows true 3 [u1], rows true 1 [[iI 0]]]) (AExit.pan 117) (mkR 8 [(4, ptr 5 1 0 0)]) ([dead, dead, dead, dead, dead, rows true 1 [[iI 0]]]) :=
  evalT (st := St.mk (mkR 8 [(0, ptr 0 2 0 0), (1, slc false 1 1 0 5 none), (4, ptr 5 1 0 0)]) ([rows false 2 [[ptr 0 2 0 0, slc false 2 1 0 k none]], rows false 1 (flA 3 4), trows 5 true 1 bs, rows true 2 [u0], rows true 3 [u1], rows true 1 [[iI 0]]]) ([Dec.use [0, 1, 2, 3, 4] [ptr 0 2 0 0, slc false 1 1 0 5 none] [rows false 2 [[ptr 0 2 0 0, slc false 2 1 0 k none]], rows false 1 (flA 3 4), trows 5 true 1 bs, rows true 2 [u0], rows true 3 [u1]] (pan 117) [dead, dead, dead, dead, dead]]) []) (st' := St.mk (mkR 8 [(0, ptr 0 2 0 0), (1, slc false 1 1 0 5 none), (4, ptr 5 1 0 0), (5, ptr 0 2 0 0), (6, slc false 1 1 0 5 none)]) ([dead, dead, dead, dead, dead, rows true 1 [[iI 0]]]) ([]) ((oU 6 64 [0, 1, 2, 3, 4] [ptr 0 2 0 0, slc false 1 1 0 5 none] [rows false 2 [[ptr 0 2 0 0, slc false 2 1 0 k none]], rows false 1 (flA 3 4), trows 5 true 1 bs, rows true 2 [u0], rows true 3 [u1], rows true 1 [[iI 0]]] [ptr 0 2 0 0, slc false 1 1 0 5 none] [rows false 2 [[ptr 0 2 0 0, slc false 2 1 0 k none]], rows false 1 (flA 3 4), trows 5 true 1 bs, rows true 2 [u0], rows true 3 [u1]] (pan 117) [dead, dead, dead, dead, dead]) :: [])) followed (by kernel_rfl) (allP_of ⟨⟨h1, rfl, rfl, rfl⟩, trivial⟩) (keepM 8 [4]) ([0, 1, 2, 3, 4, 5]) (by kernel_rfl) (by kernel_rfl) (by kernel_rfl)

theorem rFA_1 (u0 u1 v0 v1 : List AVal) (m s s2 : ByteArray) (b : Bool)
    (h1 : FOk Try.prog 58 [bool (ByteArray.toList s2 == ByteArray.toList (ByteArray.mk #[]))] [] (tuple []) [])
    (h2 : FOk Try.prog 60 [ptr 0 1 0 0, slc false 1 1 0 5 none] [rows true 1 [[str (ByteArray.extract s (Int.toNat (↑(ByteArray.size m) : Int)) (Int.toNat (↑(ByteArray.size s) : Int)))]], rows false 1 (flA 2 3), rows true 2 [u0], rows true 3 [u1]] (tuple []) [rows true 1 [[str s2]], rows false 1 (flA 2 3), rows true 2 [v0], rows true 3 [v1]])
    (h3 : decide (0 ≤ (↑(ByteArray.size m) : Int) ∧ (↑(ByteArray.size m) : Int) ≤ (↑(ByteArray.size s) : Int) ∧ (↑(ByteArray.size s) : Int) ≤ (↑(ByteArray.size s) : Int)) = true)
    (h4 : FOk Try.prog 58 [bool true] [] (tuple []) [])
    (h5 : FOk Try.prog 59 [str s, str m] [] (bool true) []) :
    TripN Try.prog 5 (codeTail (codeTail (bodyOf Try.f40))) (mkR 20 [(1, str m), (2, slc false 0 1 0 5 none), (3, ptr 3 1 0 0), (6, ptr 4 1 0 0)]) ([rows false 1 (flA 1 2), rows true 2 [u0], rows true 3 [u1], rows true 1 [[str s]], rows true 1 [[iI 0]]]) (AExit.ret) (mkR 20 [(6, ptr 4 1 0 0)]) ([rows false 1 (flA 1 2), rows true 2 [v0], rows true 3 [v1], rows true 1 [[str s2]], rows true 1 [[iI 0]]]) :=
  evalT (st := St.mk (mkR 20 [(1, str m), (2, slc false 0 1 0 5 none), (3, ptr 3 1 0 0), (6, ptr 4 1 0 0)]) ([rows false 1 (flA 1 2), rows true 2 [u0], rows true 3 [u1], rows true 1 [[str s]], rows true 1 [[iI 0]]]) ([Dec.use [] [str s, str m] [] (bool true) [], Dec.use [] [bool true] [] (tuple []) [], Dec.use [3, 0, 1, 2] [ptr 0 1 0 0, slc false 1 1 0 5 none] [rows true 1 [[str (ByteArray.extract s (Int.toNat (↑(ByteArray.size m) : Int)) (Int.toNat (↑(ByteArray.size s) : Int)))]], rows false 1 (flA 2 3), rows true 2 [u0], rows true 3 [u1]] (tuple []) [rows true 1 [[str s2]], rows false 1 (flA 2 3), rows true 2 [v0], rows true 3 [v1]], Dec.use [] [bool (ByteArray.toList s2 == ByteArray.toList (ByteArray.mk #[]))] [] (tuple []) []]) []) (st' := St.mk (mkR 20 [(1, str m), (2, slc false 0 1 0 5 none), (3, ptr 3 1 0 0), (6, ptr 4 1 0 0), (7, str s), (8, str m), (9, bool true), (10, tuple []), (11, str s), (12, str m), (13, iI (↑(ByteArray.size m) : Int)), (14, str (ByteArray.extract s (Int.toNat (↑(ByteArray.size m) : Int)) (Int.toNat (↑(ByteArray.size s) : Int)))), (15, slc false 0 1 0 5 none), (16, tuple []), (17, str s2), (18, bool (ByteArray.toList s2 == ByteArray.toList (ByteArray.mk #[]))), (19, tuple [])]) ([rows false 1 (flA 1 2), rows true 2 [v0], rows true 3 [v1], rows true 1 [[str s2]], rows true 1 [[iI 0]]]) ([]) (tr 2 ++ ((oU 5 58 [] [bool (ByteArray.toList s2 == ByteArray.toList (ByteArray.mk #[]))] [rows false 1 (flA 1 2), rows true 2 [v0], rows true 3 [v1], rows true 1 [[str s2]], rows true 1 [[iI 0]]] [bool (ByteArray.toList s2 == ByteArray.toList (ByteArray.mk #[]))] [] (tuple []) []) :: (tr 3 ++ ((oU 5 60 [3, 0, 1, 2] [ptr 3 1 0 0, slc false 0 1 0 5 none] [rows false 1 (flA 1 2), rows true 2 [u0], rows true 3 [u1], rows true 1 [[str (ByteArray.extract s (Int.toNat (↑(ByteArray.size m) : Int)) (Int.toNat (↑(ByteArray.size s) : Int)))]], rows true 1 [[iI 0]]] [ptr 0 1 0 0, slc false 1 1 0 5 none] [rows true 1 [[str (ByteArray.extract s (Int.toNat (↑(ByteArray.size m) : Int)) (Int.toNat (↑(ByteArray.size s) : Int)))]], rows false 1 (flA 2 3), rows true 2 [u0], rows true 3 [u1]] (tuple []) [rows true 1 [[str s2]], rows false 1 (flA 2 3), rows true 2 [v0], rows true 3 [v1]]) :: (tr 2 ++ ((decide (0 ≤ (↑(ByteArray.size m) : Int) ∧ (↑(ByteArray.size m) : Int) ≤ (↑(ByteArray.size s) : Int) ∧ (↑(ByteArray.size s) : Int) ≤ (↑(ByteArray.size s) : Int)) = true) :: (tr 3 ++ ((oU 5 58 [] [bool true] [rows false 1 (flA 1 2), rows true 2 [u0], rows true 3 [u1], rows true 1 [[str s]], rows true 1 [[iI 0]]] [bool true] [] (tuple []) []) :: ((oU 5 59 [] [str s, str m] [rows false 1 (flA 1 2), rows true 2 [u0], rows true 3 [u1], rows true 1 [[str s]], rows true 1 [[iI 0]]] [str s, str m] [] (bool true) []) :: (tr 3 ++ []))))))))))) followed (by kernel_rfl) (allP_of (trC 2 ⟨⟨h1, rfl, rfl, rfl⟩, (trC 3 ⟨⟨h2, rfl, rfl, rfl⟩, (trC 2 ⟨h3, (trC 3 ⟨⟨h4, rfl, rfl, rfl⟩, ⟨⟨h5, rfl, rfl, rfl⟩, (trC 3 trivial)⟩⟩)⟩)⟩)⟩)) (keepM 20 [6]) ([0, 1, 2, 3, 4]) (by kernel_rfl) (by kernel_rfl) (by kernel_rfl)

theorem bTA_1 (u0 u1 : List AVal) (k2 : Nat) (bs2 : List (List AVal)) :
    TripN Try.prog 7 (codeTail (bodyOf Try.f57)) (catchRegs 16 5 1 7 nili) ([rows false 2 [[ptr 0 2 0 0, slc false 6 1 0 k2 none]], rows false 1 (flA 3 4), dead, rows true 2 [u0], rows true 3 [u1], rows true 1 [[iI 0]], trows 5 true 1 bs2]) (AExit.normal) (mkR 16 []) ([rows false 2 [[ptr 0 2 0 0, slc false 6 1 0 k2 none]], rows false 1 (flA 3 4), dead, rows true 2 [u0], rows true 3 [u1], rows true 1 [[iI 0]], trows 5 true 1 bs2]) :=
  evalT (st := St.mk (catchRegs 16 5 1 7 nili) ([rows false 2 [[ptr 0 2 0 0, slc false 6 1 0 k2 none]], rows false 1 (flA 3 4), dead, rows true 2 [u0], rows true 3 [u1], rows true 1 [[iI 0]], trows 5 true 1 bs2]) ([Dec.br true]) []) (st' := St.mk (mkR 16 [(0, ptr 5 1 0 0), (1, iI 1), (2, tuple []), (3, tuple []), (4, nili), (5, tuple []), (6, tuple []), (7, nili), (8, tuple []), (9, tt true), (10, tuple []), (11, tuple []), (12, tuple []), (13, tuple []), (14, tuple []), (15, tuple [])]) ([rows false 2 [[ptr 0 2 0 0, slc false 6 1 0 k2 none]], rows false 1 (flA 3 4), dead, rows true 2 [u0], rows true 3 [u1], rows true 1 [[iI 0]], trows 5 true 1 bs2]) ([]) (tr 1 ++ [])) followed (by kernel_rfl) (allP_of (trC 1 trivial)) (keepM 16 []) ([0, 1, 2, 3, 4, 5, 6]) (by kernel_rfl) (by kernel_rfl) (by kernel_rfl)

theorem bTnA_1 (x : Nat) :
    TripN Try.prog 6 (codeTail (bodyOf Try.f57)) (catchRegs 16 5 1 7 (iface 117 (agg []))) ([dead, dead, dead, dead, dead, rows true 1 [[iI 0]]]) (AExit.normal) (mkR 16 []) ([dead, dead, dead, dead, dead, rows true 1 [[iI 1]]]) :=
  evalT (st := St.mk (catchRegs 16 5 1 7 (iface 117 (agg []))) ([dead, dead, dead, dead, dead, rows true 1 [[iI 0]]]) ([Dec.br false]) []) (st' := St.mk (mkR 16 [(0, ptr 5 1 0 0), (1, iI 1), (2, tuple []), (3, tuple []), (4, tuple []), (5, ptr 6 0 0 0), (6, tuple []), (7, iface 117 (agg [])), (8, tuple []), (9, tt false), (10, tuple [agg [], tt true]), (11, tt true), (12, agg []), (13, ptr 5 1 0 0), (14, iI 1), (15, ptr 5 1 0 0)]) ([dead, dead, dead, dead, dead, rows true 1 [[iI 1]], rows true 0 [[]]]) ([]) (tr 4 ++ ((false = false) :: []))) followed (by kernel_rfl) (allP_of (trC 4 ⟨rfl, trivial⟩)) (keepM 16 []) ([0, 1, 2, 3, 4, 5]) (by kernel_rfl) (by kernel_rfl) (by kernel_rfl)

theorem bFA_1 (v0 v1 : List AVal) (s2 : ByteArray) :
    TripN Try.prog 5 (codeTail (bodyOf Try.f57)) (catchRegs 16 4 140 7 nili) ([rows false 1 (flA 1 2), rows true 2 [v0], rows true 3 [v1], rows true 1 [[str s2]], rows true 1 [[iI 0]]]) (AExit.normal) (mkR 16 []) ([rows false 1 (flA 1 2), rows true 2 [v0], rows true 3 [v1], rows true 1 [[str s2]], rows true 1 [[iI 0]]]) :=
  evalT (st := St.mk (catchRegs 16 4 140 7 nili) ([rows false 1 (flA 1 2), rows true 2 [v0], rows true 3 [v1], rows true 1 [[str s2]], rows true 1 [[iI 0]]]) ([Dec.br true]) []) (st' := St.mk (mkR 16 [(0, ptr 4 1 0 0), (1, iI 140), (2, tuple []), (3, tuple []), (4, nili), (5, tuple []), (6, tuple []), (7, nili), (8, tuple []), (9, tt true), (10, tuple []), (11, tuple []), (12, tuple []), (13, tuple []), (14, tuple []), (15, tuple [])]) ([rows false 1 (flA 1 2), rows true 2 [v0], rows true 3 [v1], rows true 1 [[str s2]], rows true 1 [[iI 0]]]) ([]) (tr 1 ++ [])) followed (by kernel_rfl) (allP_of (trC 1 trivial)) (keepM 16 []) ([0, 1, 2, 3, 4]) (by kernel_rfl) (by kernel_rfl) (by kernel_rfl)

theorem hTA_1 (u0 u1 : List AVal) (k : Nat) (bs : List (List AVal)) :
    TripN Try.prog 5 (codeHd (bodyOf Try.f53)) ([ptr 0 2 0 0, slc false 1 1 0 5 none] ++ List.replicate (8 - 2) aundef) ([rows false 2 [[ptr 0 2 0 0, slc false 2 1 0 k none]], rows false 1 (flA 3 4), trows 5 true 1 bs, rows true 2 [u0], rows true 3 [u1]]) (AExit.normal) (mkR 8 [(0, ptr 0 2 0 0), (1, slc false 1 1 0 5 none), (4, ptr 5 1 0 0)]) ([rows false 2 [[ptr 0 2 0 0, slc false 2 1 0 k none]], rows false 1 (flA 3 4), trows 5 true 1 bs, rows true 2 [u0], rows true 3 [u1], rows true 1 [[iI 0]]]) :=
  evalT (st := St.mk ([ptr 0 2 0 0, slc false 1 1 0 5 none] ++ List.replicate (8 - 2) aundef) ([rows false 2 [[ptr 0 2 0 0, slc false 2 1 0 k none]], rows false 1 (flA 3 4), trows 5 true 1 bs, rows true 2 [u0], rows true 3 [u1]]) ([]) []) (st' := St.mk (mkR 8 [(0, ptr 0 2 0 0), (1, slc false 1 1 0 5 none), (2, tuple []), (3, tuple []), (4, ptr 5 1 0 0), (5, tuple []), (6, tuple []), (7, tuple [])]) ([rows false 2 [[ptr 0 2 0 0, slc false 2 1 0 k none]], rows false 1 (flA 3 4), trows 5 true 1 bs, rows true 2 [u0], rows true 3 [u1], rows true 1 [[iI 0]]]) ([]) []) followed (by kernel_rfl) (allP_of trivial) (keepM 8 [0, 1, 4]) ([0, 1, 2, 3, 4, 5]) (by kernel_rfl) (by kernel_rfl) (by kernel_rfl)

theorem hFA_1 (u0 u1 : List AVal) (s m : ByteArray) :
    TripN Try.prog 3 (codeHd (bodyOf Try.f40)) ([str s, str m, slc false 0 1 0 5 none] ++ List.replicate (20 - 3) aundef) ([rows false 1 (flA 1 2), rows true 2 [u0], rows true 3 [u1]]) (AExit.normal) (mkR 20 [(1, str m), (2, slc false 0 1 0 5 none), (3, ptr 3 1 0 0), (6, ptr 4 1 0 0)]) ([rows false 1 (flA 1 2), rows true 2 [u0], rows true 3 [u1], rows true 1 [[str s]], rows true 1 [[iI 0]]]) :=
  evalT (st := St.mk ([str s, str m, slc false 0 1 0 5 none] ++ List.replicate (20 - 3) aundef) ([rows false 1 (flA 1 2), rows true 2 [u0], rows true 3 [u1]]) ([]) []) (st' := St.mk (mkR 20 [(0, str s), (1, str m), (2, slc false 0 1 0 5 none), (3, ptr 3 1 0 0), (4, tuple []), (5, tuple []), (6, ptr 4 1 0 0), (7, tuple []), (8, tuple []), (9, tuple []), (10, tuple []), (11, tuple []), (12, tuple []), (13, tuple []), (14, tuple []), (15, tuple []), (16, tuple []), (17, tuple []), (18, tuple []), (19, tuple [])]) ([rows false 1 (flA 1 2), rows true 2 [u0], rows true 3 [u1], rows true 1 [[str s]], rows true 1 [[iI 0]]]) ([]) []) followed (by kernel_rfl) (allP_of trivial) (keepM 20 [1, 2, 3, 6]) ([0, 1, 2, 3, 4]) (by kernel_rfl) (by kernel_rfl) (by kernel_rfl)

end Go.L12
end

section
set_option linter.unusedVariables false
set_option maxRecDepth 100000
namespace Go.L12.D
open Go Go.Abs Go.Proofs Go.L12
variable [DS]

theorem rTA_1 (u0 u1 : List AVal) (k k2 : Nat) (bs bs2 : List (List AVal))
    (h1 : FOk Try.prog 64 [AVal.ptr 0 2 0 0, AVal.slc false 1 1 0 5 none] [AObj.rows false 2 [[AVal.ptr 0 2 0 0, AVal.slc false 2 1 0 k none]], AObj.rows false 1 (flA 3 4), AObj.trows 5 true 1 bs, AObj.rows true 2 [u0], AObj.rows true 3 [u1]] (AVal.tuple []) [AObj.rows false 2 [[AVal.ptr 0 2 0 0, AVal.slc false 5 1 0 k2 none]], AObj.rows false 1 (flA 3 4), AObj.dead, AObj.rows true 2 [u0], AObj.rows true 3 [u1], AObj.trows 5 true 1 bs2]) :
    TripN Try.prog 6 (codeTail (codeTail (bodyOf Try.f53))) (mkR 8 [(0, AVal.ptr 0 2 0 0), (1, AVal.slc false 1 1 0 5 none), (4, AVal.ptr 5 1 0 0)]) ([AObj.rows false 2 [[AVal.ptr 0 2 0 0, AVal.slc false 2 1 0 k none]], AObj.rows false 1 (flA 3 4), AObj.trows 5 true 1 bs, AObj.rows true 2 [u0], AObj.rows true 3 [u1], AObj.rows true 1 [[AVal.int IntKind.i64 0]]]) (AExit.ret) (mkR 8 [(4, AVal.ptr 5 1 0 0)]) ([AObj.rows false 2 [[AVal.ptr 0 2 0 0, AVal.slc false 6 1 0 k2 none]], AObj.rows false 1 (flA 3 4), AObj.dead, AObj.rows true 2 [u0], AObj.rows true 3 [u1], AObj.rows true 1 [[AVal.int IntKind.i64 0]], AObj.trows 5 true 1 bs2]) :=
  evalT (st := St.mk (mkR 8 [(0, AVal.ptr 0 2 0 0), (1, AVal.slc false 1 1 0 5 none), (4, AVal.ptr 5 1 0 0)]) ([AObj.rows false 2 [[AVal.ptr 0 2 0 0, AVal.slc false 2 1 0 k none]], AObj.rows false 1 (flA 3 4), AObj.trows 5 true 1 bs, AObj.rows true 2 [u0], AObj.rows true 3 [u1], AObj.rows true 1 [[AVal.int IntKind.i64 0]]]) ([Dec.use [0, 1, 2, 3, 4] [AVal.ptr 0 2 0 0, AVal.slc false 1 1 0 5 none] [AObj.rows false 2 [[AVal.ptr 0 2 0 0, AVal.slc false 2 1 0 k none]], AObj.rows false 1 (flA 3 4), AObj.trows 5 true 1 bs, AObj.rows true 2 [u0], AObj.rows true 3 [u1]] (AVal.tuple []) [AObj.rows false 2 [[AVal.ptr 0 2 0 0, AVal.slc false 5 1 0 k2 none]], AObj.rows false 1 (flA 3 4), AObj.dead, AObj.rows true 2 [u0], AObj.rows true 3 [u1], AObj.trows 5 true 1 bs2]]) []) (st' := St.mk (mkR 8 [(0, AVal.ptr 0 2 0 0), (1, AVal.slc false 1 1 0 5 none), (4, AVal.ptr 5 1 0 0), (5, AVal.ptr 0 2 0 0), (6, AVal.slc false 1 1 0 5 none), (7, AVal.tuple [])]) ([AObj.rows false 2 [[AVal.ptr 0 2 0 0, AVal.slc false 6 1 0 k2 none]], AObj.rows false 1 (flA 3 4), AObj.dead, AObj.rows true 2 [u0], AObj.rows true 3 [u1], AObj.rows true 1 [[AVal.int IntKind.i64 0]], AObj.trows 5 true 1 bs2]) ([]) (tr 2 ++ ((Owed.use (owed Try.prog 6) 64 [0, 1, 2, 3, 4] [AVal.ptr 0 2 0 0, AVal.slc false 1 1 0 5 none] [AObj.rows false 2 [[AVal.ptr 0 2 0 0, AVal.slc false 2 1 0 k none]], AObj.rows false 1 (flA 3 4), AObj.trows 5 true 1 bs, AObj.rows true 2 [u0], AObj.rows true 3 [u1], AObj.rows true 1 [[AVal.int IntKind.i64 0]]] [AVal.ptr 0 2 0 0, AVal.slc false 1 1 0 5 none] [AObj.rows false 2 [[AVal.ptr 0 2 0 0, AVal.slc false 2 1 0 k none]], AObj.rows false 1 (flA 3 4), AObj.trows 5 true 1 bs, AObj.rows true 2 [u0], AObj.rows true 3 [u1]] (AVal.tuple []) [AObj.rows false 2 [[AVal.ptr 0 2 0 0, AVal.slc false 5 1 0 k2 none]], AObj.rows false 1 (flA 3 4), AObj.dead, AObj.rows true 2 [u0], AObj.rows true 3 [u1], AObj.trows 5 true 1 bs2]) :: []))) followed (by kernel_rfl) (allP_of (trC 2 ⟨⟨h1, rfl, rfl, rfl⟩, trivial⟩)) (keepM 8 [4]) ([0, 1, 2, 3, 4, 5, 6]) (by kernel_rfl) (by kernel_rfl) (by kernel_rfl)

theorem rTnA_1 (u0 u1 : List AVal) (k : Nat) (bs : List (List AVal))
    (h1 : FOk Try.prog 64 [AVal.ptr 0 2 0 0, AVal.slc false 1 1 0 5 none] [AObj.rows false 2 [[AVal.ptr 0 2 0 0, AVal.slc false 2 1 0 k none]], AObj.rows false 1 (flA 3 4), AObj.trows 5 true 1 bs, AObj.rows true 2 [u0], AObj.rows true 3 [u1]] (AVal.pan 117) [AObj.dead, AObj.dead, AObj.dead, AObj.dead, AObj.dead]) :
    TripN Try.prog 6 (codeTail (codeTail (bodyOf Try.f53))) (mkR 8 [(0, AVal.ptr 0 2 0 0), (1, AVal.slc false 1 1 0 5 none), (4, AVal.ptr 5 1 0 0)]) ([AObj.rows false 2 [[AVal.ptr 0 2 0 0, AVal.slc false 2 1 0 k none]], AObj.rows false 1 (flA 3 4), AObj.trows 5 true 1 bs, AObj.rows true 2 [u0], AObj.rows true 3 [u1], AObj.rows true 1 [[AVal.int IntKind.i64 0]]]) (AExit.pan 117) (mkR 8 [(4, AVal.ptr 5 1 0 0)]) ([AObj.dead, AObj.dead, AObj.dead, AObj.dead, AObj.dead, AObj.rows true 1 [[AVal.int IntKind.i64 0]]]) :=
  evalT (st := St.mk (mkR 8 [(0, AVal.ptr 0 2 0 0), (1, AVal.slc false 1 1 0 5 none), (4, AVal.ptr 5 1 0 0)]) ([AObj.rows false 2 [[AVal.ptr 0 2 0 0, AVal.slc false 2 1 0 k none]], AObj.rows false 1 (flA 3 4), AObj.trows 5 true 1 bs, AObj.rows true 2 [u0], AObj.rows true 3 [u1], AObj.rows true 1 [[AVal.int IntKind.i64 0]]]) ([Dec.use [0, 1, 2, 3, 4] [AVal.ptr 0 2 0 0, AVal.slc false 1 1 0 5 none] [AObj.rows false 2 [[AVal.ptr 0 2 0 0, AVal.slc false 2 1 0 k none]], AObj.rows false 1 (flA 3 4), AObj.trows 5 true 1 bs, AObj.rows true 2 [u0], AObj.rows true 3 [u1]] (AVal.pan 117) [AObj.dead, AObj.dead, AObj.dead, AObj.dead, AObj.dead]]) []) (st' := St.mk (mkR 8 [(0, AVal.ptr 0 2 0 0), (1, AVal.slc false 1 1 0 5 none), (4, AVal.ptr 5 1 0 0), (5, AVal.ptr 0 2 0 0), (6, AVal.slc false 1 1 0 5 none)]) ([AObj.dead, AObj.dead, AObj.dead, AObj.dead, AObj.dead, AObj.rows true 1 [[AVal.int IntKind.i64 0]]]) ([]) ((Owed.use (owed Try.prog 6) 64 [0, 1, 2, 3, 4] [AVal.ptr 0 2 0 0, AVal.slc false 1 1 0 5 none] [AObj.rows false 2 [[AVal.ptr 0 2 0 0, AVal.slc false 2 1 0 k none]], AObj.rows false 1 (flA 3 4), AObj.trows 5 true 1 bs, AObj.rows true 2 [u0], AObj.rows true 3 [u1], AObj.rows true 1 [[AVal.int IntKind.i64 0]]] [AVal.ptr 0 2 0 0, AVal.slc false 1 1 0 5 none] [AObj.rows false 2 [[AVal.ptr 0 2 0 0, AVal.slc false 2 1 0 k none]], AObj.rows false 1 (flA 3 4), AObj.trows 5 true 1 bs, AObj.rows true 2 [u0], AObj.rows true 3 [u1]] (AVal.pan 117) [AObj.dead, AObj.dead, AObj.dead, AObj.dead, AObj.dead]) :: [])) followed (by kernel_rfl) (allP_of ⟨⟨h1, rfl, rfl, rfl⟩, trivial⟩) (keepM 8 [4]) ([0, 1, 2, 3, 4, 5]) (by kernel_rfl) (by kernel_rfl) (by kernel_rfl)

theorem rFA_1 (u0 u1 v0 v1 : List AVal) (m s s2 : ByteArray) (b : Bool)
    (h1 : FOk Try.prog 58 [AVal.bool (ByteArray.toList s2 == ByteArray.toList (ByteArray.mk #[]))] [] (AVal.tuple []) [])
    (h2 : FOk Try.prog 60 [AVal.ptr 0 1 0 0, AVal.slc false 1 1 0 5 none] [AObj.rows true 1 [[AVal.str (ByteArray.extract s (Int.toNat (↑(ByteArray.size m) : Int)) (Int.toNat (↑(ByteArray.size s) : Int)))]], AObj.rows false 1 (flA 2 3), AObj.rows true 2 [u0], AObj.rows true 3 [u1]] (AVal.tuple []) [AObj.rows true 1 [[AVal.str s2]], AObj.rows false 1 (flA 2 3), AObj.rows true 2 [v0], AObj.rows true 3 [v1]])
    (h3 : decide (0 ≤ (↑(ByteArray.size m) : Int) ∧ (↑(ByteArray.size m) : Int) ≤ (↑(ByteArray.size s) : Int) ∧ (↑(ByteArray.size s) : Int) ≤ (↑(ByteArray.size s) : Int)) = true)
    (h4 : FOk Try.prog 58 [AVal.bool true] [] (AVal.tuple []) [])
    (h5 : FOk Try.prog 59 [AVal.str s, AVal.str m] [] (AVal.bool true) []) :
    TripN Try.prog 5 (codeTail (codeTail (bodyOf Try.f40))) (mkR 20 [(1, AVal.str m), (2, AVal.slc false 0 1 0 5 none), (3, AVal.ptr 3 1 0 0), (6, AVal.ptr 4 1 0 0)]) ([AObj.rows false 1 (flA 1 2), AObj.rows true 2 [u0], AObj.rows true 3 [u1], AObj.rows true 1 [[AVal.str s]], AObj.rows true 1 [[AVal.int IntKind.i64 0]]]) (AExit.ret) (mkR 20 [(6, AVal.ptr 4 1 0 0)]) ([AObj.rows false 1 (flA 1 2), AObj.rows true 2 [v0], AObj.rows true 3 [v1], AObj.rows true 1 [[AVal.str s2]], AObj.rows true 1 [[AVal.int IntKind.i64 0]]]) :=
  evalT (st := St.mk (mkR 20 [(1, AVal.str m), (2, AVal.slc false 0 1 0 5 none), (3, AVal.ptr 3 1 0 0), (6, AVal.ptr 4 1 0 0)]) ([AObj.rows false 1 (flA 1 2), AObj.rows true 2 [u0], AObj.rows true 3 [u1], AObj.rows true 1 [[AVal.str s]], AObj.rows true 1 [[AVal.int IntKind.i64 0]]]) ([Dec.use [] [AVal.str s, AVal.str m] [] (AVal.bool true) [], Dec.use [] [AVal.bool true] [] (AVal.tuple []) [], Dec.use [3, 0, 1, 2] [AVal.ptr 0 1 0 0, AVal.slc false 1 1 0 5 none] [AObj.rows true 1 [[AVal.str (ByteArray.extract s (Int.toNat (↑(ByteArray.size m) : Int)) (Int.toNat (↑(ByteArray.size s) : Int)))]], AObj.rows false 1 (flA 2 3), AObj.rows true 2 [u0], AObj.rows true 3 [u1]] (AVal.tuple []) [AObj.rows true 1 [[AVal.str s2]], AObj.rows false 1 (flA 2 3), AObj.rows true 2 [v0], AObj.rows true 3 [v1]], Dec.use [] [AVal.bool (ByteArray.toList s2 == ByteArray.toList (ByteArray.mk #[]))] [] (AVal.tuple []) []]) []) (st' := St.mk (mkR 20 [(1, AVal.str m), (2, AVal.slc false 0 1 0 5 none), (3, AVal.ptr 3 1 0 0), (6, AVal.ptr 4 1 0 0), (7, AVal.str s), (8, AVal.str m), (9, AVal.bool true), (10, AVal.tuple []), (11, AVal.str s), (12, AVal.str m), (13, AVal.int IntKind.i64 (↑(ByteArray.size m) : Int)), (14, AVal.str (ByteArray.extract s (Int.toNat (↑(ByteArray.size m) : Int)) (Int.toNat (↑(ByteArray.size s) : Int)))), (15, AVal.slc false 0 1 0 5 none), (16, AVal.tuple []), (17, AVal.str s2), (18, AVal.bool (ByteArray.toList s2 == ByteArray.toList (ByteArray.mk #[]))), (19, AVal.tuple [])]) ([AObj.rows false 1 (flA 1 2), AObj.rows true 2 [v0], AObj.rows true 3 [v1], AObj.rows true 1 [[AVal.str s2]], AObj.rows true 1 [[AVal.int IntKind.i64 0]]]) ([]) (tr 2 ++ ((Owed.use (owed Try.prog 5) 58 [] [AVal.bool (ByteArray.toList s2 == ByteArray.toList (ByteArray.mk #[]))] [AObj.rows false 1 (flA 1 2), AObj.rows true 2 [v0], AObj.rows true 3 [v1], AObj.rows true 1 [[AVal.str s2]], AObj.rows true 1 [[AVal.int IntKind.i64 0]]] [AVal.bool (ByteArray.toList s2 == ByteArray.toList (ByteArray.mk #[]))] [] (AVal.tuple []) []) :: (tr 3 ++ ((Owed.use (owed Try.prog 5) 60 [3, 0, 1, 2] [AVal.ptr 3 1 0 0, AVal.slc false 0 1 0 5 none] [AObj.rows false 1 (flA 1 2), AObj.rows true 2 [u0], AObj.rows true 3 [u1], AObj.rows true 1 [[AVal.str (ByteArray.extract s (Int.toNat (↑(ByteArray.size m) : Int)) (Int.toNat (↑(ByteArray.size s) : Int)))]], AObj.rows true 1 [[AVal.int IntKind.i64 0]]] [AVal.ptr 0 1 0 0, AVal.slc false 1 1 0 5 none] [AObj.rows true 1 [[AVal.str (ByteArray.extract s (Int.toNat (↑(ByteArray.size m) : Int)) (Int.toNat (↑(ByteArray.size s) : Int)))]], AObj.rows false 1 (flA 2 3), AObj.rows true 2 [u0], AObj.rows true 3 [u1]] (AVal.tuple []) [AObj.rows true 1 [[AVal.str s2]], AObj.rows false 1 (flA 2 3), AObj.rows true 2 [v0], AObj.rows true 3 [v1]]) :: (tr 2 ++ ((decide (0 ≤ (↑(ByteArray.size m) : Int) ∧ (↑(ByteArray.size m) : Int) ≤ (↑(ByteArray.size s) : Int) ∧ (↑(ByteArray.size s) : Int) ≤ (↑(ByteArray.size s) : Int)) = true) :: (tr 3 ++ ((Owed.use (owed Try.prog 5) 58 [] [AVal.bool true] [AObj.rows false 1 (flA 1 2), AObj.rows true 2 [u0], AObj.rows true 3 [u1], AObj.rows true 1 [[AVal.str s]], AObj.rows true 1 [[AVal.int IntKind.i64 0]]] [AVal.bool true] [] (AVal.tuple []) []) :: ((Owed.use (owed Try.prog 5) 59 [] [AVal.str s, AVal.str m] [AObj.rows false 1 (flA 1 2), AObj.rows true 2 [u0], AObj.rows true 3 [u1], AObj.rows true 1 [[AVal.str s]], AObj.rows true 1 [[AVal.int IntKind.i64 0]]] [AVal.str s, AVal.str m] [] (AVal.bool true) []) :: (tr 3 ++ []))))))))))) followed (by kernel_rfl) (allP_of (trC 2 ⟨⟨h1, rfl, rfl, rfl⟩, (trC 3 ⟨⟨h2, rfl, rfl, rfl⟩, (trC 2 ⟨h3, (trC 3 ⟨⟨h4, rfl, rfl, rfl⟩, ⟨⟨h5, rfl, rfl, rfl⟩, (trC 3 trivial)⟩⟩)⟩)⟩)⟩)) (keepM 20 [6]) ([0, 1, 2, 3, 4]) (by kernel_rfl) (by kernel_rfl) (by kernel_rfl)

end Go.L12.D
end

section
set_option linter.unusedVariables false
set_option linter.unusedSimpArgs false
set_option maxRecDepth 100000
namespace Go.L12
open Go Go.Abs Go.Proofs

theorem triedA_ok (u0 u1 : List AVal) (k k2 : Nat) (bs bs2 : List (List AVal)) (h : FOk Try.prog 64 [.ptr 0 2 0 0, .slc false 1 1 0 5 none] [.rows false 2 [[.ptr 0 2 0 0, .slc false 2 1 0 k none]], .rows false 1 (flA 3 4), .trows 5 true 1 bs, .rows true 2 [u0], .rows true 3 [u1]] (.tuple []) [.rows false 2 [[.ptr 0 2 0 0, .slc false 5 1 0 k2 none]], .rows false 1 (flA 3 4), .dead, .rows true 2 [u0], .rows true 3 [u1], .trows 5 true 1 bs2]) :
    FOk Try.prog 53 [.ptr 0 2 0 0, .slc false 1 1 0 5 none] [.rows false 2 [[.ptr 0 2 0 0, .slc false 2 1 0 k none]], .rows false 1 (flA 3 4), .trows 5 true 1 bs, .rows true 2 [u0], .rows true 3 [u1]] (.int .i64 0) [.rows false 2 [[.ptr 0 2 0 0, .slc false 5 1 0 k2 none]], .rows false 1 (flA 3 4), .dead, .rows true 2 [u0], .rows true 3 [u1], .trows 5 true 1 bs2] :=
  (defer_calls (P := Try.prog) (f := 53) (fn := Try.f53) (c0 := .seq (codeHd (bodyOf Try.f53)) (.seq (.region 1 #[firstOp (codeTail (bodyOf Try.f53))] false) (codeTail (codeTail (bodyOf Try.f53))))) (rest := codeTail (codeTail (bodyOf Try.f53))) (blk := codeTail (bodyOf Try.f57)) (dop := firstOp (codeTail (bodyOf Try.f53))) (rop := firstOp (bodyOf Try.f57)) (gn := Try.f57) (g := 57) (no := 1) (k := 4) (kk := 7) (id := 5) (rid := 1) (rid2 := 0) (ts := #[102, 26]) (tsr := #[]) (xs := [.ptr 0 2 0 0, .slc false 1 1 0 5 none]) (σ := [.rows false 2 [[.ptr 0 2 0 0, .slc false 2 1 0 k none]], .rows false 1 (flA 3 4), .trows 5 true 1 bs, .rows true 2 [u0], .rows true 3 [u1]]) (σ1 := [.rows false 2 [[.ptr 0 2 0 0, .slc false 2 1 0 k none]], .rows false 1 (flA 3 4), .trows 5 true 1 bs, .rows true 2 [u0], .rows true 3 [u1], .rows true 1 [[.int .i64 0]]]) (y := ([.int .i64 0], tr 3 ++ []))
    rfl Try.func53 (by kernel_rfl) (by kernel_rfl) (by kernel_rfl) (by kernel_rfl) (by kernel_rfl) Try.func57 (by kernel_rfl) (by kernel_rfl) (by kernel_rfl) (by kernel_rfl) (by kernel_rfl) (by kernel_rfl)
    (Pre.one (hTA_1 u0 u1 k bs)) (fun ds => @D.rTA_1 ⟨ds⟩ u0 u1 k k2 bs bs2 h) (by kernel_rfl) (.inl ⟨rfl, rfl⟩) (bTA_1 u0 u1 k2 bs2) (by kernel_rfl) tr3).move [0, 1, 2, 3, 4, 6] (by kernel_rfl) (by kernel_rfl) (by kernel_rfl)
theorem triedA_no (u0 u1 : List AVal) (k : Nat) (bs : List (List AVal)) (h : FOk Try.prog 64 [.ptr 0 2 0 0, .slc false 1 1 0 5 none] [.rows false 2 [[.ptr 0 2 0 0, .slc false 2 1 0 k none]], .rows false 1 (flA 3 4), .trows 5 true 1 bs, .rows true 2 [u0], .rows true 3 [u1]] (.pan 117) [.dead, .dead, .dead, .dead, .dead]) :
    FOk Try.prog 53 [.ptr 0 2 0 0, .slc false 1 1 0 5 none] [.rows false 2 [[.ptr 0 2 0 0, .slc false 2 1 0 k none]], .rows false 1 (flA 3 4), .trows 5 true 1 bs, .rows true 2 [u0], .rows true 3 [u1]] (.int .i64 1) [.dead, .dead, .dead, .dead, .dead] :=
  (defer_calls (P := Try.prog) (f := 53) (fn := Try.f53) (c0 := .seq (codeHd (bodyOf Try.f53)) (.seq (.region 1 #[firstOp (codeTail (bodyOf Try.f53))] false) (codeTail (codeTail (bodyOf Try.f53))))) (rest := codeTail (codeTail (bodyOf Try.f53))) (blk := codeTail (bodyOf Try.f57)) (dop := firstOp (codeTail (bodyOf Try.f53))) (rop := firstOp (bodyOf Try.f57)) (gn := Try.f57) (g := 57) (no := 1) (k := 4) (kk := 7) (id := 5) (rid := 1) (rid2 := 0) (ts := #[102, 26]) (tsr := #[]) (xs := [.ptr 0 2 0 0, .slc false 1 1 0 5 none]) (σ := [.rows false 2 [[.ptr 0 2 0 0, .slc false 2 1 0 k none]], .rows false 1 (flA 3 4), .trows 5 true 1 bs, .rows true 2 [u0], .rows true 3 [u1]]) (σ1 := [.rows false 2 [[.ptr 0 2 0 0, .slc false 2 1 0 k none]], .rows false 1 (flA 3 4), .trows 5 true 1 bs, .rows true 2 [u0], .rows true 3 [u1], .rows true 1 [[.int .i64 0]]]) (y := ([.int .i64 1], tr 3 ++ []))
    rfl Try.func53 (by kernel_rfl) (by kernel_rfl) (by kernel_rfl) (by kernel_rfl) (by kernel_rfl) Try.func57 (by kernel_rfl) (by kernel_rfl) (by kernel_rfl) (by kernel_rfl) (by kernel_rfl) (by kernel_rfl)
    (Pre.one (hTA_1 u0 u1 k bs)) (fun ds => @D.rTnA_1 ⟨ds⟩ u0 u1 k bs h) (by kernel_rfl) (.inr ⟨117, rfl, rfl⟩) (bTnA_1 0) (by kernel_rfl) tr3).move [0, 1, 2, 3, 4] (by kernel_rfl) (by kernel_rfl) (by kernel_rfl)
theorem fromA_ok (u0 u1 v0 v1 : List AVal) (s m : ByteArray) (hp : (lB m <+: lB s)) (h : FOk Try.prog 60 [.ptr 0 1 0 0, .slc false 1 1 0 5 none] [.rows true 1 [[.str (s.extract m.size s.size)]], .rows false 1 (flA 2 3), .rows true 2 [u0], .rows true 3 [u1]] (.tuple []) [.rows true 1 [[.str ⟨#[]⟩]], .rows false 1 (flA 2 3), .rows true 2 [v0], .rows true 3 [v1]]) :
    FOk Try.prog 40 [.str s, .str m, .slc false 0 1 0 5 none] [.rows false 1 (flA 1 2), .rows true 2 [u0], .rows true 3 [u1]] (.int .i64 0) [.rows false 1 (flA 1 2), .rows true 2 [v0], .rows true 3 [v1]] :=
  have hl := hp.length_le
  have hl : m.size ≤ s.size := by rw [lB_length, lB_length] at hl; exact hl
  (defer_calls (P := Try.prog) (f := 40) (fn := Try.f40) (c0 := .seq (codeHd (bodyOf Try.f40)) (.seq (.region 1 #[firstOp (codeTail (bodyOf Try.f40))] false) (codeTail (codeTail (bodyOf Try.f40))))) (rest := codeTail (codeTail (bodyOf Try.f40))) (blk := codeTail (bodyOf Try.f57)) (dop := firstOp (codeTail (bodyOf Try.f40))) (rop := firstOp (bodyOf Try.f57)) (gn := Try.f57) (g := 57) (no := 140) (k := 6) (kk := 7) (id := 4) (rid := 1) (rid2 := 0) (ts := #[102, 26]) (tsr := #[]) (xs := [.str s, .str m, .slc false 0 1 0 5 none]) (σ := [.rows false 1 (flA 1 2), .rows true 2 [u0], .rows true 3 [u1]]) (σ1 := [.rows false 1 (flA 1 2), .rows true 2 [u0], .rows true 3 [u1], .rows true 1 [[.str s]], .rows true 1 [[.int .i64 0]]]) (y := ([.int .i64 0], tr 3 ++ []))
    rfl Try.func40 (by kernel_rfl) (by kernel_rfl) (by kernel_rfl) (by kernel_rfl) (by kernel_rfl) Try.func57 (by kernel_rfl) (by kernel_rfl) (by kernel_rfl) (by kernel_rfl) (by kernel_rfl) (by kernel_rfl)
    (Pre.one (hFA_1 u0 u1 s m)) (fun ds => @D.rFA_1 ⟨ds⟩ u0 u1 v0 v1 m s ⟨#[]⟩ true (right_ok _ (by simp)) h (decide_eq_true (by omega)) (right_ok _ rfl) (by have := hasPrefix_ok s m; rw [decide_eq_true hp] at this; exact this)) (by kernel_rfl) (.inl ⟨rfl, rfl⟩) (bFA_1 v0 v1 ⟨#[]⟩) (by kernel_rfl) tr3).move [0, 1, 2] (by kernel_rfl) (by kernel_rfl) (by kernel_rfl)
end Go.L12
end

section
set_option linter.unusedVariables false
set_option linter.unusedSimpArgs false
set_option maxRecDepth 100000
namespace Go.L12
open Go Go.Abs Go.Abs.AVal Go.Abs.AObj Go.Proofs

theorem wsA_ok : FOk Try.prog 52 [.ptr 0 2 0 0, .str ⟨#[65]⟩] [.trows 94 false 2 [[.nilp, .fsl true 0 [] (some 0)]]] (.tuple [.int .i64 1, .nili]) [.rows false 2 [[.ptr 0 2 0 0, .slc false 1 1 0 1 none]], .trows 5 true 1 [brow 65]] := ws0_1 ⟨#[65]⟩ (by decide)
end Go.L12
end

section
set_option linter.unusedVariables false
set_option linter.unusedSimpArgs false
set_option maxRecDepth 100000
namespace Go.L12
open Go Go.Abs Go.Abs.AVal Go.Abs.AObj Go.Proofs

theorem fldA_1 (a0 a1 b0 b1 : Int) (nb : Bool) (rs : List (List AVal)) :
    FOk Try.prog 50 ([ptr 0 2 0 0, ptr 1 3 0 0]) ([rows true 2 [rA0 a0 a1], rows false 3 [rA1 b0 b1 (fsl nb 2 rs none)]]) (slc false 2 1 0 5 (some 5)) ([rows true 2 [[iI a0, iI a1]], rows false 3 [[iI b0, iI b1, fsl nb 2 rs none]], rows false 1 (flA 0 1)]) :=
  (evalF_ok followed Try.func50 (by kernel_rfl) (show evalF Try.prog Try.f50 ([ptr 0 2 0 0, ptr 1 3 0 0]) ([rows true 2 [rA0 a0 a1], rows false 3 [rA1 b0 b1 (fsl nb 2 rs none)]]) ([]) = .ok (FRes.mk (slc false 2 1 0 5 (some 5)) ([rows true 2 [[iI a0, iI a1]], rows false 3 [[iI b0, iI b1, fsl nb 2 rs none]], rows false 1 (flA 0 1)]) (tr 45 ++ [])) by kernel_rfl) (allP_of (trC 45 trivial))).move ([0, 1, 2]) (by kernel_rfl) (by kernel_rfl) (by kernel_rfl)

theorem fldzA_1 (z : Int) :
    FOk Try.prog 50 ([ptr 0 2 0 0, ptr 1 3 0 0]) ([rows true 2 [[iI z, iI 0]], rows false 3 [[iI 0, iI 0, fsl true 0 [] (some 0)]]]) (slc false 2 1 0 5 (some 5)) ([rows true 2 [[iI z, iI 0]], rows false 3 [[iI 0, iI 0, fsl true 0 [] (some 0)]], rows false 1 (flA 0 1)]) :=
  (evalF_ok followed Try.func50 (by kernel_rfl) (show evalF Try.prog Try.f50 ([ptr 0 2 0 0, ptr 1 3 0 0]) ([rows true 2 [[iI z, iI 0]], rows false 3 [[iI 0, iI 0, fsl true 0 [] (some 0)]]]) ([]) = .ok (FRes.mk (slc false 2 1 0 5 (some 5)) ([rows true 2 [[iI z, iI 0]], rows false 3 [[iI 0, iI 0, fsl true 0 [] (some 0)]], rows false 1 (flA 0 1)]) (tr 45 ++ [])) by kernel_rfl) (allP_of (trC 45 trivial))).move ([0, 1, 2]) (by kernel_rfl) (by kernel_rfl) (by kernel_rfl)

theorem putA_1 (u0 u1 : List AVal) (l : List UInt8)
    (h1 : FOk Try.prog 54 [ptr 0 2 0 0] [rows false 2 [[ptr 0 2 0 0, slc false 1 1 0 (List.length l) none]], trows 5 true 1 (rowsL l)] (str (bS l)) [rows false 2 [[ptr 0 2 0 0, slc false 1 1 0 (List.length l) none]], dead])
    (h2 : FOk Try.prog 53 [ptr 0 2 0 0, slc false 1 1 0 5 none] [rows false 2 [[ptr 0 2 0 0, slc false 2 1 0 1 none]], rows false 1 (flA 3 4), trows 5 true 1 [[int IntKind.u8 65]], rows true 2 [u0], rows true 3 [u1]] (iI 0) [rows false 2 [[ptr 0 2 0 0, slc false 5 1 0 (List.length l) none]], rows false 1 (flA 3 4), dead, rows true 2 [u0], rows true 3 [u1], trows 5 true 1 (rowsL l)]) :
    FOk Try.prog 33 ([str (ByteArray.mk #[65]), slc false 0 1 0 5 none]) ([rows false 1 (flA 1 2), rows true 2 [u0], rows true 3 [u1]]) (tuple [str (bS l), iI 0]) ([rows false 1 (flA 1 2), rows true 2 [u0], rows true 3 [u1]]) :=
  (evalF_ok followed Try.func33 (by kernel_rfl) (show evalF Try.prog Try.f33 ([str (ByteArray.mk #[65]), slc false 0 1 0 5 none]) ([rows false 1 (flA 1 2), rows true 2 [u0], rows true 3 [u1]]) ([Dec.use [3] [ptr 0 2 0 0, str (ByteArray.mk #[65])] [trows 94 false 2 [[nilp, fsl true 0 [] (some 0)]]] (tuple [iI 1, nili]) [rows false 2 [[ptr 0 2 0 0, slc false 1 1 0 1 none]], trows 5 true 1 [[int IntKind.u8 65]]], Dec.use [3, 0, 4, 1, 2] [ptr 0 2 0 0, slc false 1 1 0 5 none] [rows false 2 [[ptr 0 2 0 0, slc false 2 1 0 1 none]], rows false 1 (flA 3 4), trows 5 true 1 [[int IntKind.u8 65]], rows true 2 [u0], rows true 3 [u1]] (iI 0) [rows false 2 [[ptr 0 2 0 0, slc false 5 1 0 (List.length l) none]], rows false 1 (flA 3 4), dead, rows true 2 [u0], rows true 3 [u1], trows 5 true 1 (rowsL l)], Dec.br false, Dec.use [3, 5] [ptr 0 2 0 0] [rows false 2 [[ptr 0 2 0 0, slc false 1 1 0 (List.length l) none]], trows 5 true 1 (rowsL l)] (str (bS l)) [rows false 2 [[ptr 0 2 0 0, slc false 1 1 0 (List.length l) none]], dead]]) = .ok (FRes.mk (tuple [str (bS l), iI 0]) ([rows false 1 (flA 1 2), rows true 2 [u0], rows true 3 [u1], rows false 2 [[ptr 3 2 0 0, slc false 5 1 0 (List.length l) none]], dead, dead]) ((oU 3 54 [3, 5] [ptr 3 2 0 0] [rows false 1 (flA 1 2), rows true 2 [u0], rows true 3 [u1], rows false 2 [[ptr 3 2 0 0, slc false 5 1 0 (List.length l) none]], dead, trows 5 true 1 (rowsL l)] [ptr 0 2 0 0] [rows false 2 [[ptr 0 2 0 0, slc false 1 1 0 (List.length l) none]], trows 5 true 1 (rowsL l)] (str (bS l)) [rows false 2 [[ptr 0 2 0 0, slc false 1 1 0 (List.length l) none]], dead]) :: ((false = false) :: ((oU 3 53 [3, 0, 4, 1, 2] [ptr 3 2 0 0, slc false 0 1 0 5 none] [rows false 1 (flA 1 2), rows true 2 [u0], rows true 3 [u1], rows false 2 [[ptr 3 2 0 0, slc false 4 1 0 1 none]], trows 5 true 1 [[int IntKind.u8 65]]] [ptr 0 2 0 0, slc false 1 1 0 5 none] [rows false 2 [[ptr 0 2 0 0, slc false 2 1 0 1 none]], rows false 1 (flA 3 4), trows 5 true 1 [[int IntKind.u8 65]], rows true 2 [u0], rows true 3 [u1]] (iI 0) [rows false 2 [[ptr 0 2 0 0, slc false 5 1 0 (List.length l) none]], rows false 1 (flA 3 4), dead, rows true 2 [u0], rows true 3 [u1], trows 5 true 1 (rowsL l)]) :: ((oU 3 52 [3] [ptr 3 2 0 0, str (ByteArray.mk #[65])] [rows false 1 (flA 1 2), rows true 2 [u0], rows true 3 [u1], trows 94 false 2 [[nilp, fsl true 0 [] (some 0)]]] [ptr 0 2 0 0, str (ByteArray.mk #[65])] [trows 94 false 2 [[nilp, fsl true 0 [] (some 0)]]] (tuple [iI 1, nili]) [rows false 2 [[ptr 0 2 0 0, slc false 1 1 0 1 none]], trows 5 true 1 [[int IntKind.u8 65]]]) :: []))))) by kernel_rfl) (allP_of ⟨⟨h1, rfl, rfl, rfl⟩, ⟨rfl, ⟨⟨h2, rfl, rfl, rfl⟩, ⟨⟨(@Go.L12.wsA_ok), rfl, rfl, rfl⟩, trivial⟩⟩⟩⟩)).move ([0, 1, 2]) (by kernel_rfl) (by kernel_rfl) (by kernel_rfl)

def putA_T (u0 u1 : List AVal) (l : List UInt8) (Q : AVal → AState → Prop) : Prop := (FOk Try.prog 53 [ptr 0 2 0 0, slc false 1 1 0 5 none] [rows false 2 [[ptr 0 2 0 0, slc false 2 1 0 1 none]], rows false 1 (flA 3 4), trows 5 true 1 [[int IntKind.u8 65]], rows true 2 [u0], rows true 3 [u1]] (iI 0) [rows false 2 [[ptr 0 2 0 0, slc false 5 1 0 (List.length l) none]], rows false 1 (flA 3 4), dead, rows true 2 [u0], rows true 3 [u1], trows 5 true 1 (rowsL l)]) ∧ (FOk Try.prog 54 [ptr 0 2 0 0] [rows false 2 [[ptr 0 2 0 0, slc false 1 1 0 (List.length l) none]], trows 5 true 1 (rowsL l)] (str (bS l)) [rows false 2 [[ptr 0 2 0 0, slc false 1 1 0 (List.length l) none]], dead]) ∧ Q (tuple [str (bS l), iI 0]) ([rows false 1 (flA 1 2), rows true 2 [u0], rows true 3 [u1]])
theorem putA_wp (u0 u1 : List AVal) (l : List UInt8) {Q : AVal → AState → Prop} (h : putA_T u0 u1 l Q) : ∃ r σ', FOk Try.prog 33 ([str (ByteArray.mk #[65]), slc false 0 1 0 5 none]) ([rows false 1 (flA 1 2), rows true 2 [u0], rows true 3 [u1]]) r σ' ∧ Q r σ' :=
  ⟨_, _, putA_1 u0 u1 l (h.2.1) (h.1), h.2.2⟩


theorem putNA_1 (u0 u1 : List AVal)
    (h1 : FOk Try.prog 53 [ptr 0 2 0 0, slc false 1 1 0 5 none] [rows false 2 [[ptr 0 2 0 0, slc false 2 1 0 1 none]], rows false 1 (flA 3 4), trows 5 true 1 [[int IntKind.u8 65]], rows true 2 [u0], rows true 3 [u1]] (iI 1) [dead, dead, dead, dead, dead]) :
    FOk Try.prog 33 ([str (ByteArray.mk #[65]), slc false 0 1 0 5 none]) ([rows false 1 (flA 1 2), rows true 2 [u0], rows true 3 [u1]]) (tuple [str (ByteArray.mk #[]), iI 1]) ([dead, dead, dead]) :=
  (evalF_ok followed Try.func33 (by kernel_rfl) (show evalF Try.prog Try.f33 ([str (ByteArray.mk #[65]), slc false 0 1 0 5 none]) ([rows false 1 (flA 1 2), rows true 2 [u0], rows true 3 [u1]]) ([Dec.use [3] [ptr 0 2 0 0, str (ByteArray.mk #[65])] [trows 94 false 2 [[nilp, fsl true 0 [] (some 0)]]] (tuple [iI 1, nili]) [rows false 2 [[ptr 0 2 0 0, slc false 1 1 0 1 none]], trows 5 true 1 [[int IntKind.u8 65]]], Dec.use [3, 0, 4, 1, 2] [ptr 0 2 0 0, slc false 1 1 0 5 none] [rows false 2 [[ptr 0 2 0 0, slc false 2 1 0 1 none]], rows false 1 (flA 3 4), trows 5 true 1 [[int IntKind.u8 65]], rows true 2 [u0], rows true 3 [u1]] (iI 1) [dead, dead, dead, dead, dead], Dec.br true]) = .ok (FRes.mk (tuple [str (ByteArray.mk #[]), iI 1]) ([dead, dead, dead, dead, dead]) (tr 1 ++ ((oU 3 53 [3, 0, 4, 1, 2] [ptr 3 2 0 0, slc false 0 1 0 5 none] [rows false 1 (flA 1 2), rows true 2 [u0], rows true 3 [u1], rows false 2 [[ptr 3 2 0 0, slc false 4 1 0 1 none]], trows 5 true 1 [[int IntKind.u8 65]]] [ptr 0 2 0 0, slc false 1 1 0 5 none] [rows false 2 [[ptr 0 2 0 0, slc false 2 1 0 1 none]], rows false 1 (flA 3 4), trows 5 true 1 [[int IntKind.u8 65]], rows true 2 [u0], rows true 3 [u1]] (iI 1) [dead, dead, dead, dead, dead]) :: ((oU 3 52 [3] [ptr 3 2 0 0, str (ByteArray.mk #[65])] [rows false 1 (flA 1 2), rows true 2 [u0], rows true 3 [u1], trows 94 false 2 [[nilp, fsl true 0 [] (some 0)]]] [ptr 0 2 0 0, str (ByteArray.mk #[65])] [trows 94 false 2 [[nilp, fsl true 0 [] (some 0)]]] (tuple [iI 1, nili]) [rows false 2 [[ptr 0 2 0 0, slc false 1 1 0 1 none]], trows 5 true 1 [[int IntKind.u8 65]]]) :: [])))) by kernel_rfl) (allP_of (trC 1 ⟨⟨h1, rfl, rfl, rfl⟩, ⟨⟨(@Go.L12.wsA_ok), rfl, rfl, rfl⟩, trivial⟩⟩))).move ([0, 1, 2]) (by kernel_rfl) (by kernel_rfl) (by kernel_rfl)

def putNA_T (u0 u1 : List AVal) (Q : AVal → AState → Prop) : Prop := (FOk Try.prog 53 [ptr 0 2 0 0, slc false 1 1 0 5 none] [rows false 2 [[ptr 0 2 0 0, slc false 2 1 0 1 none]], rows false 1 (flA 3 4), trows 5 true 1 [[int IntKind.u8 65]], rows true 2 [u0], rows true 3 [u1]] (iI 1) [dead, dead, dead, dead, dead]) ∧ Q (tuple [str (ByteArray.mk #[]), iI 1]) ([dead, dead, dead])
theorem putNA_wp (u0 u1 : List AVal) {Q : AVal → AState → Prop} (h : putNA_T u0 u1 Q) : ∃ r σ', FOk Try.prog 33 ([str (ByteArray.mk #[65]), slc false 0 1 0 5 none]) ([rows false 1 (flA 1 2), rows true 2 [u0], rows true 3 [u1]]) r σ' ∧ Q r σ' :=
  ⟨_, _, putNA_1 u0 u1 (h.1), h.2⟩


end Go.L12
end

section
set_option linter.unusedVariables false
set_option linter.unusedSimpArgs false
set_option maxRecDepth 100000
namespace Go.L12
open Go Go.Abs Go.Proofs

theorem put33A_ok (a0 a1 b0 b1 : Int) (nb : Bool) (rs : List (List AVal)) (hk : kA a0 a1 b0 b1 rs) (b : List UInt8) (hb : seqO (fpA (rA0 a0 a1) (rA1 b0 b1 (.fsl nb 2 rs none))) 5 0 = some b) :
    FOk Try.prog 33 [.str ⟨#[65]⟩, .slc false 0 1 0 5 none] [.rows false 1 (flA 1 2), .rows true 2 [(rA0 a0 a1)], .rows false 3 [(rA1 b0 b1 (.fsl nb 2 rs none))]] (.tuple [.str (bS (65 :: b)), .int .i64 0]) [.rows false 1 (flA 1 2), .rows true 2 [(rA0 a0 a1)], .rows false 3 [(rA1 b0 b1 (.fsl nb 2 rs none))]] := by
  have hlen := seqO_len (fun i b h => putF_len h) 5 0 b hb
  have hp := putsA_ok a0 a1 b0 b1 nb rs hk [65] b (by simp) hb
  rw [show rowsL [65] = [brow 65] from by kernel_rfl] at hp
  have ht := triedA_ok (rA0 a0 a1) (rA1 b0 b1 (.fsl nb 2 rs none)) 1 ([65] ++ b).length [brow 65] (rowsL ([65] ++ b)) hp
  refine FOk.preObj 2 (.rows true 3 [(rA1 b0 b1 (.fsl nb 2 rs none))]) ?_ (by simp) rfl (fun F w ρ b h => ORel.unpure h rfl)
  refine FOk.weakObj (σ' := [.rows false 1 (flA 1 2), .rows true 2 [(rA0 a0 a1)], .rows true 3 [(rA1 b0 b1 (.fsl nb 2 rs none))]]) ?_ 2 (.rows false 3 [(rA1 b0 b1 (.fsl nb 2 rs none))]) (by simp) rfl (fun F w ρ b h => ORel.lead h)
  refine FOk.wp (putA_wp (rA0 a0 a1) (rA1 b0 b1 (.fsl nb 2 rs none)) (65 :: b) ?_)
  unfold putA_T
  exact ⟨ht, bst_ok (65 :: b) _ (List.length_map _).symm (by simp) (by simp; omega), rfl, rfl⟩
theorem put33A_no (a0 a1 b0 b1 : Int) (nb : Bool) (rs : List (List AVal)) (hk : kA a0 a1 b0 b1 rs) (hb : seqO (fpA (rA0 a0 a1) (rA1 b0 b1 (.fsl nb 2 rs none))) 5 0 = none) :
    FOk Try.prog 33 [.str ⟨#[65]⟩, .slc false 0 1 0 5 none] [.rows false 1 (flA 1 2), .rows true 2 [(rA0 a0 a1)], .rows false 3 [(rA1 b0 b1 (.fsl nb 2 rs none))]] (.tuple [.str ⟨#[]⟩, .int .i64 1]) [.dead, .dead, .dead] := by
  have hp := putsA_no a0 a1 b0 b1 nb rs hk [65] (by simp) hb
  rw [show rowsL [65] = [brow 65] from by kernel_rfl] at hp
  have ht := triedA_no (rA0 a0 a1) (rA1 b0 b1 (.fsl nb 2 rs none)) 1 [brow 65] hp
  refine FOk.preObj 2 (.rows true 3 [(rA1 b0 b1 (.fsl nb 2 rs none))]) ?_ (by simp) rfl (fun F w ρ b h => ORel.unpure h rfl)
  refine FOk.wp (putNA_wp (rA0 a0 a1) (rA1 b0 b1 (.fsl nb 2 rs none)) ?_)
  unfold putNA_T
  exact ⟨ht, rfl, rfl⟩
theorem onum0A (n : Int) : FOk Try.prog 35 [.ptr 0 2 0 0, .int .i64 n] [.rows false 2 [[.slc false 1 1 0 1 (some 1), .tt false]], .rows true 1 [[.int .u8 65]]] (.tuple [])
      [.rows false 2 [[.slc false 2 1 0 ([65] ++ got (pI n)).length none, .bool (pI n).isNone]], .dead, .rows true 1 (rowsL ([65] ++ got (pI n)))] := onum0P n 65
end Go.L12
end

section
set_option linter.unusedVariables false
set_option linter.unusedSimpArgs false
set_option maxRecDepth 100000
namespace Go.L12
open Go Go.Abs Go.Abs.AVal Go.Abs.AObj Go.Proofs

theorem PutA_1 (a0 a1 b0 b1 : Int) (nb : Bool) (rs : List (List AVal)) (s : ByteArray) (e : Int)
    (h1 : FOk Try.prog 33 [str (ByteArray.mk #[65]), slc false 0 1 0 5 (some 5)] [rows false 1 (flA 1 2), rows true 2 [[iI a0, iI a1]], rows false 3 [[iI b0, iI b1, fsl nb 2 rs none]]] (tuple [str s, iI e]) [rows false 1 (flA 1 2), rows true 2 [[iI a0, iI a1]], rows false 3 [[iI b0, iI b1, fsl nb 2 rs none]]]) :
    FOk Try.prog 31 ([agg (rA0 a0 a1), agg (rA1 b0 b1 (fsl nb 2 rs none))]) ([]) (tuple [str s, iI e]) ([]) :=
  (evalF_ok followed Try.func31 (by kernel_rfl) (show evalF Try.prog Try.f31 ([agg (rA0 a0 a1), agg (rA1 b0 b1 (fsl nb 2 rs none))]) ([]) ([Dec.use [0, 1] [ptr 0 2 0 0, ptr 1 3 0 0] [rows true 2 [[iI a0, iI a1]], rows false 3 [[iI b0, iI b1, fsl nb 2 rs none]]] (slc false 2 1 0 5 (some 5)) [rows true 2 [[iI a0, iI a1]], rows false 3 [[iI b0, iI b1, fsl nb 2 rs none]], rows false 1 (flA 0 1)], Dec.use [2, 0, 1] [str (ByteArray.mk #[65]), slc false 0 1 0 5 (some 5)] [rows false 1 (flA 1 2), rows true 2 [[iI a0, iI a1]], rows false 3 [[iI b0, iI b1, fsl nb 2 rs none]]] (tuple [str s, iI e]) [rows false 1 (flA 1 2), rows true 2 [[iI a0, iI a1]], rows false 3 [[iI b0, iI b1, fsl nb 2 rs none]]]]) = .ok (FRes.mk (tuple [str s, iI e]) ([rows true 2 [[iI a0, iI a1]], rows false 3 [[iI b0, iI b1, fsl nb 2 rs none]], rows false 1 (flA 0 1)]) ((oU 0 33 [2, 0, 1] [str (ByteArray.mk #[65]), slc false 2 1 0 5 (some 5)] [rows true 2 [[iI a0, iI a1]], rows false 3 [[iI b0, iI b1, fsl nb 2 rs none]], rows false 1 (flA 0 1)] [str (ByteArray.mk #[65]), slc false 0 1 0 5 (some 5)] [rows false 1 (flA 1 2), rows true 2 [[iI a0, iI a1]], rows false 3 [[iI b0, iI b1, fsl nb 2 rs none]]] (tuple [str s, iI e]) [rows false 1 (flA 1 2), rows true 2 [[iI a0, iI a1]], rows false 3 [[iI b0, iI b1, fsl nb 2 rs none]]]) :: ((oU 0 50 [0, 1] [ptr 0 2 0 0, ptr 1 3 0 0] [rows true 2 [[iI a0, iI a1]], rows false 3 [[iI b0, iI b1, fsl nb 2 rs none]]] [ptr 0 2 0 0, ptr 1 3 0 0] [rows true 2 [[iI a0, iI a1]], rows false 3 [[iI b0, iI b1, fsl nb 2 rs none]]] (slc false 2 1 0 5 (some 5)) [rows true 2 [[iI a0, iI a1]], rows false 3 [[iI b0, iI b1, fsl nb 2 rs none]], rows false 1 (flA 0 1)]) :: []))) by kernel_rfl) (allP_of ⟨⟨h1, rfl, rfl, rfl⟩, ⟨⟨(@Go.L12.fldA_1 (a0) (a1) (b0) (b1) (nb) (rs)), rfl, rfl, rfl⟩, trivial⟩⟩)).move ([]) (by kernel_rfl) (by kernel_rfl) (by kernel_rfl)

def PutA_T (a0 a1 b0 b1 : Int) (nb : Bool) (rs : List (List AVal)) (s : ByteArray) (e : Int) (Q : AVal → AState → Prop) : Prop := (FOk Try.prog 33 [str (ByteArray.mk #[65]), slc false 0 1 0 5 (some 5)] [rows false 1 (flA 1 2), rows true 2 [[iI a0, iI a1]], rows false 3 [[iI b0, iI b1, fsl nb 2 rs none]]] (tuple [str s, iI e]) [rows false 1 (flA 1 2), rows true 2 [[iI a0, iI a1]], rows false 3 [[iI b0, iI b1, fsl nb 2 rs none]]]) ∧ Q (tuple [str s, iI e]) ([])
theorem PutA_wp (a0 a1 b0 b1 : Int) (nb : Bool) (rs : List (List AVal)) (s : ByteArray) (e : Int) {Q : AVal → AState → Prop} (h : PutA_T a0 a1 b0 b1 nb rs s e Q) : ∃ r σ', FOk Try.prog 31 ([agg (rA0 a0 a1), agg (rA1 b0 b1 (fsl nb 2 rs none))]) ([]) r σ' ∧ Q r σ' :=
  ⟨_, _, PutA_1 a0 a1 b0 b1 nb rs s e (h.1), h.2⟩


theorem PutNA_1 (a0 a1 b0 b1 : Int) (nb : Bool) (rs : List (List AVal)) (s : ByteArray) (e : Int)
    (h1 : FOk Try.prog 33 [str (ByteArray.mk #[65]), slc false 0 1 0 5 (some 5)] [rows false 1 (flA 1 2), rows true 2 [[iI a0, iI a1]], rows false 3 [[iI b0, iI b1, fsl nb 2 rs none]]] (tuple [str s, iI e]) [dead, dead, dead]) :
    FOk Try.prog 31 ([agg (rA0 a0 a1), agg (rA1 b0 b1 (fsl nb 2 rs none))]) ([]) (tuple [str s, iI e]) ([]) :=
  (evalF_ok followed Try.func31 (by kernel_rfl) (show evalF Try.prog Try.f31 ([agg (rA0 a0 a1), agg (rA1 b0 b1 (fsl nb 2 rs none))]) ([]) ([Dec.use [0, 1] [ptr 0 2 0 0, ptr 1 3 0 0] [rows true 2 [[iI a0, iI a1]], rows false 3 [[iI b0, iI b1, fsl nb 2 rs none]]] (slc false 2 1 0 5 (some 5)) [rows true 2 [[iI a0, iI a1]], rows false 3 [[iI b0, iI b1, fsl nb 2 rs none]], rows false 1 (flA 0 1)], Dec.use [2, 0, 1] [str (ByteArray.mk #[65]), slc false 0 1 0 5 (some 5)] [rows false 1 (flA 1 2), rows true 2 [[iI a0, iI a1]], rows false 3 [[iI b0, iI b1, fsl nb 2 rs none]]] (tuple [str s, iI e]) [dead, dead, dead]]) = .ok (FRes.mk (tuple [str s, iI e]) ([dead, dead, dead]) ((oU 0 33 [2, 0, 1] [str (ByteArray.mk #[65]), slc false 2 1 0 5 (some 5)] [rows true 2 [[iI a0, iI a1]], rows false 3 [[iI b0, iI b1, fsl nb 2 rs none]], rows false 1 (flA 0 1)] [str (ByteArray.mk #[65]), slc false 0 1 0 5 (some 5)] [rows false 1 (flA 1 2), rows true 2 [[iI a0, iI a1]], rows false 3 [[iI b0, iI b1, fsl nb 2 rs none]]] (tuple [str s, iI e]) [dead, dead, dead]) :: ((oU 0 50 [0, 1] [ptr 0 2 0 0, ptr 1 3 0 0] [rows true 2 [[iI a0, iI a1]], rows false 3 [[iI b0, iI b1, fsl nb 2 rs none]]] [ptr 0 2 0 0, ptr 1 3 0 0] [rows true 2 [[iI a0, iI a1]], rows false 3 [[iI b0, iI b1, fsl nb 2 rs none]]] (slc false 2 1 0 5 (some 5)) [rows true 2 [[iI a0, iI a1]], rows false 3 [[iI b0, iI b1, fsl nb 2 rs none]], rows false 1 (flA 0 1)]) :: []))) by kernel_rfl) (allP_of ⟨⟨h1, rfl, rfl, rfl⟩, ⟨⟨(@Go.L12.fldA_1 (a0) (a1) (b0) (b1) (nb) (rs)), rfl, rfl, rfl⟩, trivial⟩⟩)).move ([]) (by kernel_rfl) (by kernel_rfl) (by kernel_rfl)

def PutNA_T (a0 a1 b0 b1 : Int) (nb : Bool) (rs : List (List AVal)) (s : ByteArray) (e : Int) (Q : AVal → AState → Prop) : Prop := (FOk Try.prog 33 [str (ByteArray.mk #[65]), slc false 0 1 0 5 (some 5)] [rows false 1 (flA 1 2), rows true 2 [[iI a0, iI a1]], rows false 3 [[iI b0, iI b1, fsl nb 2 rs none]]] (tuple [str s, iI e]) [dead, dead, dead]) ∧ Q (tuple [str s, iI e]) ([])
theorem PutNA_wp (a0 a1 b0 b1 : Int) (nb : Bool) (rs : List (List AVal)) (s : ByteArray) (e : Int) {Q : AVal → AState → Prop} (h : PutNA_T a0 a1 b0 b1 nb rs s e Q) : ∃ r σ', FOk Try.prog 31 ([agg (rA0 a0 a1), agg (rA1 b0 b1 (fsl nb 2 rs none))]) ([]) r σ' ∧ Q r σ' :=
  ⟨_, _, PutNA_1 a0 a1 b0 b1 nb rs s e (h.1), h.2⟩


theorem FromA_1 (a0 a1 b0 b1 : Int) (nb : Bool) (rs : List (List AVal)) (s : ByteArray)
    (h1 : FOk Try.prog 40 [str s, str (ByteArray.mk #[65]), slc false 0 1 0 5 (some 5)] [rows false 1 (flA 1 2), rows true 2 [[iI 0, iI 0]], rows false 3 [[iI 0, iI 0, fsl true 0 [] (some 0)]]] (iI 0) [rows false 1 (flA 1 2), rows true 2 [[iI a0, iI a1]], rows true 3 [[iI b0, iI b1, fsl nb 2 rs none]]]) :
    FOk Try.prog 26 ([str s]) ([]) (tuple [agg [iI a0, iI a1], agg [iI b0, iI b1, fsl nb 2 rs none], iI 0]) ([]) :=
  (evalF_ok followed Try.func26 (by kernel_rfl) (show evalF Try.prog Try.f26 ([str s]) ([]) ([Dec.use [2, 3] [ptr 0 2 0 0, ptr 1 3 0 0] [rows true 2 [[iI 0, iI 0]], rows false 3 [[iI 0, iI 0, fsl true 0 [] (some 0)]]] (slc false 2 1 0 5 (some 5)) [rows true 2 [[iI 0, iI 0]], rows false 3 [[iI 0, iI 0, fsl true 0 [] (some 0)]], rows false 1 (flA 0 1)], Dec.use [4, 2, 3] [str s, str (ByteArray.mk #[65]), slc false 0 1 0 5 (some 5)] [rows false 1 (flA 1 2), rows true 2 [[iI 0, iI 0]], rows false 3 [[iI 0, iI 0, fsl true 0 [] (some 0)]]] (iI 0) [rows false 1 (flA 1 2), rows true 2 [rA0 a0 a1], rows true 3 [rA1 b0 b1 (fsl nb 2 rs none)]], Dec.br false]) = .ok (FRes.mk (tuple [agg [iI a0, iI a1], agg [iI b0, iI b1, fsl nb 2 rs none], iI 0]) ([rows true 2 [[iI a0, iI a1]], rows false 3 [[iI b0, iI b1, fsl nb 2 rs none]], rows true 2 [[iI a0, iI a1]], rows true 3 [[iI b0, iI b1, fsl nb 2 rs none]], rows false 1 (flA 2 3)]) (tr 28 ++ ((false = false) :: ((oU 0 40 [4, 2, 3] [str s, str (ByteArray.mk #[65]), slc false 4 1 0 5 (some 5)] [rows true 2 [[iI 0, iI 0]], rows false 3 [[iI 0, iI 0, fsl true 0 [] (some 0)]], rows true 2 [[iI 0, iI 0]], rows false 3 [[iI 0, iI 0, fsl true 0 [] (some 0)]], rows false 1 (flA 2 3)] [str s, str (ByteArray.mk #[65]), slc false 0 1 0 5 (some 5)] [rows false 1 (flA 1 2), rows true 2 [[iI 0, iI 0]], rows false 3 [[iI 0, iI 0, fsl true 0 [] (some 0)]]] (iI 0) [rows false 1 (flA 1 2), rows true 2 [[iI a0, iI a1]], rows true 3 [[iI b0, iI b1, fsl nb 2 rs none]]]) :: ((oU 0 50 [2, 3] [ptr 2 2 0 0, ptr 3 3 0 0] [rows true 2 [[iI 0, iI 0]], rows false 3 [[iI 0, iI 0, fsl true 0 [] (some 0)]], rows true 2 [[iI 0, iI 0]], rows false 3 [[iI 0, iI 0, fsl true 0 [] (some 0)]]] [ptr 0 2 0 0, ptr 1 3 0 0] [rows true 2 [[iI 0, iI 0]], rows false 3 [[iI 0, iI 0, fsl true 0 [] (some 0)]]] (slc false 2 1 0 5 (some 5)) [rows true 2 [[iI 0, iI 0]], rows false 3 [[iI 0, iI 0, fsl true 0 [] (some 0)]], rows false 1 (flA 0 1)]) :: []))))) by kernel_rfl) (allP_of (trC 28 ⟨rfl, ⟨⟨h1, rfl, rfl, rfl⟩, ⟨⟨(@Go.L12.fldzA_1 (0)), rfl, rfl, rfl⟩, trivial⟩⟩⟩))).move ([]) (by kernel_rfl) (by kernel_rfl) (by kernel_rfl)

def FromA_T (a0 a1 b0 b1 : Int) (nb : Bool) (rs : List (List AVal)) (s : ByteArray) (Q : AVal → AState → Prop) : Prop := (FOk Try.prog 40 [str s, str (ByteArray.mk #[65]), slc false 0 1 0 5 (some 5)] [rows false 1 (flA 1 2), rows true 2 [[iI 0, iI 0]], rows false 3 [[iI 0, iI 0, fsl true 0 [] (some 0)]]] (iI 0) [rows false 1 (flA 1 2), rows true 2 [[iI a0, iI a1]], rows true 3 [[iI b0, iI b1, fsl nb 2 rs none]]]) ∧ Q (tuple [agg [iI a0, iI a1], agg [iI b0, iI b1, fsl nb 2 rs none], iI 0]) ([])
theorem FromA_wp (a0 a1 b0 b1 : Int) (nb : Bool) (rs : List (List AVal)) (s : ByteArray) {Q : AVal → AState → Prop} (h : FromA_T a0 a1 b0 b1 nb rs s Q) : ∃ r σ', FOk Try.prog 26 ([str s]) ([]) r σ' ∧ Q r σ' :=
  ⟨_, _, FromA_1 a0 a1 b0 b1 nb rs s (h.1), h.2⟩


end Go.L12
end

section
set_option linter.unusedVariables false
set_option linter.unusedSimpArgs false
set_option maxRecDepth 100000
namespace Go.L12
open Go Go.Abs Go.Proofs

def TA : List Nat := [100, 100, 102, 100, 112]
abbrev vsA (a0 a1 b0 b1 : Int) (v : AVal) : List AVal := [.int .i64 a0, .int .i64 a1, .int .i64 b0, .int .i64 b1, v]
theorem allFA (a0 a1 b0 b1 : Int) (rs : List (List AVal)) (hr : isL 112 rs) : allF TA (vsA a0 a1 b0 b1 (listV rs)) := ⟨⟨_, rfl⟩, ⟨_, rfl⟩, ⟨_, rfl⟩, ⟨_, rfl⟩, ⟨_, rfl, hr⟩, trivial⟩
theorem seqO_A (a0 a1 b0 b1 : Int) (nb : Bool) (rs : List (List AVal)) : seqO (fpA (rA0 a0 a1) (rA1 b0 b1 (.fsl nb 2 rs none))) 5 0 = putAll TA (vsA a0 a1 b0 b1 (listV rs)) := by
  rw [seqO_all (fun i => (FA.getD i (0, 0, 0)).1) (fun i => (objA (rA0 a0 a1) (rA1 b0 b1 (.fsl nb 2 rs none)) (FA.getD i (0, 0, 0)).2.1).getD (FA.getD i (0, 0, 0)).2.2 .any) (fpA (rA0 a0 a1) (rA1 b0 b1 (.fsl nb 2 rs none))) (fun i => rfl)]
  rfl
theorem putA_ok (a0 a1 b0 b1 : Int) (nb : Bool) (rs : List (List AVal)) (hk : kA a0 a1 b0 b1 rs) (b : List UInt8) (h : putAll TA (vsA a0 a1 b0 b1 (listV rs)) = some b) : FOk Try.prog 31 [.agg (rA0 a0 a1), .agg (rA1 b0 b1 (.fsl nb 2 rs none))] [] (.tuple [.str (bS (65 :: b)), .int .i64 0]) [] := by
  refine FOk.wp (PutA_wp a0 a1 b0 b1 nb rs (bS (65 :: b)) 0 ?_)
  unfold PutA_T
  exact ⟨(put33A_ok a0 a1 b0 b1 nb rs hk b (by rw [seqO_A]; exact h)).args ⟨Imp.refl _, Imp.slcCap _ _ _ _ _ _, trivial⟩, rfl, rfl⟩
theorem putA_no (a0 a1 b0 b1 : Int) (nb : Bool) (rs : List (List AVal)) (hk : kA a0 a1 b0 b1 rs) (h : putAll TA (vsA a0 a1 b0 b1 (listV rs)) = none) : FOk Try.prog 31 [.agg (rA0 a0 a1), .agg (rA1 b0 b1 (.fsl nb 2 rs none))] [] (.tuple [.str ⟨#[]⟩, .int .i64 1]) [] := by
  refine FOk.wp (PutNA_wp a0 a1 b0 b1 nb rs ⟨#[]⟩ 1 ?_)
  unfold PutNA_T
  exact ⟨(put33A_no a0 a1 b0 b1 nb rs hk (by rw [seqO_A]; exact h)).args ⟨Imp.refl _, Imp.slcCap _ _ _ _ _ _, trivial⟩, rfl, rfl⟩
def zeroA : List AVal × List AVal := ((rA0 0 0), (rA1 0 0 (.fsl true 0 [] (some 0))))
def setA (i : Nat) (u : List AVal × List AVal) (v : AVal) : List AVal × List AVal := if (FA.getD i (0, 0, 0)).2.1 = 0 then (u.1.set (FA.getD i (0, 0, 0)).2.2 v, u.2) else (u.1, u.2.set (FA.getD i (0, 0, 0)).2.2 v)
theorem seqG_A (s : ByteArray) : seqG gtA 5 0 zeroA s = (takeAll TA s).map fun y => (setAll setA 0 zeroA y.1, y.2) := by
  rw [seqG_all (fun i => (FA.getD i (0, 0, 0)).1) setA gtA (fun i u s => rfl)]
  rfl
theorem set_A (a0 a1 b0 b1 : Int) (v : AVal) : setAll setA 0 zeroA (vsA a0 a1 b0 b1 v) = ((rA0 a0 a1), (rA1 b0 b1 v)) := by kernel_rfl
theorem iv0A : ivA 0 zeroA := ⟨_, _, _, _, _, rfl, fun _ => rfl⟩
theorem preA {s s' : ByteArray} (h : lB s = UInt8.ofNat 65 :: lB s') : (lB (ByteArray.mk #[65]) <+: lB s) ∧ s.extract (ByteArray.mk #[65]).size s.size = s' := by
  constructor
  · exact ⟨lB s', h.symm⟩
  · have e := mk_of h
    unfold mk at e
    split at e
    · exact congrArg Prod.fst e
    · have := congrArg Prod.snd e; cases this
theorem fromA_pre {s : ByteArray} {r : AVal} {σ' : AState} (h : FOk Try.prog 40 [.str s, .str ⟨#[65]⟩, .slc false 0 1 0 5 none] [.rows false 1 (flA 1 2), .rows true 2 [(rA0 0 0)], .rows true 3 [(rA1 0 0 (.fsl true 0 [] (some 0)))]] r σ') : FOk Try.prog 40 [.str s, .str ⟨#[65]⟩, .slc false 0 1 0 5 (some 5)] [.rows false 1 (flA 1 2), .rows true 2 [[.int .i64 0, .int .i64 0]], .rows false 3 [[.int .i64 0, .int .i64 0, .fsl true 0 [] (some 0)]]] r σ' := by
  have q : FOk Try.prog 40 [.str s, .str ⟨#[65]⟩, .slc false 0 1 0 5 none] [.rows false 1 (flA 1 2), .rows true 2 [[.int .i64 0, .int .i64 0]], .rows false 3 [[.int .i64 0, .int .i64 0, .fsl true 0 [] (some 0)]]] r σ' := FOk.preObj 2 (.rows true 3 [(rA1 0 0 (.fsl true 0 [] (some 0)))]) h (by simp) rfl (fun F w ρ b h => ORel.unpure h rfl)
  exact q.args ⟨Imp.refl _, Imp.refl _, Imp.slcCap _ _ _ _ _ _, trivial⟩
theorem fromA_is {s : ByteArray} (a0 a1 b0 b1 : Int) (rs : List (List AVal)) (h : Is 65 TA s (vsA a0 a1 b0 b1 (listV rs))) : FOk Try.prog 26 [.str s] [] (.tuple [.agg (rA0 a0 a1), .agg (rA1 b0 b1 (listV rs)), .int .i64 0]) [] := by
  obtain ⟨s', h1, h2⟩ := h
  obtain ⟨p1, p2⟩ := preA h1
  refine FOk.wp (FromA_wp a0 a1 b0 b1 rs.isEmpty rs s ?_)
  unfold FromA_T
  have ht := takesA_ok zeroA iv0A s' (((rA0 a0 a1), (rA1 b0 b1 (listV rs))), ⟨#[]⟩) (by rw [seqG_A, h2]; exact congrArg (fun x => some (x, (⟨#[]⟩ : ByteArray))) (set_A a0 a1 b0 b1 (listV rs)))
  rw [← p2] at ht
  exact ⟨fromA_pre (fromA_ok (rA0 0 0) (rA1 0 0 (.fsl true 0 [] (some 0))) (rA0 a0 a1) (rA1 b0 b1 (listV rs)) s ⟨#[65]⟩ p1 ht), rfl, rfl⟩
end Go.L12
end

section
set_option linter.unusedVariables false
set_option maxRecDepth 100000
namespace Go.L12
open Go Go.Abs Go.Abs.AVal Go.Abs.AObj Go.Proofs
def rgoA (q : Int) : Regs := mkR 63 [(3, .ptr 0 3 0 0), (6, .ptr 1 2 0 0), (7, .int .i64 q)]
abbrev hoA (a0 a1 b0 b1 : Int) (nb : Bool) (rs : List (List AVal)) (l : List UInt8) (b : Bool) : AState := [.rows false 3 [(rA1 b0 b1 (.fsl nb 2 rs none))], .rows false 2 [[.slc false 2 1 0 l.length none, .bool b]], .rows true 1 (rowsL l)]
theorem oAr_1 (a0 a1 b0 b1 : Int) (nb : Bool) (rs : List (List AVal)) (l : List UInt8) (b : Bool) (q : Int)
    (h1 : List.length (l ++ got (pS (toStr (List.getD (List.getD rs (Int.toNat q) []) 0 any)))) ≤ 35184372088832)
    (h2 : decide (Int.toNat q < List.length rs) = true)
    (h3 : areKinds [Kind.str] [List.getD (List.getD rs (Int.toNat q) []) 1 any] = true)
    (h4 : decide (0 ≤ q ∧ q < (↑(List.length rs) : Int)) = true)
    (h5 : List.length l ≤ 35184372088832)
    (h6 : areKinds [Kind.str] [List.getD (List.getD rs (Int.toNat q) []) 0 any] = true)
    (h7 : decide (q < (↑(List.length rs) : Int)) = true) :
    TripN Try.prog 0 (loopNo Try.f32 0) (rgoA q) (hoA a0 a1 b0 b1 nb rs l b) (AExit.normal) (mkR 63 [(3, ptr 0 3 0 0), (6, ptr 1 2 0 0), (7, iI (IntKind.wrap IntKind.i64 (q + 1)))]) ([rows false 3 [[iI b0, iI b1, fsl nb 2 rs none]], rows false 2 [[slc false 2 1 0 (List.length (l ++ got (pS (toStr (List.getD (List.getD rs (Int.toNat q) []) 0 any))) ++ got (pS (toStr (List.getD (List.getD rs (Int.toNat q) []) 1 any))))) none, bool (b || Option.isNone (pS (toStr (List.getD (List.getD rs (Int.toNat q) []) 0 any))) || Option.isNone (pS (toStr (List.getD (List.getD rs (Int.toNat q) []) 1 any))))]], rows true 1 (rowsL (l ++ got (pS (toStr (List.getD (List.getD rs (Int.toNat q) []) 0 any))) ++ got (pS (toStr (List.getD (List.getD rs (Int.toNat q) []) 1 any)))))]) :=
  evalT (st := St.mk (rgoA q) (hoA a0 a1 b0 b1 nb rs l b) ([Dec.br true, Dec.use [1, 2] [ptr 0 2 0 0, str (toStr (List.getD (List.getD rs (Int.toNat q) []) 0 any))] [rows false 2 [[slc false 1 1 0 (List.length l) none, bool b]], rows true 1 (rowsL l)] (tuple []) [rows false 2 [[slc false 2 1 0 (List.length (l ++ got (pS (toStr (List.getD (List.getD rs (Int.toNat q) []) 0 any))))) none, bool (b || Option.isNone (pS (toStr (List.getD (List.getD rs (Int.toNat q) []) 0 any))))]], dead, rows true 1 (rowsL (l ++ got (pS (toStr (List.getD (List.getD rs (Int.toNat q) []) 0 any)))))], Dec.use [1, 3] [ptr 0 2 0 0, str (toStr (List.getD (List.getD rs (Int.toNat q) []) 1 any))] [rows false 2 [[slc false 1 1 0 (List.length (l ++ got (pS (toStr (List.getD (List.getD rs (Int.toNat q) []) 0 any))))) none, bool (b || Option.isNone (pS (toStr (List.getD (List.getD rs (Int.toNat q) []) 0 any))))]], rows true 1 (rowsL (l ++ got (pS (toStr (List.getD (List.getD rs (Int.toNat q) []) 0 any)))))] (tuple []) [rows false 2 [[slc false 2 1 0 (List.length (l ++ got (pS (toStr (List.getD (List.getD rs (Int.toNat q) []) 0 any))) ++ got (pS (toStr (List.getD (List.getD rs (Int.toNat q) []) 1 any))))) none, bool (b || Option.isNone (pS (toStr (List.getD (List.getD rs (Int.toNat q) []) 0 any))) || Option.isNone (pS (toStr (List.getD (List.getD rs (Int.toNat q) []) 1 any))))]], dead, rows true 1 (rowsL (l ++ got (pS (toStr (List.getD (List.getD rs (Int.toNat q) []) 0 any))) ++ got (pS (toStr (List.getD (List.getD rs (Int.toNat q) []) 1 any)))))]]) []) (st' := St.mk (mkR 63 [(3, ptr 0 3 0 0), (6, ptr 1 2 0 0), (7, iI (IntKind.wrap IntKind.i64 (q + 1))), (36, iI q), (37, ptr 0 3 0 2), (38, fsl nb 2 rs none), (39, iI (↑(List.length rs) : Int)), (40, tt true), (41, iI q), (42, iI (IntKind.wrap IntKind.i64 (q + 1))), (43, ptr 1 2 0 0), (44, ptr 0 3 0 2), (45, fsl nb 2 rs none), (46, iI q), (47, fptr 2 rs (Int.toNat q) 0), (48, fptr 2 rs (Int.toNat q) 0), (49, str (toStr (List.getD (List.getD rs (Int.toNat q) []) 0 any))), (50, tuple []), (51, ptr 1 2 0 0), (52, ptr 0 3 0 2), (53, fsl nb 2 rs none), (54, iI q), (55, fptr 2 rs (Int.toNat q) 0), (56, fptr 2 rs (Int.toNat q) 1), (57, str (toStr (List.getD (List.getD rs (Int.toNat q) []) 1 any))), (58, tuple [])]) ([rows false 3 [[iI b0, iI b1, fsl nb 2 rs none]], rows false 2 [[slc false 4 1 0 (List.length (l ++ got (pS (toStr (List.getD (List.getD rs (Int.toNat q) []) 0 any))) ++ got (pS (toStr (List.getD (List.getD rs (Int.toNat q) []) 1 any))))) none, bool (b || Option.isNone (pS (toStr (List.getD (List.getD rs (Int.toNat q) []) 0 any))) || Option.isNone (pS (toStr (List.getD (List.getD rs (Int.toNat q) []) 1 any))))]], dead, dead, rows true 1 (rowsL (l ++ got (pS (toStr (List.getD (List.getD rs (Int.toNat q) []) 0 any))) ++ got (pS (toStr (List.getD (List.getD rs (Int.toNat q) []) 1 any)))))]) ([]) ((oU 0 38 [1, 3] [ptr 1 2 0 0, str (toStr (List.getD (List.getD rs (Int.toNat q) []) 1 any))] [rows false 3 [[iI b0, iI b1, fsl nb 2 rs none]], rows false 2 [[slc false 3 1 0 (List.length (l ++ got (pS (toStr (List.getD (List.getD rs (Int.toNat q) []) 0 any))))) none, bool (b || Option.isNone (pS (toStr (List.getD (List.getD rs (Int.toNat q) []) 0 any))))]], dead, rows true 1 (rowsL (l ++ got (pS (toStr (List.getD (List.getD rs (Int.toNat q) []) 0 any)))))] [ptr 0 2 0 0, str (toStr (List.getD (List.getD rs (Int.toNat q) []) 1 any))] [rows false 2 [[slc false 1 1 0 (List.length (l ++ got (pS (toStr (List.getD (List.getD rs (Int.toNat q) []) 0 any))))) none, bool (b || Option.isNone (pS (toStr (List.getD (List.getD rs (Int.toNat q) []) 0 any))))]], rows true 1 (rowsL (l ++ got (pS (toStr (List.getD (List.getD rs (Int.toNat q) []) 0 any)))))] (tuple []) [rows false 2 [[slc false 2 1 0 (List.length (l ++ got (pS (toStr (List.getD (List.getD rs (Int.toNat q) []) 0 any))) ++ got (pS (toStr (List.getD (List.getD rs (Int.toNat q) []) 1 any))))) none, bool (b || Option.isNone (pS (toStr (List.getD (List.getD rs (Int.toNat q) []) 0 any))) || Option.isNone (pS (toStr (List.getD (List.getD rs (Int.toNat q) []) 1 any))))]], dead, rows true 1 (rowsL (l ++ got (pS (toStr (List.getD (List.getD rs (Int.toNat q) []) 0 any))) ++ got (pS (toStr (List.getD (List.getD rs (Int.toNat q) []) 1 any)))))]) :: ((decide (Int.toNat q < List.length rs) = true) :: (tr 1 ++ ((areKinds [Kind.str] [List.getD (List.getD rs (Int.toNat q) []) 1 any] = true) :: ((decide (0 ≤ q ∧ q < (↑(List.length rs) : Int)) = true) :: (tr 2 ++ ((oU 0 38 [1, 2] [ptr 1 2 0 0, str (toStr (List.getD (List.getD rs (Int.toNat q) []) 0 any))] [rows false 3 [[iI b0, iI b1, fsl nb 2 rs none]], rows false 2 [[slc false 2 1 0 (List.length l) none, bool b]], rows true 1 (rowsL l)] [ptr 0 2 0 0, str (toStr (List.getD (List.getD rs (Int.toNat q) []) 0 any))] [rows false 2 [[slc false 1 1 0 (List.length l) none, bool b]], rows true 1 (rowsL l)] (tuple []) [rows false 2 [[slc false 2 1 0 (List.length (l ++ got (pS (toStr (List.getD (List.getD rs (Int.toNat q) []) 0 any))))) none, bool (b || Option.isNone (pS (toStr (List.getD (List.getD rs (Int.toNat q) []) 0 any))))]], dead, rows true 1 (rowsL (l ++ got (pS (toStr (List.getD (List.getD rs (Int.toNat q) []) 0 any)))))]) :: ((decide (Int.toNat q < List.length rs) = true) :: (tr 1 ++ ((areKinds [Kind.str] [List.getD (List.getD rs (Int.toNat q) []) 0 any] = true) :: ((decide (0 ≤ q ∧ q < (↑(List.length rs) : Int)) = true) :: (tr 2 ++ ((decide (q < (↑(List.length rs) : Int)) = true) :: (tr 2 ++ []))))))))))))))) followed (by kernel_rfl) (allP_of ⟨⟨(@Go.L12.otextP (toStr (List.getD (List.getD rs (Int.toNat q) []) 1 any)) (l ++ got (pS (toStr (List.getD (List.getD rs (Int.toNat q) []) 0 any)))) (b || Option.isNone (pS (toStr (List.getD (List.getD rs (Int.toNat q) []) 0 any)))) h1), rfl, rfl, rfl⟩, ⟨h2, (trC 1 ⟨h3, ⟨h4, (trC 2 ⟨⟨(@Go.L12.otextP (toStr (List.getD (List.getD rs (Int.toNat q) []) 0 any)) (l) (b) h5), rfl, rfl, rfl⟩, ⟨h2, (trC 1 ⟨h6, ⟨h4, (trC 2 ⟨h7, (trC 2 trivial)⟩)⟩⟩)⟩⟩)⟩⟩)⟩⟩) (keepM 63 [3, 6, 7]) ([0, 1, 4]) (by kernel_rfl) (by kernel_rfl) (by kernel_rfl)

def oAr_T (a0 a1 b0 b1 : Int) (nb : Bool) (rs : List (List AVal)) (l : List UInt8) (b : Bool) (q : Int) (Q : AExit → Regs → AState → Prop) : Prop := (decide (q < (↑(List.length rs) : Int)) = true) ∧ (decide (0 ≤ q ∧ q < (↑(List.length rs) : Int)) = true) ∧ (areKinds [Kind.str] [List.getD (List.getD rs (Int.toNat q) []) 0 any] = true) ∧ (decide (Int.toNat q < List.length rs) = true) ∧ (List.length l ≤ 35184372088832) ∧ (areKinds [Kind.str] [List.getD (List.getD rs (Int.toNat q) []) 1 any] = true) ∧ (List.length (l ++ got (pS (toStr (List.getD (List.getD rs (Int.toNat q) []) 0 any)))) ≤ 35184372088832) ∧ Q (AExit.normal) (mkR 63 [(3, ptr 0 3 0 0), (6, ptr 1 2 0 0), (7, iI (IntKind.wrap IntKind.i64 (q + 1)))]) ([rows false 3 [[iI b0, iI b1, fsl nb 2 rs none]], rows false 2 [[slc false 2 1 0 (List.length (l ++ got (pS (toStr (List.getD (List.getD rs (Int.toNat q) []) 0 any))) ++ got (pS (toStr (List.getD (List.getD rs (Int.toNat q) []) 1 any))))) none, bool (b || Option.isNone (pS (toStr (List.getD (List.getD rs (Int.toNat q) []) 0 any))) || Option.isNone (pS (toStr (List.getD (List.getD rs (Int.toNat q) []) 1 any))))]], rows true 1 (rowsL (l ++ got (pS (toStr (List.getD (List.getD rs (Int.toNat q) []) 0 any))) ++ got (pS (toStr (List.getD (List.getD rs (Int.toNat q) []) 1 any)))))])
theorem oAr_wp (a0 a1 b0 b1 : Int) (nb : Bool) (rs : List (List AVal)) (l : List UInt8) (b : Bool) (q : Int) {Q : AExit → Regs → AState → Prop} (h : oAr_T a0 a1 b0 b1 nb rs l b q Q) : ∃ e rg' σ', TripN Try.prog 0 (loopNo Try.f32 0) (rgoA q) (hoA a0 a1 b0 b1 nb rs l b) e rg' σ' ∧ Q e rg' σ' :=
  ⟨_, _, _, oAr_1 a0 a1 b0 b1 nb rs l b q (h.2.2.2.2.2.2.1) (h.2.2.2.1) (h.2.2.2.2.2.1) (h.2.1) (h.2.2.2.2.1) (h.2.2.1) (h.1), h.2.2.2.2.2.2.2⟩


theorem oAx_1 (a0 a1 b0 b1 : Int) (nb : Bool) (rs : List (List AVal)) (l : List UInt8) (b : Bool) (q : Int)
    (h1 : decide (q < (↑(List.length rs) : Int)) = false) :
    TripN Try.prog 0 (loopNo Try.f32 0) (rgoA q) (hoA a0 a1 b0 b1 nb rs l b) (AExit.exit 0) (mkR 63 [(3, ptr 0 3 0 0), (6, ptr 1 2 0 0), (7, iI q)]) ([rows false 3 [[iI b0, iI b1, fsl nb 2 rs none]], rows false 2 [[slc false 2 1 0 (List.length l) none, bool b]], rows true 1 (rowsL l)]) :=
  evalT (st := St.mk (rgoA q) (hoA a0 a1 b0 b1 nb rs l b) ([Dec.br false]) []) (st' := St.mk (mkR 63 [(3, ptr 0 3 0 0), (6, ptr 1 2 0 0), (7, iI q), (36, iI q), (37, ptr 0 3 0 2), (38, fsl nb 2 rs none), (39, iI (↑(List.length rs) : Int)), (40, tt false)]) ([rows false 3 [[iI b0, iI b1, fsl nb 2 rs none]], rows false 2 [[slc false 2 1 0 (List.length l) none, bool b]], rows true 1 (rowsL l)]) ([]) ((decide (q < (↑(List.length rs) : Int)) = false) :: (tr 2 ++ []))) followed (by kernel_rfl) (allP_of ⟨h1, (trC 2 trivial)⟩) (keepM 63 [3, 6, 7]) ([0, 1, 2]) (by kernel_rfl) (by kernel_rfl) (by kernel_rfl)

def oAx_T (a0 a1 b0 b1 : Int) (nb : Bool) (rs : List (List AVal)) (l : List UInt8) (b : Bool) (q : Int) (Q : AExit → Regs → AState → Prop) : Prop := (decide (q < (↑(List.length rs) : Int)) = false) ∧ Q (AExit.exit 0) (mkR 63 [(3, ptr 0 3 0 0), (6, ptr 1 2 0 0), (7, iI q)]) ([rows false 3 [[iI b0, iI b1, fsl nb 2 rs none]], rows false 2 [[slc false 2 1 0 (List.length l) none, bool b]], rows true 1 (rowsL l)])
theorem oAx_wp (a0 a1 b0 b1 : Int) (nb : Bool) (rs : List (List AVal)) (l : List UInt8) (b : Bool) (q : Int) {Q : AExit → Regs → AState → Prop} (h : oAx_T a0 a1 b0 b1 nb rs l b q Q) : ∃ e rg' σ', TripN Try.prog 0 (loopNo Try.f32 0) (rgoA q) (hoA a0 a1 b0 b1 nb rs l b) e rg' σ' ∧ Q e rg' σ' :=
  ⟨_, _, _, oAx_1 a0 a1 b0 b1 nb rs l b q (h.1), h.2⟩


end Go.L12
end

section
set_option linter.unusedVariables false
set_option linter.unusedSimpArgs false
set_option maxRecDepth 100000
namespace Go.L12
open Go Go.Abs Go.Proofs
def rowOA (row : List AVal) : List (Option (List UInt8)) := [pS (row.getD 0 .any).toStr, pS (row.getD 1 .any).toStr]
theorem oA_loop (a0 a1 b0 b1 : Int) (nb : Bool) (rs : List (List AVal)) (hr : ∀ q, q < rs.length → rowK 112 rs q) (hm : rs.length ≤ 64) : ∀ (d q : Nat), q + d = rs.length → ∀ (l : List UInt8) (b : Bool), l.length ≤ 30000000000000 + q * 600000 →
    LoopRun Try.prog 0 (loopNo Try.f32 0) (rgoA (q : Nat)) (hoA a0 a1 b0 b1 nb rs l b) (.exit 0) (rgoA (rs.length : Nat)) (hoA a0 a1 b0 b1 nb rs (l ++ ((rs.drop q).flatMap rowOA).flatMap got) (b || ((rs.drop q).flatMap rowOA).any Option.isNone))
  | 0, q, hq, l, b, hl => by
    obtain rfl : q = rs.length := by omega
    rw [List.drop_length]
    simp only [List.flatMap_nil, List.append_nil, List.any_nil, Bool.or_false]
    exact .done (TripN.wp (oAx_wp a0 a1 b0 b1 nb rs l b (rs.length : Nat) ⟨decide_eq_false (by omega), rfl, rfl, rfl⟩)) (by simp)
  | d + 1, q, hq, l, b, hl => by
    have w1 : IntKind.wrap .i64 ((q : Int) + 1) = ((q + 1 : Nat) : Int) := by rw [wrapS (by omega) (by omega)]; omega
    obtain ⟨hi, ⟨d0, e1⟩, hr0⟩ := hr q (by omega)
    obtain ⟨n0, e0⟩ : ∃ d, List.getD (List.getD rs q []) 0 .any = .str d := hr0
    have g1 := got_pS (List.getD (List.getD rs q []) 0 .any).toStr
    have g2 := got_pS (List.getD (List.getD rs q []) 1 .any).toStr
    have ed : rs.drop q = rs.getD q [] :: rs.drop (q + 1) := by
      rw [List.drop_eq_getElem_cons hi, List.getD_eq_getElem?_getD, List.getElem?_eq_getElem hi]; rfl
    have ih := oA_loop a0 a1 b0 b1 nb rs hr hm d (q + 1) (by omega) (l ++ got (pS (List.getD (List.getD rs q []) 0 .any).toStr) ++ got (pS (List.getD (List.getD rs q []) 1 .any).toStr)) (b || (pS (List.getD (List.getD rs q []) 0 .any).toStr).isNone || (pS (List.getD (List.getD rs q []) 1 .any).toStr).isNone) (by rw [List.length_append, List.length_append, Nat.succ_mul]; omega)
    have t : TripN Try.prog 0 (loopNo Try.f32 0) (rgoA (q : Nat)) (hoA a0 a1 b0 b1 nb rs l b) .normal (rgoA ((q + 1 : Nat) : Int)) (hoA a0 a1 b0 b1 nb rs (l ++ got (pS (List.getD (List.getD rs q []) 0 .any).toStr) ++ got (pS (List.getD (List.getD rs q []) 1 .any).toStr)) (b || (pS (List.getD (List.getD rs q []) 0 .any).toStr).isNone || (pS (List.getD (List.getD rs q []) 1 .any).toStr).isNone)) := by
      have hq64 : q * 600000 ≤ 64 * 600000 := Nat.mul_le_mul_right _ (by omega)
      refine TripN.wp (oAr_wp a0 a1 b0 b1 nb rs l b (q : Nat) ?_)
      unfold oAr_T
      rw [w1, Int.toNat_natCast]
      exact ⟨decide_eq_true (by omega), decide_eq_true (by omega), by rw [e0]; rfl, decide_eq_true (by omega), by omega, by rw [e1]; rfl, by rw [List.length_append]; omega, rfl, rfl, rfl⟩
    rw [ed]
    have e3 : l ++ (((rs.getD q [] :: rs.drop (q + 1)).flatMap rowOA).flatMap got) = (l ++ got (pS (List.getD (List.getD rs q []) 0 .any).toStr) ++ got (pS (List.getD (List.getD rs q []) 1 .any).toStr)) ++ ((rs.drop (q + 1)).flatMap rowOA).flatMap got := by
      simp [rowOA, List.append_assoc]
    have e4 : (b || ((rs.getD q [] :: rs.drop (q + 1)).flatMap rowOA).any Option.isNone) = ((b || (pS (List.getD (List.getD rs q []) 0 .any).toStr).isNone || (pS (List.getD (List.getD rs q []) 1 .any).toStr).isNone) || ((rs.drop (q + 1)).flatMap rowOA).any Option.isNone) := by
      simp [rowOA, Bool.or_assoc]
    rw [e3, e4]
    exact .more t ih
end Go.L12
end

section
set_option linter.unusedVariables false
set_option maxRecDepth 100000
namespace Go.L12
open Go Go.Abs Go.Abs.AVal Go.Abs.AObj Go.Proofs
theorem rPutA_1 (a0 a1 b0 b1 : Int) (nb : Bool) (rs : List (List AVal)) (l : List UInt8) (b : Bool) (l2 : List UInt8) (b2 : Bool)
    (h1 : decide ((↑(List.length rs) : Int) > 64) = true) :
    FOk Try.prog 32 ([agg (rA0 a0 a1), agg (rA1 b0 b1 (fsl nb 2 rs none))]) ([]) (tuple [str (ByteArray.mk #[]), iI 1]) ([]) :=
  (evalF_ok followed Try.func32 (by kernel_rfl) (show evalF Try.prog Try.f32 ([agg (rA0 a0 a1), agg (rA1 b0 b1 (fsl nb 2 rs none))]) ([]) ([Dec.br true]) = .ok (FRes.mk (tuple [str (ByteArray.mk #[]), iI 1]) ([rows true 2 [[iI a0, iI a1]], rows false 3 [[iI b0, iI b1, fsl nb 2 rs none]]]) ((decide ((↑(List.length rs) : Int) > 64) = true) :: (tr 2 ++ []))) by kernel_rfl) (allP_of ⟨h1, (trC 2 trivial)⟩)).move ([]) (by kernel_rfl) (by kernel_rfl) (by kernel_rfl)

theorem rPutA_2 (a0 a1 b0 b1 : Int) (nb : Bool) (rs : List (List AVal)) (l : List UInt8) (b : Bool) (l2 : List UInt8) (b2 : Bool)
    (h1 : TripN Try.prog 0 (Code.loop (loopNo Try.f32 0)) (mkR 63 [(3, ptr 0 3 0 0), (6, ptr 1 2 0 0), (7, iI 0)]) [rows false 3 [[iI b0, iI b1, fsl nb 2 rs none]], rows false 2 [[slc false 2 1 0 (List.length (l ++ got (pI a1) ++ got (pI b0) ++ got (pI b1) ++ got (pI (↑(List.length rs) : Int)))) none, bool (b || Option.isNone (pI a1) || Option.isNone (pI b0) || Option.isNone (pI b1) || Option.isNone (pI (↑(List.length rs) : Int)))]], rows true 1 (rowsL (l ++ got (pI a1) ++ got (pI b0) ++ got (pI b1) ++ got (pI (↑(List.length rs) : Int))))] (AExit.exit 0) (mkR 63 [(3, ptr 0 3 0 0), (6, ptr 1 2 0 0), (7, iI (↑(List.length rs) : Int))]) [rows false 3 [[iI b0, iI b1, fsl nb 2 rs none]], rows false 2 [[slc false 2 1 0 (List.length l2) none, bool b2]], rows true 1 (rowsL l2)])
    (h2 : List.length (l ++ got (pI a1) ++ got (pI b0) ++ got (pI b1)) ≤ 35184372088832)
    (h3 : List.length (l ++ got (pI a1) ++ got (pI b0)) ≤ 35184372088832)
    (h4 : List.length (l ++ got (pI a1)) ≤ 35184372088832)
    (h5 : List.length l ≤ 35184372088832)
    (h6 : FOk Try.prog 35 [ptr 0 2 0 0, iI a0] [rows false 2 [[slc false 1 1 0 1 (some 1), tt false]], rows true 1 [[int IntKind.u8 65]]] (tuple []) [rows false 2 [[slc false 2 1 0 (List.length l) none, bool b]], dead, rows true 1 (rowsL l)])
    (h7 : decide ((↑(List.length rs) : Int) > 64) = false) :
    FOk Try.prog 32 ([agg (rA0 a0 a1), agg (rA1 b0 b1 (fsl nb 2 rs none))]) ([]) (tuple [str (endS l2 b2), iI (endE b2)]) ([]) :=
  (evalF_ok followed Try.func32 (by kernel_rfl) (show evalF Try.prog Try.f32 ([agg (rA0 a0 a1), agg (rA1 b0 b1 (fsl nb 2 rs none))]) ([]) ([Dec.br false, Dec.use [3, 2] [ptr 0 2 0 0, iI a0] [rows false 2 [[slc false 1 1 0 1 (some 1), tt false]], rows true 1 [[int IntKind.u8 65]]] (tuple []) [rows false 2 [[slc false 2 1 0 (List.length l) none, bool b]], dead, rows true 1 (rowsL l)], Dec.use [3, 4] [ptr 0 2 0 0, iI a1] [rows false 2 [[slc false 1 1 0 (List.length l) none, bool b]], rows true 1 (rowsL l)] (tuple []) [rows false 2 [[slc false 2 1 0 (List.length (l ++ got (pI a1))) none, bool (b || Option.isNone (pI a1))]], dead, rows true 1 (rowsL (l ++ got (pI a1)))], Dec.use [3, 5] [ptr 0 2 0 0, iI b0] [rows false 2 [[slc false 1 1 0 (List.length (l ++ got (pI a1))) none, bool (b || Option.isNone (pI a1))]], rows true 1 (rowsL (l ++ got (pI a1)))] (tuple []) [rows false 2 [[slc false 2 1 0 (List.length (l ++ got (pI a1) ++ got (pI b0))) none, bool (b || Option.isNone (pI a1) || Option.isNone (pI b0))]], dead, rows true 1 (rowsL (l ++ got (pI a1) ++ got (pI b0)))], Dec.use [3, 6] [ptr 0 2 0 0, iI b1] [rows false 2 [[slc false 1 1 0 (List.length (l ++ got (pI a1) ++ got (pI b0))) none, bool (b || Option.isNone (pI a1) || Option.isNone (pI b0))]], rows true 1 (rowsL (l ++ got (pI a1) ++ got (pI b0)))] (tuple []) [rows false 2 [[slc false 2 1 0 (List.length (l ++ got (pI a1) ++ got (pI b0) ++ got (pI b1))) none, bool (b || Option.isNone (pI a1) || Option.isNone (pI b0) || Option.isNone (pI b1))]], dead, rows true 1 (rowsL (l ++ got (pI a1) ++ got (pI b0) ++ got (pI b1)))], Dec.use [3, 7] [ptr 0 2 0 0, iI (↑(List.length rs) : Int)] [rows false 2 [[slc false 1 1 0 (List.length (l ++ got (pI a1) ++ got (pI b0) ++ got (pI b1))) none, bool (b || Option.isNone (pI a1) || Option.isNone (pI b0) || Option.isNone (pI b1))]], rows true 1 (rowsL (l ++ got (pI a1) ++ got (pI b0) ++ got (pI b1)))] (tuple []) [rows false 2 [[slc false 2 1 0 (List.length (l ++ got (pI a1) ++ got (pI b0) ++ got (pI b1) ++ got (pI (↑(List.length rs) : Int)))) none, bool (b || Option.isNone (pI a1) || Option.isNone (pI b0) || Option.isNone (pI b1) || Option.isNone (pI (↑(List.length rs) : Int)))]], dead, rows true 1 (rowsL (l ++ got (pI a1) ++ got (pI b0) ++ got (pI b1) ++ got (pI (↑(List.length rs) : Int))))], Dec.compact (keepM 63 [3, 6, 7]) [1, 3, 8], Dec.loop (AExit.exit 0) (rgoA (↑(List.length rs) : Int)) (hoA a0 a1 b0 b1 nb rs l2 b2), Dec.use [1, 2] [ptr 0 2 0 0] [rows false 2 [[slc false 1 1 0 (List.length l2) none, bool b2]], rows true 1 (rowsL l2)] (tuple [str (endS l2 b2), iI (endE b2)]) [rows false 2 [[slc false 1 1 0 (List.length l2) none, bool b2]], rows true 1 (rowsL l2)]]) = .ok (FRes.mk (tuple [str (endS l2 b2), iI (endE b2)]) ([rows false 3 [[iI b0, iI b1, fsl nb 2 rs none]], rows false 2 [[slc false 2 1 0 (List.length l2) none, bool b2]], rows true 1 (rowsL l2)]) ((oU 0 39 [1, 2] [ptr 1 2 0 0] [rows false 3 [[iI b0, iI b1, fsl nb 2 rs none]], rows false 2 [[slc false 2 1 0 (List.length l2) none, bool b2]], rows true 1 (rowsL l2)] [ptr 0 2 0 0] [rows false 2 [[slc false 1 1 0 (List.length l2) none, bool b2]], rows true 1 (rowsL l2)] (tuple [str (endS l2 b2), iI (endE b2)]) [rows false 2 [[slc false 1 1 0 (List.length l2) none, bool b2]], rows true 1 (rowsL l2)]) :: ((Owed.loop (owed Try.prog 0) (loopNo Try.f32 0) (mkR 63 [(3, ptr 0 3 0 0), (6, ptr 1 2 0 0), (7, iI 0)]) [rows false 3 [[iI b0, iI b1, fsl nb 2 rs none]], rows false 2 [[slc false 2 1 0 (List.length (l ++ got (pI a1) ++ got (pI b0) ++ got (pI b1) ++ got (pI (↑(List.length rs) : Int)))) none, bool (b || Option.isNone (pI a1) || Option.isNone (pI b0) || Option.isNone (pI b1) || Option.isNone (pI (↑(List.length rs) : Int)))]], rows true 1 (rowsL (l ++ got (pI a1) ++ got (pI b0) ++ got (pI b1) ++ got (pI (↑(List.length rs) : Int))))] (AExit.exit 0) (mkR 63 [(3, ptr 0 3 0 0), (6, ptr 1 2 0 0), (7, iI (↑(List.length rs) : Int))]) [rows false 3 [[iI b0, iI b1, fsl nb 2 rs none]], rows false 2 [[slc false 2 1 0 (List.length l2) none, bool b2]], rows true 1 (rowsL l2)]) :: ((oU 0 35 [3, 7] [ptr 3 2 0 0, iI (↑(List.length rs) : Int)] [rows true 2 [[iI a0, iI a1]], rows false 3 [[iI b0, iI b1, fsl nb 2 rs none]], dead, rows false 2 [[slc false 7 1 0 (List.length (l ++ got (pI a1) ++ got (pI b0) ++ got (pI b1))) none, bool (b || Option.isNone (pI a1) || Option.isNone (pI b0) || Option.isNone (pI b1))]], dead, dead, dead, rows true 1 (rowsL (l ++ got (pI a1) ++ got (pI b0) ++ got (pI b1)))] [ptr 0 2 0 0, iI (↑(List.length rs) : Int)] [rows false 2 [[slc false 1 1 0 (List.length (l ++ got (pI a1) ++ got (pI b0) ++ got (pI b1))) none, bool (b || Option.isNone (pI a1) || Option.isNone (pI b0) || Option.isNone (pI b1))]], rows true 1 (rowsL (l ++ got (pI a1) ++ got (pI b0) ++ got (pI b1)))] (tuple []) [rows false 2 [[slc false 2 1 0 (List.length (l ++ got (pI a1) ++ got (pI b0) ++ got (pI b1) ++ got (pI (↑(List.length rs) : Int)))) none, bool (b || Option.isNone (pI a1) || Option.isNone (pI b0) || Option.isNone (pI b1) || Option.isNone (pI (↑(List.length rs) : Int)))]], dead, rows true 1 (rowsL (l ++ got (pI a1) ++ got (pI b0) ++ got (pI b1) ++ got (pI (↑(List.length rs) : Int))))]) :: (tr 2 ++ ((oU 0 35 [3, 6] [ptr 3 2 0 0, iI b1] [rows true 2 [[iI a0, iI a1]], rows false 3 [[iI b0, iI b1, fsl nb 2 rs none]], dead, rows false 2 [[slc false 6 1 0 (List.length (l ++ got (pI a1) ++ got (pI b0))) none, bool (b || Option.isNone (pI a1) || Option.isNone (pI b0))]], dead, dead, rows true 1 (rowsL (l ++ got (pI a1) ++ got (pI b0)))] [ptr 0 2 0 0, iI b1] [rows false 2 [[slc false 1 1 0 (List.length (l ++ got (pI a1) ++ got (pI b0))) none, bool (b || Option.isNone (pI a1) || Option.isNone (pI b0))]], rows true 1 (rowsL (l ++ got (pI a1) ++ got (pI b0)))] (tuple []) [rows false 2 [[slc false 2 1 0 (List.length (l ++ got (pI a1) ++ got (pI b0) ++ got (pI b1))) none, bool (b || Option.isNone (pI a1) || Option.isNone (pI b0) || Option.isNone (pI b1))]], dead, rows true 1 (rowsL (l ++ got (pI a1) ++ got (pI b0) ++ got (pI b1)))]) :: (tr 2 ++ ((oU 0 35 [3, 5] [ptr 3 2 0 0, iI b0] [rows true 2 [[iI a0, iI a1]], rows false 3 [[iI b0, iI b1, fsl nb 2 rs none]], dead, rows false 2 [[slc false 5 1 0 (List.length (l ++ got (pI a1))) none, bool (b || Option.isNone (pI a1))]], dead, rows true 1 (rowsL (l ++ got (pI a1)))] [ptr 0 2 0 0, iI b0] [rows false 2 [[slc false 1 1 0 (List.length (l ++ got (pI a1))) none, bool (b || Option.isNone (pI a1))]], rows true 1 (rowsL (l ++ got (pI a1)))] (tuple []) [rows false 2 [[slc false 2 1 0 (List.length (l ++ got (pI a1) ++ got (pI b0))) none, bool (b || Option.isNone (pI a1) || Option.isNone (pI b0))]], dead, rows true 1 (rowsL (l ++ got (pI a1) ++ got (pI b0)))]) :: (tr 2 ++ ((oU 0 35 [3, 4] [ptr 3 2 0 0, iI a1] [rows true 2 [[iI a0, iI a1]], rows false 3 [[iI b0, iI b1, fsl nb 2 rs none]], dead, rows false 2 [[slc false 4 1 0 (List.length l) none, bool b]], rows true 1 (rowsL l)] [ptr 0 2 0 0, iI a1] [rows false 2 [[slc false 1 1 0 (List.length l) none, bool b]], rows true 1 (rowsL l)] (tuple []) [rows false 2 [[slc false 2 1 0 (List.length (l ++ got (pI a1))) none, bool (b || Option.isNone (pI a1))]], dead, rows true 1 (rowsL (l ++ got (pI a1)))]) :: (tr 3 ++ ((oU 0 35 [3, 2] [ptr 3 2 0 0, iI a0] [rows true 2 [[iI a0, iI a1]], rows false 3 [[iI b0, iI b1, fsl nb 2 rs none]], rows true 1 [[int IntKind.u8 65]], rows false 2 [[slc false 2 1 0 1 (some 1), tt false]]] [ptr 0 2 0 0, iI a0] [rows false 2 [[slc false 1 1 0 1 (some 1), tt false]], rows true 1 [[int IntKind.u8 65]]] (tuple []) [rows false 2 [[slc false 2 1 0 (List.length l) none, bool b]], dead, rows true 1 (rowsL l)]) :: (tr 3 ++ ((decide ((↑(List.length rs) : Int) > 64) = false) :: (tr 2 ++ []))))))))))))))) by kernel_rfl) (allP_of ⟨⟨(@Go.L12.oendsP (l2) (b2)), rfl, rfl, rfl⟩, ⟨h1, ⟨⟨(@Go.L12.onumP ((↑(List.length rs) : Int)) (l ++ got (pI a1) ++ got (pI b0) ++ got (pI b1)) (b || Option.isNone (pI a1) || Option.isNone (pI b0) || Option.isNone (pI b1)) h2), rfl, rfl, rfl⟩, (trC 2 ⟨⟨(@Go.L12.onumP (b1) (l ++ got (pI a1) ++ got (pI b0)) (b || Option.isNone (pI a1) || Option.isNone (pI b0)) h3), rfl, rfl, rfl⟩, (trC 2 ⟨⟨(@Go.L12.onumP (b0) (l ++ got (pI a1)) (b || Option.isNone (pI a1)) h4), rfl, rfl, rfl⟩, (trC 2 ⟨⟨(@Go.L12.onumP (a1) (l) (b) h5), rfl, rfl, rfl⟩, (trC 3 ⟨⟨h6, rfl, rfl, rfl⟩, (trC 3 ⟨h7, (trC 2 trivial)⟩)⟩)⟩)⟩)⟩)⟩⟩⟩)).move ([]) (by kernel_rfl) (by kernel_rfl) (by kernel_rfl)

def rPutA_T (a0 a1 b0 b1 : Int) (nb : Bool) (rs : List (List AVal)) (l : List UInt8) (b : Bool) (l2 : List UInt8) (b2 : Bool) (Q : AVal → AState → Prop) : Prop := ((decide ((↑(List.length rs) : Int) > 64) = true) → Q (tuple [str (ByteArray.mk #[]), iI 1]) ([])) ∧ ((decide ((↑(List.length rs) : Int) > 64) = false) → (FOk Try.prog 35 [ptr 0 2 0 0, iI a0] [rows false 2 [[slc false 1 1 0 1 (some 1), tt false]], rows true 1 [[int IntKind.u8 65]]] (tuple []) [rows false 2 [[slc false 2 1 0 (List.length l) none, bool b]], dead, rows true 1 (rowsL l)]) ∧ (List.length l ≤ 35184372088832) ∧ (List.length (l ++ got (pI a1)) ≤ 35184372088832) ∧ (List.length (l ++ got (pI a1) ++ got (pI b0)) ≤ 35184372088832) ∧ (List.length (l ++ got (pI a1) ++ got (pI b0) ++ got (pI b1)) ≤ 35184372088832) ∧ (TripN Try.prog 0 (Code.loop (loopNo Try.f32 0)) (mkR 63 [(3, ptr 0 3 0 0), (6, ptr 1 2 0 0), (7, iI 0)]) [rows false 3 [[iI b0, iI b1, fsl nb 2 rs none]], rows false 2 [[slc false 2 1 0 (List.length (l ++ got (pI a1) ++ got (pI b0) ++ got (pI b1) ++ got (pI (↑(List.length rs) : Int)))) none, bool (b || Option.isNone (pI a1) || Option.isNone (pI b0) || Option.isNone (pI b1) || Option.isNone (pI (↑(List.length rs) : Int)))]], rows true 1 (rowsL (l ++ got (pI a1) ++ got (pI b0) ++ got (pI b1) ++ got (pI (↑(List.length rs) : Int))))] (AExit.exit 0) (mkR 63 [(3, ptr 0 3 0 0), (6, ptr 1 2 0 0), (7, iI (↑(List.length rs) : Int))]) [rows false 3 [[iI b0, iI b1, fsl nb 2 rs none]], rows false 2 [[slc false 2 1 0 (List.length l2) none, bool b2]], rows true 1 (rowsL l2)]) ∧ Q (tuple [str (endS l2 b2), iI (endE b2)]) ([]))
theorem rPutA_wp (a0 a1 b0 b1 : Int) (nb : Bool) (rs : List (List AVal)) (l : List UInt8) (b : Bool) (l2 : List UInt8) (b2 : Bool) {Q : AVal → AState → Prop} (h : rPutA_T a0 a1 b0 b1 nb rs l b l2 b2 Q) : ∃ r σ', FOk Try.prog 32 ([agg (rA0 a0 a1), agg (rA1 b0 b1 (fsl nb 2 rs none))]) ([]) r σ' ∧ Q r σ' :=
  brE (fun (c0 : decide ((↑(List.length rs) : Int) > 64) = true) => ⟨_, _, rPutA_1 a0 a1 b0 b1 nb rs l b l2 b2 (c0), (h.1 c0)⟩) (fun (c0 : decide ((↑(List.length rs) : Int) > 64) = false) => ⟨_, _, rPutA_2 a0 a1 b0 b1 nb rs l b l2 b2 ((h.2 c0).2.2.2.2.2.1) ((h.2 c0).2.2.2.2.1) ((h.2 c0).2.2.2.1) ((h.2 c0).2.2.1) ((h.2 c0).2.1) ((h.2 c0).1) (c0), (h.2 c0).2.2.2.2.2.2⟩)


end Go.L12
end

section
set_option linter.unusedVariables false
set_option linter.unusedSimpArgs false
set_option maxRecDepth 100000
namespace Go.L12
open Go Go.Abs Go.Proofs
theorem putR_oA (row : List AVal) : putR 112 row = if (rowOA row).any Option.isNone = true then none else some ((rowOA row).flatMap got) := by
  have e : putR 112 row = match pS (row.getD 0 .any).toStr with | none => none | some a => match pS (row.getD 1 .any).toStr with | none => none | some b => some (a ++ b) := rfl
  rw [e]
  unfold rowOA
  cases pS (row.getD 0 .any).toStr with
  | none => rfl
  | some a =>
    cases pS (row.getD 1 .any).toStr with
    | none => rfl
    | some b => simp
theorem seqL_oA : ∀ (rs : List (List AVal)), seqL (rs.map (putR 112)) = if (rs.flatMap rowOA).any Option.isNone = true then none else some ((rs.flatMap rowOA).flatMap got)
  | [] => rfl
  | row :: rs => by
    simp only [List.map_cons, seqL, putR_oA row, List.flatMap_cons, List.any_append, List.flatMap_append]
    cases h : (rowOA row).any Option.isNone with
    | true => simp
    | false =>
      simp only [Bool.false_eq_true, if_false, Bool.false_or]
      rw [seqL_oA rs]
      cases h2 : (rs.flatMap rowOA).any Option.isNone with
      | true => simp
      | false => simp
theorem pL_oA (rs : List (List AVal)) (hm : rs.length ≤ 64) : (pI (rs.length : Int) = some (vbl rs.length)) ∧ pL 112 rs = if (rs.flatMap rowOA).any Option.isNone = true then none else some (vbl rs.length ++ (rs.flatMap rowOA).flatMap got) := by
  constructor
  · rw [pI_of (decide_eq_true ⟨by omega, by omega⟩), Int.toNat_natCast]
  · unfold pL
    rw [if_pos (show rs.length ≤ mx 112 from hm), seqO_rows, seqL_oA]
    cases h2 : (rs.flatMap rowOA).any Option.isNone with
    | true => simp
    | false => simp
theorem osA (a0 a1 b0 b1 : Int) (rs : List (List AVal)) : putAll TA (vsA a0 a1 b0 b1 (listV rs)) = seqL [pI a0, pI a1, pI b0, pI b1, pL 112 rs] := by
  rw [putAll_L]
  rfl
theorem os_allA (a0 a1 b0 b1 : Int) (rs : List (List AVal)) (hm : rs.length ≤ 64) :
    putAll TA (vsA a0 a1 b0 b1 (listV rs)) = if ([pI a0, pI a1, pI b0, pI b1, pI (rs.length : Int)] ++ rs.flatMap rowOA ++ []).any Option.isNone = true then none else some (([pI a0, pI a1, pI b0, pI b1, pI (rs.length : Int)] ++ rs.flatMap rowOA ++ []).flatMap got) := by
  obtain ⟨e1, e2⟩ := pL_oA rs hm
  rw [osA, seqL_eq, e2]
  simp only [List.any_append, List.any_cons, List.any_nil, List.flatMap_append, List.flatMap_cons, List.flatMap_nil, e1]
  cases h2 : (rs.flatMap rowOA).any Option.isNone with
  | true => simp
  | false => simp [or_assoc]
theorem rputA0 (a0 a1 b0 b1 : Int) (nb : Bool) (rs : List (List AVal)) (hr : ∀ q, q < rs.length → rowK 112 rs q) (hm : rs.length ≤ 64) :
    FOk Try.prog 32 [.agg (rA0 a0 a1), .agg (rA1 b0 b1 (.fsl nb 2 rs none))] [] (.tuple [.str (endS (65 :: ([pI a0, pI a1, pI b0, pI b1, pI (rs.length : Int)] ++ rs.flatMap rowOA ++ []).flatMap got) (([pI a0, pI a1, pI b0, pI b1, pI (rs.length : Int)] ++ rs.flatMap rowOA ++ []).any Option.isNone)), .int .i64 (endE (([pI a0, pI a1, pI b0, pI b1, pI (rs.length : Int)] ++ rs.flatMap rowOA ++ []).any Option.isNone))]) [] := by
  have g0 : (got (pI a0)).length ≤ 300000 := got_pI _
  have g1 : (got (pI a1)).length ≤ 300000 := got_pI _
  have g2 : (got (pI b0)).length ≤ 300000 := got_pI _
  have g3 : (got (pI b1)).length ≤ 300000 := got_pI _
  have g4 : (got (pI (rs.length : Int))).length ≤ 300000 := got_pI _
  have hgo : ∀ (rs : List (List AVal)), ((rs.flatMap rowOA).flatMap got).length ≤ rs.length * 600000 := fun rs => by
    induction rs with
    | nil => simp
    | cons row rs ih =>
      have h1 : (got (pS (row.getD 0 .any).toStr)).length ≤ 300000 := got_pS _
      have h2 := got_pS (row.getD 1 .any).toStr
      have e : (((row :: rs).flatMap rowOA).flatMap got) = got (pS (row.getD 0 .any).toStr) ++ (got (pS (row.getD 1 .any).toStr) ++ (rs.flatMap rowOA).flatMap got) := by simp [rowOA]
      rw [e, List.length_append, List.length_append, List.length_cons, Nat.succ_mul]; omega
  have hg := hgo rs
  have hg64 : rs.length * 600000 ≤ 64 * 600000 := Nat.mul_le_mul_right _ hm
  refine FOk.wp (rPutA_wp a0 a1 b0 b1 nb rs ([65] ++ got (pI a0)) (pI a0).isNone ((([65] ++ got (pI a0)) ++ got (pI a1) ++ got (pI b0) ++ got (pI b1) ++ got (pI (rs.length : Int))) ++ (rs.flatMap rowOA).flatMap got) (((pI a0).isNone || (pI a1).isNone || (pI b0).isNone || (pI b1).isNone || (pI (rs.length : Int)).isNone) || (rs.flatMap rowOA).any Option.isNone) ?_)
  unfold rPutA_T
  have hl : (([65] ++ got (pI a0)) ++ got (pI a1) ++ got (pI b0) ++ got (pI b1) ++ got (pI (rs.length : Int))).length ≤ 30000000000000 + 0 * 600000 := by simp only [List.length_append, List.length_cons, List.length_nil]; omega
  have lp := (oA_loop a0 a1 b0 b1 nb rs hr (by omega) rs.length 0 (by omega) (([65] ++ got (pI a0)) ++ got (pI a1) ++ got (pI b0) ++ got (pI b1) ++ got (pI (rs.length : Int))) ((pI a0).isNone || (pI a1).isNone || (pI b0).isNone || (pI b1).isNone || (pI (rs.length : Int)).isNone) hl).trip
  rw [List.drop_zero] at lp
  refine ⟨fun c => absurd (of_decide_eq_true c) (by omega), fun _ => ⟨onum0A a0, ?_⟩⟩
  repeat (refine ⟨by simp only [List.length_append, List.length_cons, List.length_nil]; omega, ?_⟩)
  refine ⟨lp, ?_⟩
  repeat (refine ⟨by simp only [List.length_append, List.length_cons, List.length_nil]; omega, ?_⟩)
  refine ⟨?_, rfl⟩
  congr 2
  · congr 2 <;> simp [pB, List.append_assoc, Bool.or_assoc]
  · congr 3; simp [pB, Bool.or_assoc]
theorem rputA_ok (a0 a1 b0 b1 : Int) (nb : Bool) (rs : List (List AVal)) (hr : ∀ q, q < rs.length → rowK 112 rs q) (b : List UInt8) (h : putAll TA (vsA a0 a1 b0 b1 (listV rs)) = some b) : FOk Try.prog 32 [.agg (rA0 a0 a1), .agg (rA1 b0 b1 (.fsl nb 2 rs none))] [] (.tuple [.str (bS (65 :: b)), .int .i64 0]) [] := by
  by_cases hm : rs.length ≤ 64
  · have key := rputA0 a0 a1 b0 b1 nb rs hr hm
    rw [os_allA a0 a1 b0 b1 rs hm] at h
    cases ha : ([pI a0, pI a1, pI b0, pI b1, pI (rs.length : Int)] ++ rs.flatMap rowOA ++ []).any Option.isNone with
    | true => rw [if_pos ha] at h; cases h
    | false =>
      rw [if_neg (by rw [ha]; simp)] at h
      cases h
      rw [ha] at key
      exact key
  · rw [osA, seqL_eq, show pL 112 rs = none from by unfold pL; rw [if_neg (show ¬ rs.length ≤ mx 112 from hm)]] at h
    rw [if_pos (by simp)] at h
    cases h
theorem rputA_no (a0 a1 b0 b1 : Int) (nb : Bool) (rs : List (List AVal)) (hr : ∀ q, q < rs.length → rowK 112 rs q) (h : putAll TA (vsA a0 a1 b0 b1 (listV rs)) = none) : FOk Try.prog 32 [.agg (rA0 a0 a1), .agg (rA1 b0 b1 (.fsl nb 2 rs none))] [] (.tuple [.str ⟨#[]⟩, .int .i64 1]) [] := by
  by_cases hm : rs.length ≤ 64
  · have key := rputA0 a0 a1 b0 b1 nb rs hr hm
    rw [os_allA a0 a1 b0 b1 rs hm] at h
    cases ha : ([pI a0, pI a1, pI b0, pI b1, pI (rs.length : Int)] ++ rs.flatMap rowOA ++ []).any Option.isNone with
    | true => rw [ha] at key; exact key
    | false => rw [if_neg (by rw [ha]; simp)] at h; cases h
  · refine FOk.wp (rPutA_wp a0 a1 b0 b1 nb rs [] false [] false ?_)
    unfold rPutA_T
    exact ⟨fun _ => ⟨rfl, rfl⟩, fun c => absurd (of_decide_eq_false c) (by omega)⟩
end Go.L12
end

section
set_option linter.unusedVariables false
set_option maxRecDepth 100000
namespace Go.L12
open Go Go.Abs Go.Abs.AVal Go.Abs.AObj Go.Proofs
def rgse (nb nb2 : Bool) (rs : List (List AVal)) (q : Int) : Regs := mkR 26 [(0, .fsl nb 2 rs none), (1, .fsl nb2 2 rs none), (5, .int .i64 q)]
theorem sePr_1 (nb nb2 : Bool) (rs : List (List AVal)) (q : Int)
    (h1 : (!(fun r => ByteArray.toList (toStr (List.getD (List.getD rs (Int.toNat q) []) 0 any)) == ByteArray.toList (toStr (List.getD (List.getD rs (Int.toNat q) []) 0 any)) && r) ((fun r => ByteArray.toList (toStr (List.getD (List.getD rs (Int.toNat q) []) 1 any)) == ByteArray.toList (toStr (List.getD (List.getD rs (Int.toNat q) []) 1 any)) && r) true)) = true)
    (h2 : decide (Int.toNat q < List.length rs) = true)
    (h3 : areKinds [Kind.str, Kind.str] [List.getD (List.getD rs (Int.toNat q) []) 0 any, List.getD (List.getD rs (Int.toNat q) []) 1 any] = true)
    (h4 : decide (0 ≤ q ∧ q < (↑(List.length rs) : Int)) = true)
    (h5 : decide (q < (↑(List.length rs) : Int)) = true) :
    TripN Try.prog 0 (loopNo Try.f62 0) (rgse nb nb2 rs q) ([]) (AExit.ret) (mkR 26 [(4, tt false)]) ([]) :=
  evalT (st := St.mk (rgse nb nb2 rs q) ([]) ([Dec.br true, Dec.br true]) []) (st' := St.mk (mkR 26 [(0, fsl nb 2 rs none), (1, fsl nb2 2 rs none), (4, tt false), (5, iI q), (11, iI q), (12, fsl nb 2 rs none), (13, iI (↑(List.length rs) : Int)), (14, tt true), (17, fsl nb 2 rs none), (18, iI q), (19, fptr 2 rs (Int.toNat q) 0), (20, agg [str (toStr (List.getD (List.getD rs (Int.toNat q) []) 0 any)), str (toStr (List.getD (List.getD rs (Int.toNat q) []) 1 any))]), (21, fsl nb2 2 rs none), (22, iI q), (23, fptr 2 rs (Int.toNat q) 0), (24, agg [str (toStr (List.getD (List.getD rs (Int.toNat q) []) 0 any)), str (toStr (List.getD (List.getD rs (Int.toNat q) []) 1 any))]), (25, tt true)]) ([]) ([]) (((!(fun r => ByteArray.toList (toStr (List.getD (List.getD rs (Int.toNat q) []) 0 any)) == ByteArray.toList (toStr (List.getD (List.getD rs (Int.toNat q) []) 0 any)) && r) ((fun r => ByteArray.toList (toStr (List.getD (List.getD rs (Int.toNat q) []) 1 any)) == ByteArray.toList (toStr (List.getD (List.getD rs (Int.toNat q) []) 1 any)) && r) true)) = true) :: (tr 4 ++ ((decide (Int.toNat q < List.length rs) = true) :: (tr 1 ++ ((areKinds [Kind.str, Kind.str] [List.getD (List.getD rs (Int.toNat q) []) 0 any, List.getD (List.getD rs (Int.toNat q) []) 1 any] = true) :: (tr 2 ++ ((decide (0 ≤ q ∧ q < (↑(List.length rs) : Int)) = true) :: (tr 6 ++ ((decide (Int.toNat q < List.length rs) = true) :: (tr 1 ++ ((areKinds [Kind.str, Kind.str] [List.getD (List.getD rs (Int.toNat q) []) 0 any, List.getD (List.getD rs (Int.toNat q) []) 1 any] = true) :: (tr 2 ++ ((decide (0 ≤ q ∧ q < (↑(List.length rs) : Int)) = true) :: (tr 5 ++ ((decide (q < (↑(List.length rs) : Int)) = true) :: [])))))))))))))))) followed (by kernel_rfl) (allP_of ⟨h1, (trC 4 ⟨h2, (trC 1 ⟨h3, (trC 2 ⟨h4, (trC 6 ⟨h2, (trC 1 ⟨h3, (trC 2 ⟨h4, (trC 5 ⟨h5, trivial⟩)⟩)⟩)⟩)⟩)⟩)⟩)⟩) (keepM 26 [4]) ([]) (by kernel_rfl) (by kernel_rfl) (by kernel_rfl)

theorem sePr_2 (nb nb2 : Bool) (rs : List (List AVal)) (q : Int)
    (h1 : (!(fun r => ByteArray.toList (toStr (List.getD (List.getD rs (Int.toNat q) []) 0 any)) == ByteArray.toList (toStr (List.getD (List.getD rs (Int.toNat q) []) 0 any)) && r) ((fun r => ByteArray.toList (toStr (List.getD (List.getD rs (Int.toNat q) []) 1 any)) == ByteArray.toList (toStr (List.getD (List.getD rs (Int.toNat q) []) 1 any)) && r) true)) = false)
    (h2 : decide (Int.toNat q < List.length rs) = true)
    (h3 : areKinds [Kind.str, Kind.str] [List.getD (List.getD rs (Int.toNat q) []) 0 any, List.getD (List.getD rs (Int.toNat q) []) 1 any] = true)
    (h4 : decide (0 ≤ q ∧ q < (↑(List.length rs) : Int)) = true)
    (h5 : decide (q < (↑(List.length rs) : Int)) = true) :
    TripN Try.prog 0 (loopNo Try.f62 0) (rgse nb nb2 rs q) ([]) (AExit.normal) (mkR 26 [(0, fsl nb 2 rs none), (1, fsl nb2 2 rs none), (5, iI (IntKind.wrap IntKind.i64 (q + 1)))]) ([]) :=
  evalT (st := St.mk (rgse nb nb2 rs q) ([]) ([Dec.br true, Dec.br false]) []) (st' := St.mk (mkR 26 [(0, fsl nb 2 rs none), (1, fsl nb2 2 rs none), (5, iI (IntKind.wrap IntKind.i64 (q + 1))), (11, iI q), (12, fsl nb 2 rs none), (13, iI (↑(List.length rs) : Int)), (14, tt true), (15, iI q), (16, iI (IntKind.wrap IntKind.i64 (q + 1))), (17, fsl nb 2 rs none), (18, iI q), (19, fptr 2 rs (Int.toNat q) 0), (20, agg [str (toStr (List.getD (List.getD rs (Int.toNat q) []) 0 any)), str (toStr (List.getD (List.getD rs (Int.toNat q) []) 1 any))]), (21, fsl nb2 2 rs none), (22, iI q), (23, fptr 2 rs (Int.toNat q) 0), (24, agg [str (toStr (List.getD (List.getD rs (Int.toNat q) []) 0 any)), str (toStr (List.getD (List.getD rs (Int.toNat q) []) 1 any))]), (25, tt false)]) ([]) ([]) (((!(fun r => ByteArray.toList (toStr (List.getD (List.getD rs (Int.toNat q) []) 0 any)) == ByteArray.toList (toStr (List.getD (List.getD rs (Int.toNat q) []) 0 any)) && r) ((fun r => ByteArray.toList (toStr (List.getD (List.getD rs (Int.toNat q) []) 1 any)) == ByteArray.toList (toStr (List.getD (List.getD rs (Int.toNat q) []) 1 any)) && r) true)) = false) :: (tr 4 ++ ((decide (Int.toNat q < List.length rs) = true) :: (tr 1 ++ ((areKinds [Kind.str, Kind.str] [List.getD (List.getD rs (Int.toNat q) []) 0 any, List.getD (List.getD rs (Int.toNat q) []) 1 any] = true) :: (tr 2 ++ ((decide (0 ≤ q ∧ q < (↑(List.length rs) : Int)) = true) :: (tr 6 ++ ((decide (Int.toNat q < List.length rs) = true) :: (tr 1 ++ ((areKinds [Kind.str, Kind.str] [List.getD (List.getD rs (Int.toNat q) []) 0 any, List.getD (List.getD rs (Int.toNat q) []) 1 any] = true) :: (tr 2 ++ ((decide (0 ≤ q ∧ q < (↑(List.length rs) : Int)) = true) :: (tr 5 ++ ((decide (q < (↑(List.length rs) : Int)) = true) :: [])))))))))))))))) followed (by kernel_rfl) (allP_of ⟨h1, (trC 4 ⟨h2, (trC 1 ⟨h3, (trC 2 ⟨h4, (trC 6 ⟨h2, (trC 1 ⟨h3, (trC 2 ⟨h4, (trC 5 ⟨h5, trivial⟩)⟩)⟩)⟩)⟩)⟩)⟩)⟩) (keepM 26 [0, 1, 5]) ([]) (by kernel_rfl) (by kernel_rfl) (by kernel_rfl)

def sePr_T (nb nb2 : Bool) (rs : List (List AVal)) (q : Int) (Q : AExit → Regs → AState → Prop) : Prop := (decide (q < (↑(List.length rs) : Int)) = true) ∧ (decide (0 ≤ q ∧ q < (↑(List.length rs) : Int)) = true) ∧ (areKinds [Kind.str, Kind.str] [List.getD (List.getD rs (Int.toNat q) []) 0 any, List.getD (List.getD rs (Int.toNat q) []) 1 any] = true) ∧ (decide (Int.toNat q < List.length rs) = true) ∧ (((!(fun r => ByteArray.toList (toStr (List.getD (List.getD rs (Int.toNat q) []) 0 any)) == ByteArray.toList (toStr (List.getD (List.getD rs (Int.toNat q) []) 0 any)) && r) ((fun r => ByteArray.toList (toStr (List.getD (List.getD rs (Int.toNat q) []) 1 any)) == ByteArray.toList (toStr (List.getD (List.getD rs (Int.toNat q) []) 1 any)) && r) true)) = true) → Q (AExit.ret) (mkR 26 [(4, tt false)]) ([])) ∧ (((!(fun r => ByteArray.toList (toStr (List.getD (List.getD rs (Int.toNat q) []) 0 any)) == ByteArray.toList (toStr (List.getD (List.getD rs (Int.toNat q) []) 0 any)) && r) ((fun r => ByteArray.toList (toStr (List.getD (List.getD rs (Int.toNat q) []) 1 any)) == ByteArray.toList (toStr (List.getD (List.getD rs (Int.toNat q) []) 1 any)) && r) true)) = false) → Q (AExit.normal) (mkR 26 [(0, fsl nb 2 rs none), (1, fsl nb2 2 rs none), (5, iI (IntKind.wrap IntKind.i64 (q + 1)))]) ([]))
theorem sePr_wp (nb nb2 : Bool) (rs : List (List AVal)) (q : Int) {Q : AExit → Regs → AState → Prop} (h : sePr_T nb nb2 rs q Q) : ∃ e rg' σ', TripN Try.prog 0 (loopNo Try.f62 0) (rgse nb nb2 rs q) ([]) e rg' σ' ∧ Q e rg' σ' :=
  brE (fun (c0 : (!(fun r => ByteArray.toList (toStr (List.getD (List.getD rs (Int.toNat q) []) 0 any)) == ByteArray.toList (toStr (List.getD (List.getD rs (Int.toNat q) []) 0 any)) && r) ((fun r => ByteArray.toList (toStr (List.getD (List.getD rs (Int.toNat q) []) 1 any)) == ByteArray.toList (toStr (List.getD (List.getD rs (Int.toNat q) []) 1 any)) && r) true)) = true) => ⟨_, _, _, sePr_1 nb nb2 rs q (c0) (h.2.2.2.1) (h.2.2.1) (h.2.1) (h.1), (h.2.2.2.2.1 c0)⟩) (fun (c0 : (!(fun r => ByteArray.toList (toStr (List.getD (List.getD rs (Int.toNat q) []) 0 any)) == ByteArray.toList (toStr (List.getD (List.getD rs (Int.toNat q) []) 0 any)) && r) ((fun r => ByteArray.toList (toStr (List.getD (List.getD rs (Int.toNat q) []) 1 any)) == ByteArray.toList (toStr (List.getD (List.getD rs (Int.toNat q) []) 1 any)) && r) true)) = false) => ⟨_, _, _, sePr_2 nb nb2 rs q (c0) (h.2.2.2.1) (h.2.2.1) (h.2.1) (h.1), (h.2.2.2.2.2 c0)⟩)


theorem sePx_1 (nb nb2 : Bool) (rs : List (List AVal)) (q : Int)
    (h1 : decide (q < (↑(List.length rs) : Int)) = false) :
    TripN Try.prog 0 (loopNo Try.f62 0) (rgse nb nb2 rs q) ([]) (AExit.exit 0) (mkR 26 [(0, fsl nb 2 rs none), (1, fsl nb2 2 rs none), (5, iI q)]) ([]) :=
  evalT (st := St.mk (rgse nb nb2 rs q) ([]) ([Dec.br false]) []) (st' := St.mk (mkR 26 [(0, fsl nb 2 rs none), (1, fsl nb2 2 rs none), (5, iI q), (11, iI q), (12, fsl nb 2 rs none), (13, iI (↑(List.length rs) : Int)), (14, tt false)]) ([]) ([]) ((decide (q < (↑(List.length rs) : Int)) = false) :: [])) followed (by kernel_rfl) (allP_of ⟨h1, trivial⟩) (keepM 26 [0, 1, 5]) ([]) (by kernel_rfl) (by kernel_rfl) (by kernel_rfl)

def sePx_T (nb nb2 : Bool) (rs : List (List AVal)) (q : Int) (Q : AExit → Regs → AState → Prop) : Prop := (decide (q < (↑(List.length rs) : Int)) = false) ∧ Q (AExit.exit 0) (mkR 26 [(0, fsl nb 2 rs none), (1, fsl nb2 2 rs none), (5, iI q)]) ([])
theorem sePx_wp (nb nb2 : Bool) (rs : List (List AVal)) (q : Int) {Q : AExit → Regs → AState → Prop} (h : sePx_T nb nb2 rs q Q) : ∃ e rg' σ', TripN Try.prog 0 (loopNo Try.f62 0) (rgse nb nb2 rs q) ([]) e rg' σ' ∧ Q e rg' σ' :=
  ⟨_, _, _, sePx_1 nb nb2 rs q (h.1), h.2⟩


theorem seP_1 (nb nb2 : Bool) (rs : List (List AVal))
    (h1 : ((↑(List.length rs) : Int) != (↑(List.length rs) : Int)) = true) :
    FOk Try.prog 62 ([fsl nb 2 rs none, fsl nb2 2 rs none]) ([]) (bool false) ([]) :=
  (evalF_ok followed Try.func62 (by kernel_rfl) (show evalF Try.prog Try.f62 ([fsl nb 2 rs none, fsl nb2 2 rs none]) ([]) ([Dec.br true]) = .ok (FRes.mk (bool false) ([]) ((((↑(List.length rs) : Int) != (↑(List.length rs) : Int)) = true) :: [])) by kernel_rfl) (allP_of ⟨h1, trivial⟩)).move ([]) (by kernel_rfl) (by kernel_rfl) (by kernel_rfl)

theorem seP_2 (nb nb2 : Bool) (rs : List (List AVal))
    (h1 : TripN Try.prog 0 (Code.loop (loopNo Try.f62 0)) (mkR 26 [(0, fsl nb 2 rs none), (1, fsl nb2 2 rs none), (5, iI 0)]) [] (AExit.exit 0) (mkR 26 [(0, fsl nb 2 rs none), (1, fsl nb2 2 rs none), (5, iI (↑(List.length rs) : Int))]) [])
    (h2 : ((↑(List.length rs) : Int) != (↑(List.length rs) : Int)) = false) :
    FOk Try.prog 62 ([fsl nb 2 rs none, fsl nb2 2 rs none]) ([]) (bool true) ([]) :=
  (evalF_ok followed Try.func62 (by kernel_rfl) (show evalF Try.prog Try.f62 ([fsl nb 2 rs none, fsl nb2 2 rs none]) ([]) ([Dec.br false, Dec.compact (keepM 26 [0, 1, 5]) [], Dec.loop (AExit.exit 0) (rgse nb nb2 rs (↑(List.length rs) : Int)) []]) = .ok (FRes.mk (bool true) ([]) ((Owed.loop (owed Try.prog 0) (loopNo Try.f62 0) (mkR 26 [(0, fsl nb 2 rs none), (1, fsl nb2 2 rs none), (5, iI 0)]) [] (AExit.exit 0) (mkR 26 [(0, fsl nb 2 rs none), (1, fsl nb2 2 rs none), (5, iI (↑(List.length rs) : Int))]) []) :: ((((↑(List.length rs) : Int) != (↑(List.length rs) : Int)) = false) :: []))) by kernel_rfl) (allP_of ⟨h1, ⟨h2, trivial⟩⟩)).move ([]) (by kernel_rfl) (by kernel_rfl) (by kernel_rfl)

def seP_T (nb nb2 : Bool) (rs : List (List AVal)) (Q : AVal → AState → Prop) : Prop := ((((↑(List.length rs) : Int) != (↑(List.length rs) : Int)) = true) → Q (bool false) ([])) ∧ ((((↑(List.length rs) : Int) != (↑(List.length rs) : Int)) = false) → (TripN Try.prog 0 (Code.loop (loopNo Try.f62 0)) (mkR 26 [(0, fsl nb 2 rs none), (1, fsl nb2 2 rs none), (5, iI 0)]) [] (AExit.exit 0) (mkR 26 [(0, fsl nb 2 rs none), (1, fsl nb2 2 rs none), (5, iI (↑(List.length rs) : Int))]) []) ∧ Q (bool true) ([]))
theorem seP_wp (nb nb2 : Bool) (rs : List (List AVal)) {Q : AVal → AState → Prop} (h : seP_T nb nb2 rs Q) : ∃ r σ', FOk Try.prog 62 ([fsl nb 2 rs none, fsl nb2 2 rs none]) ([]) r σ' ∧ Q r σ' :=
  brE (fun (c0 : ((↑(List.length rs) : Int) != (↑(List.length rs) : Int)) = true) => ⟨_, _, seP_1 nb nb2 rs (c0), (h.1 c0)⟩) (fun (c0 : ((↑(List.length rs) : Int) != (↑(List.length rs) : Int)) = false) => ⟨_, _, seP_2 nb nb2 rs ((h.2 c0).1) (c0), (h.2 c0).2⟩)


end Go.L12
end

section
set_option linter.unusedVariables false
set_option linter.unusedSimpArgs false
set_option maxRecDepth 100000
namespace Go.L12
open Go Go.Abs Go.Proofs
def tyK (t : Nat) (rs : List (List AVal)) : Prop := ∀ q, q < rs.length → (∃ d, List.getD (List.getD rs q []) 1 .any = .str d) ∧ if t = 111 then ∃ n, List.getD (List.getD rs q []) 0 .any = .int .i64 n else ∃ d, List.getD (List.getD rs q []) 0 .any = .str d
theorem sameP_loop (nb nb2 : Bool) (rs : List (List AVal)) (hr : tyK 112 rs) (hz : rs.length < 4611686018427387904) : ∀ (d q : Nat), q + d = rs.length →
    LoopRun Try.prog 0 (loopNo Try.f62 0) (rgse nb nb2 rs (q : Nat)) [] (.exit 0) (rgse nb nb2 rs (rs.length : Nat)) []
  | 0, q, hq => by
    obtain rfl : q = rs.length := by omega
    exact .done (TripN.wp (sePx_wp nb nb2 rs (rs.length : Nat) ⟨decide_eq_false (by omega), rfl, rfl, rfl⟩)) (by simp)
  | d + 1, q, hq => by
    have w1 : IntKind.wrap .i64 ((q : Int) + 1) = ((q + 1 : Nat) : Int) := by rw [wrapS (by omega) (by omega)]; omega
    obtain ⟨⟨d0, e1⟩, h0⟩ := hr q (by omega)
    obtain ⟨n0, e0⟩ : ∃ n, List.getD (List.getD rs q []) 0 .any = .str n := h0
    refine .more ?_ (sameP_loop nb nb2 rs hr hz d (q + 1) (by omega))
    refine TripN.wp (sePr_wp nb nb2 rs (q : Nat) ?_)
    unfold sePr_T
    rw [w1, Int.toNat_natCast, e0, e1]
    exact ⟨decide_eq_true (by omega), decide_eq_true (by omega), rfl, decide_eq_true (by omega), fun c => absurd c (by simp), fun _ => ⟨rfl, rfl, rfl⟩⟩
theorem sameP_ok (nb nb2 : Bool) (rs : List (List AVal)) (hr : tyK 112 rs) (hz : rs.length < 4611686018427387904) : FOk Try.prog 62 [.fsl nb 2 rs none, .fsl nb2 2 rs none] [] (.bool true) [] := by
  refine FOk.wp (seP_wp nb nb2 rs ?_)
  unfold seP_T
  exact ⟨fun c => absurd c (by simp), fun _ => ⟨(sameP_loop nb nb2 rs hr hz rs.length 0 (by omega)).trip, rfl, rfl⟩⟩
end Go.L12
end

section
set_option linter.unusedVariables false
set_option maxRecDepth 100000
namespace Go.L12
open Go Go.Abs Go.Abs.AVal Go.Abs.AObj Go.Proofs
theorem smN_1 (b0 b1 : Int) (nb nb2 : Bool) (rs : List (List AVal))
    (h1 : tyK 112 rs)
    (h2 : List.length rs < 4611686018427387904)
    (h3 : (b1 == b1) = true)
    (h4 : (b0 == b0) = true) :
    FOk Try.prog 51 ([agg (rA1 b0 b1 (fsl nb 2 rs none)), agg (rA1 b0 b1 (fsl nb2 2 rs none))]) ([]) (bool true) ([]) :=
  (evalF_ok followed Try.func51 (by kernel_rfl) (show evalF Try.prog Try.f51 ([agg (rA1 b0 b1 (fsl nb 2 rs none)), agg (rA1 b0 b1 (fsl nb2 2 rs none))]) ([]) ([Dec.br true, Dec.br true, Dec.use [] [fsl nb 2 rs none, fsl nb2 2 rs none] [] (bool true) []]) = .ok (FRes.mk (bool true) ([rows false 3 [[iI b0, iI b1, fsl nb 2 rs none]], rows false 3 [[iI b0, iI b1, fsl nb2 2 rs none]]]) ((oU 0 62 [] [fsl nb 2 rs none, fsl nb2 2 rs none] [rows false 3 [[iI b0, iI b1, fsl nb 2 rs none]], rows false 3 [[iI b0, iI b1, fsl nb2 2 rs none]]] [fsl nb 2 rs none, fsl nb2 2 rs none] [] (bool true) []) :: (tr 4 ++ (((b1 == b1) = true) :: (tr 4 ++ (((b0 == b0) = true) :: (tr 4 ++ []))))))) by kernel_rfl) (allP_of ⟨⟨(@Go.L12.sameP_ok (nb) (nb2) (rs) h1 h2), rfl, rfl, rfl⟩, (trC 4 ⟨h3, (trC 4 ⟨h4, (trC 4 trivial)⟩)⟩)⟩)).move ([]) (by kernel_rfl) (by kernel_rfl) (by kernel_rfl)

theorem smN_2 (b0 b1 : Int) (nb nb2 : Bool) (rs : List (List AVal))
    (h1 : (b1 == b1) = false)
    (h2 : (b0 == b0) = true) :
    FOk Try.prog 51 ([agg (rA1 b0 b1 (fsl nb 2 rs none)), agg (rA1 b0 b1 (fsl nb2 2 rs none))]) ([]) (bool false) ([]) :=
  (evalF_ok followed Try.func51 (by kernel_rfl) (show evalF Try.prog Try.f51 ([agg (rA1 b0 b1 (fsl nb 2 rs none)), agg (rA1 b0 b1 (fsl nb2 2 rs none))]) ([]) ([Dec.br true, Dec.br false]) = .ok (FRes.mk (bool false) ([rows false 3 [[iI b0, iI b1, fsl nb 2 rs none]], rows false 3 [[iI b0, iI b1, fsl nb2 2 rs none]]]) (((b1 == b1) = false) :: (tr 4 ++ (((b0 == b0) = true) :: (tr 4 ++ []))))) by kernel_rfl) (allP_of ⟨h1, (trC 4 ⟨h2, (trC 4 trivial)⟩)⟩)).move ([]) (by kernel_rfl) (by kernel_rfl) (by kernel_rfl)

theorem smN_3 (b0 b1 : Int) (nb nb2 : Bool) (rs : List (List AVal))
    (h1 : (b0 == b0) = false) :
    FOk Try.prog 51 ([agg (rA1 b0 b1 (fsl nb 2 rs none)), agg (rA1 b0 b1 (fsl nb2 2 rs none))]) ([]) (bool false) ([]) :=
  (evalF_ok followed Try.func51 (by kernel_rfl) (show evalF Try.prog Try.f51 ([agg (rA1 b0 b1 (fsl nb 2 rs none)), agg (rA1 b0 b1 (fsl nb2 2 rs none))]) ([]) ([Dec.br false]) = .ok (FRes.mk (bool false) ([rows false 3 [[iI b0, iI b1, fsl nb 2 rs none]], rows false 3 [[iI b0, iI b1, fsl nb2 2 rs none]]]) (((b0 == b0) = false) :: (tr 4 ++ []))) by kernel_rfl) (allP_of ⟨h1, (trC 4 trivial)⟩)).move ([]) (by kernel_rfl) (by kernel_rfl) (by kernel_rfl)

def smN_T (b0 b1 : Int) (nb nb2 : Bool) (rs : List (List AVal)) (Q : AVal → AState → Prop) : Prop := (((b0 == b0) = true) → (((b1 == b1) = true) → (tyK 112 rs) ∧ (List.length rs < 4611686018427387904) ∧ Q (bool true) ([])) ∧ (((b1 == b1) = false) → Q (bool false) ([]))) ∧ (((b0 == b0) = false) → Q (bool false) ([]))
theorem smN_wp (b0 b1 : Int) (nb nb2 : Bool) (rs : List (List AVal)) {Q : AVal → AState → Prop} (h : smN_T b0 b1 nb nb2 rs Q) : ∃ r σ', FOk Try.prog 51 ([agg (rA1 b0 b1 (fsl nb 2 rs none)), agg (rA1 b0 b1 (fsl nb2 2 rs none))]) ([]) r σ' ∧ Q r σ' :=
  brE (fun (c0 : (b0 == b0) = true) => brE (fun (c1 : (b1 == b1) = true) => ⟨_, _, smN_1 b0 b1 nb nb2 rs (((h.1 c0).1 c1).1) (((h.1 c0).1 c1).2.1) (c1) (c0), ((h.1 c0).1 c1).2.2⟩) (fun (c1 : (b1 == b1) = false) => ⟨_, _, smN_2 b0 b1 nb nb2 rs (c1) (c0), ((h.1 c0).2 c1)⟩)) (fun (c0 : (b0 == b0) = false) => ⟨_, _, smN_3 b0 b1 nb nb2 rs (c0), (h.2 c0)⟩)


theorem smA_1 (b0 b1 : Int) (nb nb2 : Bool) (rs : List (List AVal)) (r : Bool)
    (h1 : FOk Try.prog 51 [agg [iI b0, iI b1, fsl nb 2 rs none], agg [iI b0, iI b1, fsl nb2 2 rs none]] [] (bool r) []) :
    FOk Try.prog 28 ([agg (rA1 b0 b1 (fsl nb 2 rs none)), agg (rA1 b0 b1 (fsl nb2 2 rs none))]) ([]) (bool r) ([]) :=
  (evalF_ok followed Try.func28 (by kernel_rfl) (show evalF Try.prog Try.f28 ([agg (rA1 b0 b1 (fsl nb 2 rs none)), agg (rA1 b0 b1 (fsl nb2 2 rs none))]) ([]) ([Dec.use [] [agg [iI b0, iI b1, fsl nb 2 rs none], agg [iI b0, iI b1, fsl nb2 2 rs none]] [] (bool r) []]) = .ok (FRes.mk (bool r) ([rows false 3 [[iI b0, iI b1, fsl nb 2 rs none]], rows false 3 [[iI b0, iI b1, fsl nb2 2 rs none]]]) ((oU 0 51 [] [agg [iI b0, iI b1, fsl nb 2 rs none], agg [iI b0, iI b1, fsl nb2 2 rs none]] [rows false 3 [[iI b0, iI b1, fsl nb 2 rs none]], rows false 3 [[iI b0, iI b1, fsl nb2 2 rs none]]] [agg [iI b0, iI b1, fsl nb 2 rs none], agg [iI b0, iI b1, fsl nb2 2 rs none]] [] (bool r) []) :: (tr 4 ++ []))) by kernel_rfl) (allP_of ⟨⟨h1, rfl, rfl, rfl⟩, (trC 4 trivial)⟩)).move ([]) (by kernel_rfl) (by kernel_rfl) (by kernel_rfl)

def smA_T (b0 b1 : Int) (nb nb2 : Bool) (rs : List (List AVal)) (r : Bool) (Q : AVal → AState → Prop) : Prop := (FOk Try.prog 51 [agg [iI b0, iI b1, fsl nb 2 rs none], agg [iI b0, iI b1, fsl nb2 2 rs none]] [] (bool r) []) ∧ Q (bool r) ([])
theorem smA_wp (b0 b1 : Int) (nb nb2 : Bool) (rs : List (List AVal)) (r : Bool) {Q : AVal → AState → Prop} (h : smA_T b0 b1 nb nb2 rs r Q) : ∃ r σ', FOk Try.prog 28 ([agg (rA1 b0 b1 (fsl nb 2 rs none)), agg (rA1 b0 b1 (fsl nb2 2 rs none))]) ([]) r σ' ∧ Q r σ' :=
  ⟨_, _, smA_1 b0 b1 nb nb2 rs r (h.1), h.2⟩


end Go.L12
end

section
set_option linter.unusedVariables false
set_option linter.unusedSimpArgs false
set_option maxRecDepth 100000
namespace Go.L12
open Go Go.Abs Go.Proofs
theorem sameRep_ok (b0 b1 : Int) (nb nb2 : Bool) (rs : List (List AVal)) (hr : tyK 112 rs) (hz : rs.length < 4611686018427387904) :
    FOk Try.prog 28 [.agg (rA1 b0 b1 (.fsl nb 2 rs none)), .agg (rA1 b0 b1 (.fsl nb2 2 rs none))] [] (.bool true) [] := by
  have h : FOk Try.prog 51 [.agg (rA1 b0 b1 (.fsl nb 2 rs none)), .agg (rA1 b0 b1 (.fsl nb2 2 rs none))] [] (.bool true) [] := by
    refine FOk.wp (smN_wp b0 b1 nb nb2 rs ?_)
    unfold smN_T
    simp [hr, hz]
  refine FOk.wp (smA_wp b0 b1 nb nb2 rs true ?_)
  unfold smA_T
  exact ⟨h, rfl, rfl⟩
end Go.L12
end

section
set_option linter.unusedVariables false
set_option linter.unusedSimpArgs false
set_option maxRecDepth 100000
namespace Go.L12
open Go Go.Abs Go.Proofs
theorem isL_get {t : Nat} {rs : List (List AVal)} (h : isL t rs) {q : Nat} (hq : q < rs.length) : isR t (rs.getD q []) := by
  have e : rs.getD q [] = rs[q] := by rw [List.getD_eq_getElem?_getD, List.getElem?_eq_getElem hq]; rfl
  rw [e]
  exact h _ (List.getElem_mem hq)
theorem isL_tyA {rs : List (List AVal)} (h : isL 112 rs) : tyK 112 rs := fun q hq => by
  obtain ⟨x, y, e, ⟨n, rfl⟩, ⟨d, rfl⟩⟩ := isL_get h hq
  rw [e]
  exact ⟨⟨d, rfl⟩, ⟨n, rfl⟩⟩
end Go.L12
end

section
set_option linter.unusedVariables false
set_option linter.unusedSimpArgs false
set_option maxRecDepth 100000
namespace Go.L12
open Go Go.Abs Go.Proofs
theorem i64_wf {m : Int} (h : (Lit.int IntKind.i64 m).wf) : -9223372036854775808 ≤ m ∧ m < 9223372036854775808 := by
  simp [Lit.wf, IntKind.min, IntKind.signed, IntKind.bits] at h
  omega
end Go.L12
end
