/-
A part of the proof (packed).
-/
import Derived.Test.YtgkejadimafgdaaGreatProg
import Derived.WalkKit
import Derived.ChangeArms
import Derived.Deep.Slices
import Derived.WideShapes
import Derived.ReadAgain
import Derived.ChangeOld
import Derived.ChangeReads
import Derived.Lib.Bytealg
import Derived.Laws.BitsLemmas
import Derived.Test.YtgkejadimafgdaaGreatChecked
import Derived.Test.YtgkejadimafgdaaGreatRows
import Derived.ProofKit
import Derived.OpenShut
import Derived.SizedLaws
import Derived.Test.YtgkejadimafgdaaGreatKqf
namespace Go.Pm.Tryz
open Go
def tab : List TD :=
[
  { kind := Go.Pm.TK.other, size := 1, bytes := 0, zero := none, eq := none },
  { kind := Go.Pm.TK.other, size := 1, bytes := 8, zero := some [Go.Pm.AV.c Go.Value.nilFunc], eq := none },
  { kind := Go.Pm.TK.int Go.IntKind.i64, size := 1, bytes := 8, zero := some [Go.Pm.AV.d (Go.Pm.D.i Go.IntKind.i64 (Int.ofNat 0))], eq := some [Go.Pm.FK.int Go.IntKind.i64] },
  { kind := Go.Pm.TK.int Go.IntKind.i64, size := 1, bytes := 8, zero := some [Go.Pm.AV.d (Go.Pm.D.i Go.IntKind.i64 (Int.ofNat 0))], eq := some [Go.Pm.FK.int Go.IntKind.i64] },
  { kind := Go.Pm.TK.bool, size := 1, bytes := 1, zero := some [Go.Pm.AV.d (Go.Pm.D.b false)], eq := some [Go.Pm.FK.bool] },
  { kind := Go.Pm.TK.int Go.IntKind.u8, size := 1, bytes := 1, zero := some [Go.Pm.AV.d (Go.Pm.D.i Go.IntKind.u8 (Int.ofNat 0))], eq := some [Go.Pm.FK.int Go.IntKind.u8] },
  { kind := Go.Pm.TK.int Go.IntKind.u8, size := 1, bytes := 1, zero := some [Go.Pm.AV.d (Go.Pm.D.i Go.IntKind.u8 (Int.ofNat 0))], eq := some [Go.Pm.FK.int Go.IntKind.u8] },
  { kind := Go.Pm.TK.struct [(0, 2, 1), (1, 3, 1), (2, 4, 1), (3, 6, 1)], size := 4, bytes := 24, zero := some [Go.Pm.AV.d (Go.Pm.D.i Go.IntKind.i64 (Int.ofNat 0)), Go.Pm.AV.d (Go.Pm.D.i Go.IntKind.i64 (Int.ofNat 0)), Go.Pm.AV.d (Go.Pm.D.b false), Go.Pm.AV.d (Go.Pm.D.i Go.IntKind.u8 (Int.ofNat 0))], eq := some [Go.Pm.FK.int Go.IntKind.i64, Go.Pm.FK.int Go.IntKind.i64, Go.Pm.FK.bool, Go.Pm.FK.int Go.IntKind.u8] },
  { kind := Go.Pm.TK.struct [(0, 2, 1), (1, 3, 1), (2, 4, 1), (3, 6, 1)], size := 4, bytes := 24, zero := some [Go.Pm.AV.d (Go.Pm.D.i Go.IntKind.i64 (Int.ofNat 0)), Go.Pm.AV.d (Go.Pm.D.i Go.IntKind.i64 (Int.ofNat 0)), Go.Pm.AV.d (Go.Pm.D.b false), Go.Pm.AV.d (Go.Pm.D.i Go.IntKind.u8 (Int.ofNat 0))], eq := some [Go.Pm.FK.int Go.IntKind.i64, Go.Pm.FK.int Go.IntKind.i64, Go.Pm.FK.bool, Go.Pm.FK.int Go.IntKind.u8] },
  { kind := Go.Pm.TK.str, size := 1, bytes := 16, zero := some [Go.Pm.AV.d (Go.Pm.D.s [])], eq := some [Go.Pm.FK.str] },
  { kind := Go.Pm.TK.str, size := 1, bytes := 16, zero := some [Go.Pm.AV.d (Go.Pm.D.s [])], eq := some [Go.Pm.FK.str] },
  { kind := Go.Pm.TK.str, size := 1, bytes := 16, zero := some [Go.Pm.AV.d (Go.Pm.D.s [])], eq := some [Go.Pm.FK.str] },
  { kind := Go.Pm.TK.int Go.IntKind.u64, size := 1, bytes := 8, zero := some [Go.Pm.AV.d (Go.Pm.D.i Go.IntKind.u64 (Int.ofNat 0))], eq := some [Go.Pm.FK.int Go.IntKind.u64] },
  { kind := Go.Pm.TK.struct [(0, 9, 1), (1, 12, 1)], size := 2, bytes := 24, zero := some [Go.Pm.AV.d (Go.Pm.D.s []), Go.Pm.AV.d (Go.Pm.D.i Go.IntKind.u64 (Int.ofNat 0))], eq := none },
  { kind := Go.Pm.TK.struct [(0, 9, 1), (1, 12, 1)], size := 2, bytes := 24, zero := some [Go.Pm.AV.d (Go.Pm.D.s []), Go.Pm.AV.d (Go.Pm.D.i Go.IntKind.u64 (Int.ofNat 0))], eq := none },
  { kind := Go.Pm.TK.ptr 192, size := 1, bytes := 8, zero := some [Go.Pm.AV.c (Go.Value.pointer none)], eq := none },
  { kind := Go.Pm.TK.ptr 195, size := 1, bytes := 8, zero := some [Go.Pm.AV.c (Go.Value.pointer none)], eq := none },
  { kind := Go.Pm.TK.ptr 204, size := 1, bytes := 8, zero := some [Go.Pm.AV.c (Go.Value.pointer none)], eq := none },
  { kind := Go.Pm.TK.struct [(0, 17, 1)], size := 1, bytes := 8, zero := some [Go.Pm.AV.c (Go.Value.pointer none)], eq := none },
  { kind := Go.Pm.TK.struct [(0, 17, 1)], size := 1, bytes := 8, zero := some [Go.Pm.AV.c (Go.Value.pointer none)], eq := none },
  { kind := Go.Pm.TK.other, size := 1, bytes := 16, zero := some [Go.Pm.AV.c Go.Value.nilIface], eq := none },
  { kind := Go.Pm.TK.int Go.IntKind.i32, size := 1, bytes := 4, zero := some [Go.Pm.AV.d (Go.Pm.D.i Go.IntKind.i32 (Int.ofNat 0))], eq := some [Go.Pm.FK.int Go.IntKind.i32] },
  { kind := Go.Pm.TK.slice 79, size := 1, bytes := 24, zero := some [Go.Pm.AV.snil], eq := none },
  { kind := Go.Pm.TK.struct [(0, 22, 1)], size := 1, bytes := 24, zero := some [Go.Pm.AV.snil], eq := none },
  { kind := Go.Pm.TK.struct [(0, 22, 1)], size := 1, bytes := 24, zero := some [Go.Pm.AV.snil], eq := none },
  { kind := Go.Pm.TK.slice 81, size := 1, bytes := 24, zero := some [Go.Pm.AV.snil], eq := none },
  { kind := Go.Pm.TK.slice 85, size := 1, bytes := 24, zero := some [Go.Pm.AV.snil], eq := none },
  { kind := Go.Pm.TK.struct [(0, 25, 1), (1, 9, 1), (2, 9, 1), (3, 9, 1), (4, 9, 1), (5, 26, 1), (6, 9, 1), (7, 9, 1), (8, 4, 1), (9, 2, 1)], size := 10, bytes := 160, zero := some [Go.Pm.AV.snil, Go.Pm.AV.d (Go.Pm.D.s []), Go.Pm.AV.d (Go.Pm.D.s []), Go.Pm.AV.d (Go.Pm.D.s []), Go.Pm.AV.d (Go.Pm.D.s []), Go.Pm.AV.snil, Go.Pm.AV.d (Go.Pm.D.s []), Go.Pm.AV.d (Go.Pm.D.s []), Go.Pm.AV.d (Go.Pm.D.b false), Go.Pm.AV.d (Go.Pm.D.i Go.IntKind.i64 (Int.ofNat 0))], eq := none },
  { kind := Go.Pm.TK.struct [(0, 25, 1), (1, 9, 1), (2, 9, 1), (3, 9, 1), (4, 9, 1), (5, 26, 1), (6, 9, 1), (7, 9, 1), (8, 4, 1), (9, 2, 1)], size := 10, bytes := 160, zero := some [Go.Pm.AV.snil, Go.Pm.AV.d (Go.Pm.D.s []), Go.Pm.AV.d (Go.Pm.D.s []), Go.Pm.AV.d (Go.Pm.D.s []), Go.Pm.AV.d (Go.Pm.D.s []), Go.Pm.AV.snil, Go.Pm.AV.d (Go.Pm.D.s []), Go.Pm.AV.d (Go.Pm.D.s []), Go.Pm.AV.d (Go.Pm.D.b false), Go.Pm.AV.d (Go.Pm.D.i Go.IntKind.i64 (Int.ofNat 0))], eq := none },
  { kind := Go.Pm.TK.other, size := 1, bytes := 8, zero := some [Go.Pm.AV.c Go.Value.nilFunc], eq := none },
  { kind := Go.Pm.TK.other, size := 1, bytes := 8, zero := some [Go.Pm.AV.c Go.Value.nilFunc], eq := none },
  { kind := Go.Pm.TK.other, size := 1, bytes := 8, zero := some [Go.Pm.AV.c Go.Value.nilFunc], eq := none },
  { kind := Go.Pm.TK.slice 93, size := 1, bytes := 24, zero := some [Go.Pm.AV.snil], eq := none },
  { kind := Go.Pm.TK.struct [(0, 32, 1)], size := 1, bytes := 24, zero := some [Go.Pm.AV.snil], eq := none },
  { kind := Go.Pm.TK.struct [(0, 32, 1)], size := 1, bytes := 24, zero := some [Go.Pm.AV.snil], eq := none },
  { kind := Go.Pm.TK.other, size := 1, bytes := 8, zero := some [Go.Pm.AV.c Go.Value.nilFunc], eq := none },
  { kind := Go.Pm.TK.slice 61, size := 1, bytes := 24, zero := some [Go.Pm.AV.snil], eq := none },
  { kind := Go.Pm.TK.slice 65, size := 1, bytes := 24, zero := some [Go.Pm.AV.snil], eq := none },
  { kind := Go.Pm.TK.struct [(0, 36, 1), (1, 9, 1), (2, 9, 1), (3, 9, 1), (4, 9, 1), (5, 37, 1), (6, 9, 1), (7, 9, 1), (8, 4, 1), (9, 2, 1)], size := 10, bytes := 160, zero := some [Go.Pm.AV.snil, Go.Pm.AV.d (Go.Pm.D.s []), Go.Pm.AV.d (Go.Pm.D.s []), Go.Pm.AV.d (Go.Pm.D.s []), Go.Pm.AV.d (Go.Pm.D.s []), Go.Pm.AV.snil, Go.Pm.AV.d (Go.Pm.D.s []), Go.Pm.AV.d (Go.Pm.D.s []), Go.Pm.AV.d (Go.Pm.D.b false), Go.Pm.AV.d (Go.Pm.D.i Go.IntKind.i64 (Int.ofNat 0))], eq := none },
  { kind := Go.Pm.TK.struct [(0, 36, 1), (1, 9, 1), (2, 9, 1), (3, 9, 1), (4, 9, 1), (5, 37, 1), (6, 9, 1), (7, 9, 1), (8, 4, 1), (9, 2, 1)], size := 10, bytes := 160, zero := some [Go.Pm.AV.snil, Go.Pm.AV.d (Go.Pm.D.s []), Go.Pm.AV.d (Go.Pm.D.s []), Go.Pm.AV.d (Go.Pm.D.s []), Go.Pm.AV.d (Go.Pm.D.s []), Go.Pm.AV.snil, Go.Pm.AV.d (Go.Pm.D.s []), Go.Pm.AV.d (Go.Pm.D.s []), Go.Pm.AV.d (Go.Pm.D.b false), Go.Pm.AV.d (Go.Pm.D.i Go.IntKind.i64 (Int.ofNat 0))], eq := none },
  { kind := Go.Pm.TK.other, size := 1, bytes := 8, zero := some [Go.Pm.AV.c Go.Value.nilFunc], eq := none },
  { kind := Go.Pm.TK.other, size := 1, bytes := 8, zero := some [Go.Pm.AV.c Go.Value.nilFunc], eq := none },
  { kind := Go.Pm.TK.other, size := 1, bytes := 8, zero := some [Go.Pm.AV.c Go.Value.nilFunc], eq := none },
  { kind := Go.Pm.TK.other, size := 1, bytes := 8, zero := some [Go.Pm.AV.c Go.Value.nilFunc], eq := none },
  { kind := Go.Pm.TK.other, size := 1, bytes := 8, zero := some [Go.Pm.AV.c Go.Value.nilFunc], eq := none },
  { kind := Go.Pm.TK.other, size := 1, bytes := 8, zero := some [Go.Pm.AV.c Go.Value.nilFunc], eq := none },
  { kind := Go.Pm.TK.other, size := 1, bytes := 8, zero := some [Go.Pm.AV.c Go.Value.nilFunc], eq := none },
  { kind := Go.Pm.TK.other, size := 1, bytes := 8, zero := some [Go.Pm.AV.c Go.Value.nilFunc], eq := none },
  { kind := Go.Pm.TK.other, size := 1, bytes := 8, zero := some [Go.Pm.AV.c Go.Value.nilFunc], eq := none },
  { kind := Go.Pm.TK.ptr 97, size := 1, bytes := 8, zero := some [Go.Pm.AV.c (Go.Value.pointer none)], eq := none },
  { kind := Go.Pm.TK.other, size := 1, bytes := 0, zero := none, eq := none },
  { kind := Go.Pm.TK.other, size := 1, bytes := 8, zero := some [Go.Pm.AV.c Go.Value.nilFunc], eq := none },
  { kind := Go.Pm.TK.other, size := 1, bytes := 8, zero := some [Go.Pm.AV.c Go.Value.nilFunc], eq := none },
  { kind := Go.Pm.TK.other, size := 1, bytes := 8, zero := some [Go.Pm.AV.c Go.Value.nilFunc], eq := none },
  { kind := Go.Pm.TK.other, size := 1, bytes := 8, zero := some [Go.Pm.AV.c Go.Value.nilFunc], eq := none },
  { kind := Go.Pm.TK.other, size := 1, bytes := 8, zero := some [Go.Pm.AV.c Go.Value.nilFunc], eq := none },
  { kind := Go.Pm.TK.slice 9, size := 1, bytes := 24, zero := some [Go.Pm.AV.snil], eq := none },
  { kind := Go.Pm.TK.slice 2, size := 1, bytes := 24, zero := some [Go.Pm.AV.snil], eq := none },
  { kind := Go.Pm.TK.other, size := 1, bytes := 0, zero := none, eq := none },
  { kind := Go.Pm.TK.other, size := 1, bytes := 8, zero := some [Go.Pm.AV.c Go.Value.nilFunc], eq := none },
  { kind := Go.Pm.TK.struct [(0, 2, 1), (1, 9, 1)], size := 2, bytes := 24, zero := some [Go.Pm.AV.d (Go.Pm.D.i Go.IntKind.i64 (Int.ofNat 0)), Go.Pm.AV.d (Go.Pm.D.s [])], eq := some [Go.Pm.FK.int Go.IntKind.i64, Go.Pm.FK.str] },
  { kind := Go.Pm.TK.struct [(0, 2, 1), (1, 9, 1)], size := 2, bytes := 24, zero := some [Go.Pm.AV.d (Go.Pm.D.i Go.IntKind.i64 (Int.ofNat 0)), Go.Pm.AV.d (Go.Pm.D.s [])], eq := some [Go.Pm.FK.int Go.IntKind.i64, Go.Pm.FK.str] },
  { kind := Go.Pm.TK.struct [(0, 2, 1), (1, 2, 1), (2, 9, 1)], size := 3, bytes := 32, zero := some [Go.Pm.AV.d (Go.Pm.D.i Go.IntKind.i64 (Int.ofNat 0)), Go.Pm.AV.d (Go.Pm.D.i Go.IntKind.i64 (Int.ofNat 0)), Go.Pm.AV.d (Go.Pm.D.s [])], eq := some [Go.Pm.FK.int Go.IntKind.i64, Go.Pm.FK.int Go.IntKind.i64, Go.Pm.FK.str] },
  { kind := Go.Pm.TK.struct [(0, 2, 1), (1, 2, 1), (2, 9, 1)], size := 3, bytes := 32, zero := some [Go.Pm.AV.d (Go.Pm.D.i Go.IntKind.i64 (Int.ofNat 0)), Go.Pm.AV.d (Go.Pm.D.i Go.IntKind.i64 (Int.ofNat 0)), Go.Pm.AV.d (Go.Pm.D.s [])], eq := some [Go.Pm.FK.int Go.IntKind.i64, Go.Pm.FK.int Go.IntKind.i64, Go.Pm.FK.str] },
  { kind := Go.Pm.TK.struct [(0, 9, 1), (1, 9, 1), (2, 63, 3)], size := 5, bytes := 64, zero := some [Go.Pm.AV.d (Go.Pm.D.s []), Go.Pm.AV.d (Go.Pm.D.s []), Go.Pm.AV.d (Go.Pm.D.i Go.IntKind.i64 (Int.ofNat 0)), Go.Pm.AV.d (Go.Pm.D.i Go.IntKind.i64 (Int.ofNat 0)), Go.Pm.AV.d (Go.Pm.D.s [])], eq := some [Go.Pm.FK.str, Go.Pm.FK.str, Go.Pm.FK.int Go.IntKind.i64, Go.Pm.FK.int Go.IntKind.i64, Go.Pm.FK.str] },
  { kind := Go.Pm.TK.struct [(0, 9, 1), (1, 9, 1), (2, 63, 3)], size := 5, bytes := 64, zero := some [Go.Pm.AV.d (Go.Pm.D.s []), Go.Pm.AV.d (Go.Pm.D.s []), Go.Pm.AV.d (Go.Pm.D.i Go.IntKind.i64 (Int.ofNat 0)), Go.Pm.AV.d (Go.Pm.D.i Go.IntKind.i64 (Int.ofNat 0)), Go.Pm.AV.d (Go.Pm.D.s [])], eq := some [Go.Pm.FK.str, Go.Pm.FK.str, Go.Pm.FK.int Go.IntKind.i64, Go.Pm.FK.int Go.IntKind.i64, Go.Pm.FK.str] },
  { kind := Go.Pm.TK.other, size := 1, bytes := 8, zero := some [Go.Pm.AV.c Go.Value.nilFunc], eq := none },
  { kind := Go.Pm.TK.other, size := 1, bytes := 8, zero := some [Go.Pm.AV.c Go.Value.nilFunc], eq := none },
  { kind := Go.Pm.TK.other, size := 1, bytes := 8, zero := some [Go.Pm.AV.c Go.Value.nilFunc], eq := none },
  { kind := Go.Pm.TK.other, size := 1, bytes := 8, zero := some [Go.Pm.AV.c Go.Value.nilFunc], eq := none },
  { kind := Go.Pm.TK.other, size := 1, bytes := 8, zero := some [Go.Pm.AV.c Go.Value.nilFunc], eq := none },
  { kind := Go.Pm.TK.other, size := 1, bytes := 8, zero := some [Go.Pm.AV.c Go.Value.nilFunc], eq := none },
  { kind := Go.Pm.TK.other, size := 1, bytes := 8, zero := some [Go.Pm.AV.c Go.Value.nilFunc], eq := none },
  { kind := Go.Pm.TK.slice 166, size := 1, bytes := 24, zero := some [Go.Pm.AV.snil], eq := none },
  { kind := Go.Pm.TK.slice 168, size := 1, bytes := 24, zero := some [Go.Pm.AV.snil], eq := none },
  { kind := Go.Pm.TK.struct [(0, 9, 1), (1, 73, 1), (2, 57, 1), (3, 74, 1)], size := 4, bytes := 88, zero := some [Go.Pm.AV.d (Go.Pm.D.s []), Go.Pm.AV.snil, Go.Pm.AV.snil, Go.Pm.AV.snil], eq := none },
  { kind := Go.Pm.TK.struct [(0, 9, 1), (1, 73, 1), (2, 57, 1), (3, 74, 1)], size := 4, bytes := 88, zero := some [Go.Pm.AV.d (Go.Pm.D.s []), Go.Pm.AV.snil, Go.Pm.AV.snil, Go.Pm.AV.snil], eq := none },
  { kind := Go.Pm.TK.slice 143, size := 1, bytes := 24, zero := some [Go.Pm.AV.snil], eq := none },
  { kind := Go.Pm.TK.struct [(0, 76, 4), (4, 77, 1)], size := 5, bytes := 112, zero := some [Go.Pm.AV.d (Go.Pm.D.s []), Go.Pm.AV.snil, Go.Pm.AV.snil, Go.Pm.AV.snil, Go.Pm.AV.snil], eq := none },
  { kind := Go.Pm.TK.struct [(0, 76, 4), (4, 77, 1)], size := 5, bytes := 112, zero := some [Go.Pm.AV.d (Go.Pm.D.s []), Go.Pm.AV.snil, Go.Pm.AV.snil, Go.Pm.AV.snil, Go.Pm.AV.snil], eq := none },
  { kind := Go.Pm.TK.other, size := 1, bytes := 8, zero := some [Go.Pm.AV.c Go.Value.nilFunc], eq := none },
  { kind := Go.Pm.TK.struct [(0, 2, 1), (1, 9, 1)], size := 2, bytes := 24, zero := some [Go.Pm.AV.d (Go.Pm.D.i Go.IntKind.i64 (Int.ofNat 0)), Go.Pm.AV.d (Go.Pm.D.s [])], eq := some [Go.Pm.FK.int Go.IntKind.i64, Go.Pm.FK.str] },
  { kind := Go.Pm.TK.other, size := 1, bytes := 8, zero := some [Go.Pm.AV.c Go.Value.nilFunc], eq := none },
  { kind := Go.Pm.TK.struct [(0, 2, 1), (1, 2, 1), (2, 9, 1)], size := 3, bytes := 32, zero := some [Go.Pm.AV.d (Go.Pm.D.i Go.IntKind.i64 (Int.ofNat 0)), Go.Pm.AV.d (Go.Pm.D.i Go.IntKind.i64 (Int.ofNat 0)), Go.Pm.AV.d (Go.Pm.D.s [])], eq := some [Go.Pm.FK.int Go.IntKind.i64, Go.Pm.FK.int Go.IntKind.i64, Go.Pm.FK.str] },
  { kind := Go.Pm.TK.struct [(0, 9, 1), (1, 9, 1), (2, 83, 3)], size := 5, bytes := 64, zero := some [Go.Pm.AV.d (Go.Pm.D.s []), Go.Pm.AV.d (Go.Pm.D.s []), Go.Pm.AV.d (Go.Pm.D.i Go.IntKind.i64 (Int.ofNat 0)), Go.Pm.AV.d (Go.Pm.D.i Go.IntKind.i64 (Int.ofNat 0)), Go.Pm.AV.d (Go.Pm.D.s [])], eq := some [Go.Pm.FK.str, Go.Pm.FK.str, Go.Pm.FK.int Go.IntKind.i64, Go.Pm.FK.int Go.IntKind.i64, Go.Pm.FK.str] },
  { kind := Go.Pm.TK.struct [(0, 9, 1), (1, 9, 1), (2, 83, 3)], size := 5, bytes := 64, zero := some [Go.Pm.AV.d (Go.Pm.D.s []), Go.Pm.AV.d (Go.Pm.D.s []), Go.Pm.AV.d (Go.Pm.D.i Go.IntKind.i64 (Int.ofNat 0)), Go.Pm.AV.d (Go.Pm.D.i Go.IntKind.i64 (Int.ofNat 0)), Go.Pm.AV.d (Go.Pm.D.s [])], eq := some [Go.Pm.FK.str, Go.Pm.FK.str, Go.Pm.FK.int Go.IntKind.i64, Go.Pm.FK.int Go.IntKind.i64, Go.Pm.FK.str] },
  { kind := Go.Pm.TK.other, size := 1, bytes := 8, zero := some [Go.Pm.AV.c Go.Value.nilFunc], eq := none },
  { kind := Go.Pm.TK.slice 111, size := 1, bytes := 24, zero := some [Go.Pm.AV.snil], eq := none },
  { kind := Go.Pm.TK.slice 146, size := 1, bytes := 24, zero := some [Go.Pm.AV.snil], eq := none },
  { kind := Go.Pm.TK.struct [(0, 9, 1), (1, 87, 1), (2, 57, 1), (3, 88, 1)], size := 4, bytes := 88, zero := some [Go.Pm.AV.d (Go.Pm.D.s []), Go.Pm.AV.snil, Go.Pm.AV.snil, Go.Pm.AV.snil], eq := none },
  { kind := Go.Pm.TK.struct [(0, 9, 1), (1, 87, 1), (2, 57, 1), (3, 88, 1)], size := 4, bytes := 88, zero := some [Go.Pm.AV.d (Go.Pm.D.s []), Go.Pm.AV.snil, Go.Pm.AV.snil, Go.Pm.AV.snil], eq := none },
  { kind := Go.Pm.TK.slice 120, size := 1, bytes := 24, zero := some [Go.Pm.AV.snil], eq := none },
  { kind := Go.Pm.TK.struct [(0, 90, 4), (4, 91, 1)], size := 5, bytes := 112, zero := some [Go.Pm.AV.d (Go.Pm.D.s []), Go.Pm.AV.snil, Go.Pm.AV.snil, Go.Pm.AV.snil, Go.Pm.AV.snil], eq := none },
  { kind := Go.Pm.TK.struct [(0, 90, 4), (4, 91, 1)], size := 5, bytes := 112, zero := some [Go.Pm.AV.d (Go.Pm.D.s []), Go.Pm.AV.snil, Go.Pm.AV.snil, Go.Pm.AV.snil, Go.Pm.AV.snil], eq := none },
  { kind := Go.Pm.TK.other, size := 1, bytes := 8, zero := some [Go.Pm.AV.c Go.Value.nilFunc], eq := none },
  { kind := Go.Pm.TK.other, size := 1, bytes := 8, zero := some [Go.Pm.AV.c Go.Value.nilFunc], eq := none },
  { kind := Go.Pm.TK.struct [(0, 56, 1), (1, 57, 1), (2, 91, 1)], size := 3, bytes := 72, zero := some [Go.Pm.AV.snil, Go.Pm.AV.snil, Go.Pm.AV.snil], eq := none },
  { kind := Go.Pm.TK.struct [(0, 56, 1), (1, 57, 1), (2, 91, 1)], size := 3, bytes := 72, zero := some [Go.Pm.AV.snil, Go.Pm.AV.snil, Go.Pm.AV.snil], eq := none },
  { kind := Go.Pm.TK.other, size := 1, bytes := 8, zero := some [Go.Pm.AV.c Go.Value.nilFunc], eq := none },
  { kind := Go.Pm.TK.other, size := 1, bytes := 8, zero := some [Go.Pm.AV.c Go.Value.nilFunc], eq := none },
  { kind := Go.Pm.TK.other, size := 1, bytes := 8, zero := some [Go.Pm.AV.c Go.Value.nilFunc], eq := none },
  { kind := Go.Pm.TK.other, size := 1, bytes := 8, zero := some [Go.Pm.AV.c Go.Value.nilFunc], eq := none },
  { kind := Go.Pm.TK.other, size := 1, bytes := 8, zero := some [Go.Pm.AV.c Go.Value.nilFunc], eq := none },
  { kind := Go.Pm.TK.other, size := 1, bytes := 8, zero := some [Go.Pm.AV.c Go.Value.nilFunc], eq := none },
  { kind := Go.Pm.TK.other, size := 1, bytes := 8, zero := some [Go.Pm.AV.c Go.Value.nilFunc], eq := none },
  { kind := Go.Pm.TK.other, size := 1, bytes := 8, zero := some [Go.Pm.AV.c Go.Value.nilFunc], eq := none },
  { kind := Go.Pm.TK.other, size := 1, bytes := 8, zero := some [Go.Pm.AV.c Go.Value.nilFunc], eq := none },
  { kind := Go.Pm.TK.other, size := 1, bytes := 8, zero := some [Go.Pm.AV.c Go.Value.nilFunc], eq := none },
  { kind := Go.Pm.TK.ptr 34, size := 1, bytes := 8, zero := some [Go.Pm.AV.c (Go.Value.pointer none)], eq := none },
  { kind := Go.Pm.TK.other, size := 1, bytes := 8, zero := some [Go.Pm.AV.c Go.Value.nilFunc], eq := none },
  { kind := Go.Pm.TK.struct [(0, 9, 1), (1, 2, 1), (2, 4, 1)], size := 3, bytes := 32, zero := some [Go.Pm.AV.d (Go.Pm.D.s []), Go.Pm.AV.d (Go.Pm.D.i Go.IntKind.i64 (Int.ofNat 0)), Go.Pm.AV.d (Go.Pm.D.b false)], eq := some [Go.Pm.FK.str, Go.Pm.FK.int Go.IntKind.i64, Go.Pm.FK.bool] },
  { kind := Go.Pm.TK.struct [(0, 9, 1), (1, 2, 1), (2, 4, 1)], size := 3, bytes := 32, zero := some [Go.Pm.AV.d (Go.Pm.D.s []), Go.Pm.AV.d (Go.Pm.D.i Go.IntKind.i64 (Int.ofNat 0)), Go.Pm.AV.d (Go.Pm.D.b false)], eq := some [Go.Pm.FK.str, Go.Pm.FK.int Go.IntKind.i64, Go.Pm.FK.bool] },
  { kind := Go.Pm.TK.other, size := 1, bytes := 8, zero := some [Go.Pm.AV.c Go.Value.nilFunc], eq := none },
  { kind := Go.Pm.TK.other, size := 1, bytes := 8, zero := some [Go.Pm.AV.c Go.Value.nilFunc], eq := none },
  { kind := Go.Pm.TK.other, size := 1, bytes := 8, zero := some [Go.Pm.AV.c Go.Value.nilFunc], eq := none },
  { kind := Go.Pm.TK.other, size := 1, bytes := 8, zero := some [Go.Pm.AV.c Go.Value.nilFunc], eq := none },
  { kind := Go.Pm.TK.other, size := 1, bytes := 8, zero := some [Go.Pm.AV.c Go.Value.nilFunc], eq := none },
  { kind := Go.Pm.TK.other, size := 1, bytes := 8, zero := some [Go.Pm.AV.c Go.Value.nilFunc], eq := none },
  { kind := Go.Pm.TK.other, size := 1, bytes := 8, zero := some [Go.Pm.AV.c Go.Value.nilFunc], eq := none },
  { kind := Go.Pm.TK.other, size := 1, bytes := 8, zero := some [Go.Pm.AV.c Go.Value.nilFunc], eq := none },
  { kind := Go.Pm.TK.slice 63, size := 1, bytes := 24, zero := some [Go.Pm.AV.snil], eq := none },
  { kind := Go.Pm.TK.other, size := 1, bytes := 8, zero := some [Go.Pm.AV.c Go.Value.nilFunc], eq := none },
  { kind := Go.Pm.TK.other, size := 1, bytes := 8, zero := some [Go.Pm.AV.c Go.Value.nilFunc], eq := none },
  { kind := Go.Pm.TK.other, size := 1, bytes := 8, zero := some [Go.Pm.AV.c Go.Value.nilFunc], eq := none },
  { kind := Go.Pm.TK.other, size := 1, bytes := 8, zero := some [Go.Pm.AV.c Go.Value.nilFunc], eq := none },
  { kind := Go.Pm.TK.other, size := 1, bytes := 8, zero := some [Go.Pm.AV.c Go.Value.nilFunc], eq := none },
  { kind := Go.Pm.TK.other, size := 1, bytes := 8, zero := some [Go.Pm.AV.c Go.Value.nilFunc], eq := none },
  { kind := Go.Pm.TK.other, size := 1, bytes := 8, zero := some [Go.Pm.AV.c Go.Value.nilFunc], eq := none },
  { kind := Go.Pm.TK.other, size := 1, bytes := 8, zero := some [Go.Pm.AV.c Go.Value.nilFunc], eq := none },
  { kind := Go.Pm.TK.other, size := 1, bytes := 8, zero := some [Go.Pm.AV.c Go.Value.nilFunc], eq := none },
  { kind := Go.Pm.TK.other, size := 1, bytes := 8, zero := some [Go.Pm.AV.c Go.Value.nilFunc], eq := none },
  { kind := Go.Pm.TK.other, size := 1, bytes := 8, zero := some [Go.Pm.AV.c Go.Value.nilFunc], eq := none },
  { kind := Go.Pm.TK.other, size := 1, bytes := 8, zero := some [Go.Pm.AV.c Go.Value.nilFunc], eq := none },
  { kind := Go.Pm.TK.other, size := 1, bytes := 0, zero := none, eq := none },
  { kind := Go.Pm.TK.other, size := 1, bytes := 8, zero := some [Go.Pm.AV.c Go.Value.nilFunc], eq := none },
  { kind := Go.Pm.TK.other, size := 1, bytes := 8, zero := some [Go.Pm.AV.c Go.Value.nilFunc], eq := none },
  { kind := Go.Pm.TK.other, size := 1, bytes := 8, zero := some [Go.Pm.AV.c Go.Value.nilFunc], eq := none },
  { kind := Go.Pm.TK.other, size := 1, bytes := 8, zero := some [Go.Pm.AV.c Go.Value.nilFunc], eq := none },
  { kind := Go.Pm.TK.other, size := 1, bytes := 8, zero := some [Go.Pm.AV.c Go.Value.nilFunc], eq := none },
  { kind := Go.Pm.TK.other, size := 1, bytes := 8, zero := some [Go.Pm.AV.c Go.Value.nilFunc], eq := none },
  { kind := Go.Pm.TK.other, size := 1, bytes := 8, zero := some [Go.Pm.AV.c Go.Value.nilFunc], eq := none },
  { kind := Go.Pm.TK.other, size := 1, bytes := 8, zero := some [Go.Pm.AV.c Go.Value.nilFunc], eq := none },
  { kind := Go.Pm.TK.other, size := 1, bytes := 8, zero := some [Go.Pm.AV.c Go.Value.nilFunc], eq := none },
  { kind := Go.Pm.TK.slice 83, size := 1, bytes := 24, zero := some [Go.Pm.AV.snil], eq := none },
  { kind := Go.Pm.TK.other, size := 1, bytes := 8, zero := some [Go.Pm.AV.c Go.Value.nilFunc], eq := none },
  { kind := Go.Pm.TK.struct [(0, 57, 1), (1, 4, 1)], size := 2, bytes := 32, zero := some [Go.Pm.AV.snil, Go.Pm.AV.d (Go.Pm.D.b false)], eq := none },
  { kind := Go.Pm.TK.struct [(0, 57, 1), (1, 4, 1)], size := 2, bytes := 32, zero := some [Go.Pm.AV.snil, Go.Pm.AV.d (Go.Pm.D.b false)], eq := none },
  { kind := Go.Pm.TK.other, size := 1, bytes := 8, zero := some [Go.Pm.AV.c Go.Value.nilFunc], eq := none },
  { kind := Go.Pm.TK.other, size := 1, bytes := 8, zero := some [Go.Pm.AV.c Go.Value.nilFunc], eq := none },
  { kind := Go.Pm.TK.other, size := 1, bytes := 8, zero := some [Go.Pm.AV.c Go.Value.nilFunc], eq := none },
  { kind := Go.Pm.TK.other, size := 1, bytes := 8, zero := some [Go.Pm.AV.c Go.Value.nilFunc], eq := none },
  { kind := Go.Pm.TK.other, size := 1, bytes := 8, zero := some [Go.Pm.AV.c Go.Value.nilFunc], eq := none },
  { kind := Go.Pm.TK.other, size := 1, bytes := 8, zero := some [Go.Pm.AV.c Go.Value.nilFunc], eq := none },
  { kind := Go.Pm.TK.other, size := 1, bytes := 8, zero := some [Go.Pm.AV.c Go.Value.nilFunc], eq := none },
  { kind := Go.Pm.TK.other, size := 1, bytes := 8, zero := some [Go.Pm.AV.c Go.Value.nilFunc], eq := none },
  { kind := Go.Pm.TK.other, size := 1, bytes := 8, zero := some [Go.Pm.AV.c Go.Value.nilFunc], eq := none },
  { kind := Go.Pm.TK.other, size := 1, bytes := 8, zero := some [Go.Pm.AV.c Go.Value.nilFunc], eq := none },
  { kind := Go.Pm.TK.other, size := 1, bytes := 8, zero := some [Go.Pm.AV.c Go.Value.nilFunc], eq := none },
  { kind := Go.Pm.TK.other, size := 1, bytes := 8, zero := some [Go.Pm.AV.c Go.Value.nilFunc], eq := none },
  { kind := Go.Pm.TK.other, size := 1, bytes := 8, zero := some [Go.Pm.AV.c Go.Value.nilFunc], eq := none },
  { kind := Go.Pm.TK.other, size := 1, bytes := 8, zero := some [Go.Pm.AV.c Go.Value.nilFunc], eq := none },
  { kind := Go.Pm.TK.other, size := 1, bytes := 8, zero := some [Go.Pm.AV.c Go.Value.nilFunc], eq := none },
  { kind := Go.Pm.TK.other, size := 1, bytes := 8, zero := some [Go.Pm.AV.c Go.Value.nilFunc], eq := none },
  { kind := Go.Pm.TK.other, size := 1, bytes := 8, zero := some [Go.Pm.AV.c Go.Value.nilFunc], eq := none },
  { kind := Go.Pm.TK.other, size := 1, bytes := 8, zero := some [Go.Pm.AV.c Go.Value.nilFunc], eq := none },
  { kind := Go.Pm.TK.other, size := 1, bytes := 8, zero := some [Go.Pm.AV.c Go.Value.nilFunc], eq := none },
  { kind := Go.Pm.TK.struct [(0, 9, 1), (1, 2, 1), (2, 4, 1)], size := 3, bytes := 32, zero := some [Go.Pm.AV.d (Go.Pm.D.s []), Go.Pm.AV.d (Go.Pm.D.i Go.IntKind.i64 (Int.ofNat 0)), Go.Pm.AV.d (Go.Pm.D.b false)], eq := some [Go.Pm.FK.str, Go.Pm.FK.int Go.IntKind.i64, Go.Pm.FK.bool] },
  { kind := Go.Pm.TK.other, size := 1, bytes := 8, zero := some [Go.Pm.AV.c Go.Value.nilFunc], eq := none },
  { kind := Go.Pm.TK.struct [(0, 57, 1), (1, 4, 1)], size := 2, bytes := 32, zero := some [Go.Pm.AV.snil, Go.Pm.AV.d (Go.Pm.D.b false)], eq := none },
  { kind := Go.Pm.TK.other, size := 1, bytes := 8, zero := some [Go.Pm.AV.c Go.Value.nilFunc], eq := none },
  { kind := Go.Pm.TK.other, size := 1, bytes := 8, zero := some [Go.Pm.AV.c Go.Value.nilFunc], eq := none },
  { kind := Go.Pm.TK.other, size := 1, bytes := 8, zero := some [Go.Pm.AV.c Go.Value.nilFunc], eq := none },
  { kind := Go.Pm.TK.other, size := 1, bytes := 8, zero := some [Go.Pm.AV.c Go.Value.nilFunc], eq := none },
  { kind := Go.Pm.TK.other, size := 1, bytes := 8, zero := some [Go.Pm.AV.c Go.Value.nilFunc], eq := none },
  { kind := Go.Pm.TK.other, size := 1, bytes := 8, zero := some [Go.Pm.AV.c Go.Value.nilFunc], eq := none },
  { kind := Go.Pm.TK.other, size := 1, bytes := 8, zero := some [Go.Pm.AV.c Go.Value.nilFunc], eq := none },
  { kind := Go.Pm.TK.other, size := 1, bytes := 8, zero := some [Go.Pm.AV.c Go.Value.nilFunc], eq := none },
  { kind := Go.Pm.TK.other, size := 1, bytes := 8, zero := some [Go.Pm.AV.c Go.Value.nilFunc], eq := none },
  { kind := Go.Pm.TK.other, size := 1, bytes := 8, zero := some [Go.Pm.AV.c Go.Value.nilFunc], eq := none },
  { kind := Go.Pm.TK.other, size := 1, bytes := 8, zero := some [Go.Pm.AV.c Go.Value.nilFunc], eq := none },
  { kind := Go.Pm.TK.other, size := 1, bytes := 8, zero := some [Go.Pm.AV.c Go.Value.nilFunc], eq := none },
  { kind := Go.Pm.TK.other, size := 1, bytes := 8, zero := some [Go.Pm.AV.c Go.Value.nilFunc], eq := none },
  { kind := Go.Pm.TK.slice 3, size := 1, bytes := 24, zero := some [Go.Pm.AV.snil], eq := none },
  { kind := Go.Pm.TK.other, size := 1, bytes := 8, zero := some [Go.Pm.AV.c Go.Value.nilFunc], eq := none },
  { kind := Go.Pm.TK.other, size := 1, bytes := 8, zero := some [Go.Pm.AV.c Go.Value.nilFunc], eq := none },
  { kind := Go.Pm.TK.other, size := 1, bytes := 8, zero := some [Go.Pm.AV.c Go.Value.nilFunc], eq := none },
  { kind := Go.Pm.TK.int Go.IntKind.u64, size := 1, bytes := 8, zero := some [Go.Pm.AV.d (Go.Pm.D.i Go.IntKind.u64 (Int.ofNat 0))], eq := some [Go.Pm.FK.int Go.IntKind.u64] },
  { kind := Go.Pm.TK.int Go.IntKind.u32, size := 1, bytes := 4, zero := some [Go.Pm.AV.d (Go.Pm.D.i Go.IntKind.u32 (Int.ofNat 0))], eq := some [Go.Pm.FK.int Go.IntKind.u32] },
  { kind := Go.Pm.TK.other, size := 1, bytes := 0, zero := none, eq := none },
  { kind := Go.Pm.TK.other, size := 1, bytes := 8, zero := some [Go.Pm.AV.c Go.Value.nilFunc], eq := none },
  { kind := Go.Pm.TK.other, size := 1, bytes := 8, zero := some [Go.Pm.AV.c Go.Value.nilFunc], eq := none },
  { kind := Go.Pm.TK.struct [(0, 17, 1), (1, 17, 1), (2, 17, 1), (3, 9, 1)], size := 4, bytes := 40, zero := some [Go.Pm.AV.c (Go.Value.pointer none), Go.Pm.AV.c (Go.Value.pointer none), Go.Pm.AV.c (Go.Value.pointer none), Go.Pm.AV.d (Go.Pm.D.s [])], eq := none },
  { kind := Go.Pm.TK.struct [(0, 17, 1), (1, 17, 1), (2, 17, 1), (3, 9, 1)], size := 4, bytes := 40, zero := some [Go.Pm.AV.c (Go.Value.pointer none), Go.Pm.AV.c (Go.Value.pointer none), Go.Pm.AV.c (Go.Value.pointer none), Go.Pm.AV.d (Go.Pm.D.s [])], eq := none },
  { kind := Go.Pm.TK.other, size := 0, bytes := 0, zero := some [], eq := none },
  { kind := Go.Pm.TK.struct [(0, 193, 0)], size := 0, bytes := 0, zero := some [], eq := none },
  { kind := Go.Pm.TK.struct [(0, 193, 0)], size := 0, bytes := 0, zero := some [], eq := none },
  { kind := Go.Pm.TK.other, size := 1, bytes := 8, zero := some [Go.Pm.AV.c Go.Value.nilFunc], eq := none },
  { kind := Go.Pm.TK.int Go.IntKind.u8, size := 1, bytes := 1, zero := some [Go.Pm.AV.d (Go.Pm.D.i Go.IntKind.u8 (Int.ofNat 0))], eq := some [Go.Pm.FK.int Go.IntKind.u8] },
  { kind := Go.Pm.TK.int Go.IntKind.u8, size := 1, bytes := 1, zero := some [Go.Pm.AV.d (Go.Pm.D.i Go.IntKind.u8 (Int.ofNat 0))], eq := some [Go.Pm.FK.int Go.IntKind.u8] },
  { kind := Go.Pm.TK.other, size := 1, bytes := 8, zero := some [Go.Pm.AV.c Go.Value.nilFunc], eq := none },
  { kind := Go.Pm.TK.ptr 5, size := 1, bytes := 8, zero := some [Go.Pm.AV.c (Go.Value.pointer none)], eq := none },
  { kind := Go.Pm.TK.int Go.IntKind.i32, size := 1, bytes := 4, zero := some [Go.Pm.AV.d (Go.Pm.D.i Go.IntKind.i32 (Int.ofNat 0))], eq := some [Go.Pm.FK.int Go.IntKind.i32] },
  { kind := Go.Pm.TK.int Go.IntKind.i32, size := 1, bytes := 4, zero := some [Go.Pm.AV.d (Go.Pm.D.i Go.IntKind.i32 (Int.ofNat 0))], eq := some [Go.Pm.FK.int Go.IntKind.i32] },
  { kind := Go.Pm.TK.struct [(0, 12, 1), (1, 12, 1), (2, 187, 1), (3, 197, 1), (4, 5, 1), (5, 5, 1), (6, 198, 1), (7, 199, 1), (8, 200, 1), (9, 201, 1), (10, 202, 1)], size := 11, bytes := 48, zero := some [Go.Pm.AV.d (Go.Pm.D.i Go.IntKind.u64 (Int.ofNat 0)), Go.Pm.AV.d (Go.Pm.D.i Go.IntKind.u64 (Int.ofNat 0)), Go.Pm.AV.d (Go.Pm.D.i Go.IntKind.u32 (Int.ofNat 0)), Go.Pm.AV.d (Go.Pm.D.i Go.IntKind.u8 (Int.ofNat 0)), Go.Pm.AV.d (Go.Pm.D.i Go.IntKind.u8 (Int.ofNat 0)), Go.Pm.AV.d (Go.Pm.D.i Go.IntKind.u8 (Int.ofNat 0)), Go.Pm.AV.d (Go.Pm.D.i Go.IntKind.u8 (Int.ofNat 0)), Go.Pm.AV.c Go.Value.nilFunc, Go.Pm.AV.c (Go.Value.pointer none), Go.Pm.AV.d (Go.Pm.D.i Go.IntKind.i32 (Int.ofNat 0)), Go.Pm.AV.d (Go.Pm.D.i Go.IntKind.i32 (Int.ofNat 0))], eq := none },
  { kind := Go.Pm.TK.struct [(0, 12, 1), (1, 12, 1), (2, 187, 1), (3, 197, 1), (4, 5, 1), (5, 5, 1), (6, 198, 1), (7, 199, 1), (8, 200, 1), (9, 201, 1), (10, 202, 1)], size := 11, bytes := 48, zero := some [Go.Pm.AV.d (Go.Pm.D.i Go.IntKind.u64 (Int.ofNat 0)), Go.Pm.AV.d (Go.Pm.D.i Go.IntKind.u64 (Int.ofNat 0)), Go.Pm.AV.d (Go.Pm.D.i Go.IntKind.u32 (Int.ofNat 0)), Go.Pm.AV.d (Go.Pm.D.i Go.IntKind.u8 (Int.ofNat 0)), Go.Pm.AV.d (Go.Pm.D.i Go.IntKind.u8 (Int.ofNat 0)), Go.Pm.AV.d (Go.Pm.D.i Go.IntKind.u8 (Int.ofNat 0)), Go.Pm.AV.d (Go.Pm.D.i Go.IntKind.u8 (Int.ofNat 0)), Go.Pm.AV.c Go.Value.nilFunc, Go.Pm.AV.c (Go.Value.pointer none), Go.Pm.AV.d (Go.Pm.D.i Go.IntKind.i32 (Int.ofNat 0)), Go.Pm.AV.d (Go.Pm.D.i Go.IntKind.i32 (Int.ofNat 0))], eq := none },
  { kind := Go.Pm.TK.other, size := 1, bytes := 8, zero := some [Go.Pm.AV.c (Go.Value.pointer none)], eq := none }]
theorem tab_eq : tab = (List.range 206).map (tdOf Go.Proofs.Tryz.prog) := by kernel_rfl
def cx : Cx := ⟨tab, [], []⟩
theorem tok : TOk Go.Proofs.Tryz.prog cx.T := tok_of tab_eq
theorem mixed : Go.Proofs.Tryz.prog.follows .mixedOrders = true := by kernel_rfl
end Go.Pm.Tryz
namespace Go.Pm
open Go Go.ChangeShapes Go.WideShapes
set_option linter.unusedVariables false
inductive Sh where
  | bool | int (k : IntKind) | str
  | sl (e : Sh)
  | agg (fs : List Sh)
def Sh.cells : Sh → List Sh
  | .agg fs => fs
  | x => [x]
def Sh.one : Sh → Bool
  | .agg _ => false
  | _ => true
mutual
def Sh.of : Sh → D → Prop
  | .bool, x => ∃ t, x = .b t
  | .int k, x => ∃ n, x = .i k n ∧ k.min ≤ n ∧ n ≤ k.max
  | .str, x => ∃ l, x = .s l ∧ l.length ≤ maxLen
  | .sl e, x => ∃ xs, x = .sl false xs ∧ (∀ y, y ∈ xs → e.of y) ∧ xs.length ≤ maxLen
  | .agg fs, x => ∃ cs, x = .agg cs ∧ ofL fs cs
def ofL : List Sh → List D → Prop
  | [], l => l = []
  | f :: fs, l => ∃ x r, l = x :: r ∧ f.of x ∧ ofL fs r
end
def shFields (P : Program) (f : TypeId → Option Sh) : List Field → Nat → Option (List Sh)
  | [], _ => some []
  | x :: r, off => if x.offset = off then (f x.type).bind fun s => if s.cells.length = P.cellsOf x.type ∧ s.cells.all Sh.one = true then (shFields P f r (off + P.cellsOf x.type)).map fun l => s.cells ++ l else none else none
def shOf (P : Program) : Nat → TypeId → Option Sh
  | 0, _ => none
  | n + 1, t => match P.underlying t with
    | some .bool => some .bool
    | some (.int k) => some (.int k)
    | some .string => some .str
    | some (.slice e) => (shOf P n e).bind fun s => if s.cells.length = P.cellsOf e ∧ 0 < P.cellsOf e ∧ s.cells.all Sh.one = true then some (.sl s) else none
    | some (.struct fs) => (shFields P (shOf P n) fs.toList 0).bind fun l => if l.length = P.cellsOf t then some (.agg l) else none
    | _ => none
theorem ofL_append : ∀ {a b : List Sh} {x y : List D}, ofL a x → ofL b y → ofL (a ++ b) (x ++ y)
  | [], b, x, y, h1, h2 => by simp only [ofL] at h1; subst h1; exact h2
  | f :: a, b, x, y, h1, h2 => by
    simp only [ofL] at h1
    obtain ⟨u, r, rfl, h3, h4⟩ := h1
    simp only [List.cons_append, ofL]
    exact ⟨u, r ++ y, rfl, h3, ofL_append h4 h2⟩
theorem repL_app {w : World} {X : Nat → Prop} : ∀ {xs ys : List D} {us vs : List Value}, repL w X xs us [] → repL w X ys vs [] → repL w X (xs ++ ys) (us ++ vs) []
  | [], ys, us, vs, h1, h2 => by simp only [repL] at h1; rw [h1.1]; exact h2
  | x :: xs, ys, us, vs, h1, h2 => by
    simp only [repL] at h1
    obtain ⟨u, us', b1, b2, rfl, hb, h3, h4⟩ := h1
    obtain ⟨rfl, rfl⟩ := List.append_eq_nil_iff.1 hb.symm
    simp only [List.cons_append, repL]
    exact ⟨u, us' ++ vs, [], [], rfl, rfl, h3, repL_app h4 h2⟩
theorem ofL_len : ∀ {a : List Sh} {x : List D}, ofL a x → x.length = a.length
  | [], x, h => by simp only [ofL] at h; subst h; rfl
  | f :: a, x, h => by
    simp only [ofL] at h
    obtain ⟨u, r, rfl, _, h4⟩ := h
    simp [ofL_len h4]
theorem rows_of {w : World} {X : Nat → Prop} {b sz : Nat} {e : Sh} : ∀ {n off : Nat},
    (∀ i, i < n → ∃ x v, e.of x ∧ x.rep w X v [] ∧ v.cells.size = sz ∧ x.cells.length = sz ∧ (∀ u ∈ v.cells.toList, u.oneCell' = true) ∧ w.rangeAt b (off + i * sz) v.cells.toList) →
    ∃ xs : List D, xs.length = n ∧ (∀ y, y ∈ xs → e.of y) ∧ repRows w X b sz xs off []
  | 0, off, h => ⟨[], rfl, fun y hy => (by cases hy), by simp [repRows]⟩
  | n + 1, off, h => by
    obtain ⟨x, v, h1, h2, h3, h4, h5, h6⟩ := h 0 (Nat.succ_pos n)
    obtain ⟨xs, g1, g2, g3⟩ := rows_of (w := w) (X := X) (b := b) (sz := sz) (e := e) (n := n) (off := off + sz) (fun i hi => by
      obtain ⟨x, v, h1, h2, h3, h4, h5, h6⟩ := h (i + 1) (by omega)
      refine ⟨x, v, h1, h2, h3, h4, h5, ?_⟩
      rwa [show off + sz + i * sz = off + (i + 1) * sz by rw [Nat.add_mul, Nat.one_mul]; omega])
    refine ⟨x :: xs, by simp [g1], fun y hy => ?_, ?_⟩
    · rcases List.mem_cons.1 hy with rfl | hy
      · exact h1
      · exact g2 y hy
    · simp only [repRows]
      exact ⟨v, [], [], rfl, h2, h3, ⟨h4, h5⟩, by simpa using h6, g3⟩
section
variable {H : Type} {enc : TypeId × Value → H} {P : Program} {w : World} {base : Nat} {spare : Nat → Bool} {held : Bool} {X : Nat → Prop}
theorem one_value {s : Sh} {xs : List D} {cs : List Value} (h1 : s.one = true) (ho : ofL s.cells xs) (hr : repL w X xs cs []) : ∃ x u, xs = [x] ∧ cs = [u] ∧ s.of x ∧ x.rep w X u [] := by
  have hc : s.cells = [s] := by cases s <;> first | rfl | cases h1
  rw [hc] at ho
  simp only [ofL] at ho
  obtain ⟨x, r, rfl, h3, rfl⟩ := ho
  simp only [repL] at hr
  obtain ⟨u, us, b1, b2, rfl, hb, h4, rfl, rfl⟩ := hr
  obtain ⟨rfl, _⟩ := List.append_eq_nil_iff.1 hb.symm
  exact ⟨x, u, rfl, rfl, h3, h4⟩
theorem fields_rep (f : TypeId → Option Sh) (cs : List Value) (m : Nat)
    (hf : ∀ t s cs' d, f t = some s → DataW.trod enc P w base spare held m t cs' = some d → ∃ xs, ofL s.cells xs ∧ repL w X xs cs' [] ∧ ∀ u ∈ cs', u.oneCell' = true) :
    ∀ (fs : List Field) (off : Nat) (l : List Sh), shFields P f fs off = some l →
      (∀ (j : Nat) (x : Field), fs[j]? = some x → ∃ d, DataW.trod enc P w base spare held m x.type ((cs.drop x.offset).take (P.cellsOf x.type)) = some d) →
      off + l.length = cs.length → ∃ xs, ofL l xs ∧ repL w X xs (cs.drop off) [] ∧ ∀ u ∈ cs.drop off, u.oneCell' = true
  | [], off, l, h, _, hl => by
    cases h
    have : cs.drop off = [] := List.drop_eq_nil_of_le (by simp at hl; omega)
    rw [this]
    exact ⟨[], by simp [ofL], by simp [repL], by simp⟩
  | x :: fs, off, l, h, hd, hl => by
    simp only [shFields] at h
    split at h
    case isFalse => cases h
    rename_i ho
    cases hs : f x.type with
    | none => rw [hs] at h; cases h
    | some s =>
      rw [hs] at h
      simp only [Option.bind_some] at h
      split at h
      case isFalse => cases h
      rename_i hcl
      cases hr : shFields P f fs (off + P.cellsOf x.type) with
      | none => rw [hr] at h; cases h
      | some l' =>
        rw [hr] at h
        cases h
        obtain ⟨d, hdd⟩ := hd 0 x rfl
        rw [ho] at hdd
        obtain ⟨xs1, h1, h2, h3⟩ := hf _ _ _ _ hs hdd
        obtain ⟨xs2, g1, g2, g3⟩ := fields_rep f cs m hf fs _ l' hr (fun j y hj => hd (j + 1) y (by simpa using hj)) (by rw [← hcl.1]; simp only [List.length_append] at hl; omega)
        have hsplit : cs.drop off = (cs.drop off).take (P.cellsOf x.type) ++ cs.drop (off + P.cellsOf x.type) := by
          rw [← List.drop_drop]; exact (List.take_append_drop _ _).symm
        refine ⟨xs1 ++ xs2, ofL_append h1 g1, ?_, ?_⟩
        · rw [hsplit]; exact repL_app h2 g2
        · rw [hsplit]
          intro u hu
          rcases List.mem_append.1 hu with hu | hu
          · exact h3 u hu
          · exact g3 u hu
theorem typed_rep (hX : ∀ b, ¬ X b) : ∀ (n : Nat) (t : TypeId) (s : Sh) (fuel : Nat) (cs : List Value) (d : DataW H × List MemPlace), shOf P n t = some s → DataW.trod enc P w base spare held fuel t cs = some d →
    ∃ xs, ofL s.cells xs ∧ repL w X xs cs [] ∧ ∀ u ∈ cs, u.oneCell' = true
  | 0, t, s, fuel, cs, d, h, _ => by cases h
  | n + 1, t, s, fuel, cs, d, h, hd => by
    simp only [shOf] at h
    split at h
    · rename_i hu
      cases h
      obtain ⟨b, rfl, _⟩ := DataW.trod_bool hu hd
      refine ⟨[.b b], ?_, ?_, ?_⟩
      · simp only [Sh.cells, ofL, Sh.of]; exact ⟨_, [], rfl, ⟨b, rfl⟩, rfl⟩
      · simp only [repL, D.rep]; exact ⟨_, [], [], [], rfl, rfl, ⟨rfl, rfl⟩, rfl, rfl⟩
      · intro u hu; rw [List.mem_singleton.1 hu]; rfl
    · rename_i k hu
      cases h
      obtain ⟨b, rfl, _, hw⟩ := DataW.trod_int hu hd
      simp only [Lit.wf, Bool.and_eq_true, decide_eq_true_eq] at hw
      refine ⟨[.i k b], ?_, ?_, ?_⟩
      · simp only [Sh.cells, ofL, Sh.of]; exact ⟨_, [], rfl, ⟨b, rfl, hw.1, hw.2⟩, rfl⟩
      · simp only [repL, D.rep]; exact ⟨_, [], [], [], rfl, rfl, ⟨rfl, rfl⟩, rfl, rfl⟩
      · intro u hu; rw [List.mem_singleton.1 hu]; rfl
    · rename_i hu
      cases h
      obtain ⟨b, rfl, _, hw⟩ := DataW.trod_string hu hd
      refine ⟨[.s b.data.toList], ?_, ?_, ?_⟩
      · simp only [Sh.cells, ofL, Sh.of]; exact ⟨_, [], rfl, ⟨_, rfl, by rw [Array.length_toList]; exact hw⟩, rfl⟩
      · simp only [repL, D.rep]; exact ⟨_, [], [], [], rfl, rfl, ⟨rfl, rfl⟩, rfl, rfl⟩
      · intro u hu; rw [List.mem_singleton.1 hu]; rfl
    · rename_i e hu
      cases hs : shOf P n e with
      | none => rw [hs] at h; cases h
      | some s' =>
        rw [hs] at h
        simp only [Option.bind_some] at h
        split at h
        case isFalse => cases h
        rename_i hcl
        obtain ⟨hcl, hpos, hone⟩ := hcl
        cases h
        rcases Go.Deep.open_slice hu hd with ⟨rfl, _⟩ | ⟨a, len, cap, m, n', DD, Pl, rfl, hb, hl, hm, hmm, hx, hi⟩
        · refine ⟨[.sl false []], ?_, ?_, ?_⟩
          · simp only [Sh.cells, ofL, Sh.of]; exact ⟨_, [], rfl, ⟨[], rfl, fun y hy => (by cases hy), Nat.zero_le _⟩, rfl⟩
          · simp only [repL, D.rep]; exact ⟨_, [], [], [], rfl, rfl, ⟨trivial, rfl, none, 0, rfl, Nat.le_refl _, .inl trivial⟩, rfl, rfl⟩
          · intro u hu; rw [List.mem_singleton.1 hu]; rfl
        · have hmlen : len ≤ m := by rw [hmm]; split <;> omega
          have hspot : 0 < len → a.spot = none := by
            intro hl0
            obtain ⟨cs', hcs, htr⟩ := hi 0 (by omega)
            obtain ⟨_, hlen, hcell⟩ := World.cells?_some hcs
            have h0 := hcell 0 hpos
            simp only [Addr.add, Nat.zero_mul, if_true] at h0
            have hsome : cs'[0]? = some (cs'[0]'(by omega)) := List.getElem?_eq_getElem (by omega)
            rw [hsome] at h0
            unfold World.cell? at h0
            split at h0
            · split at h0
              · cases h0
              · rename_i hss
                cases hh : a.spot with
                | none => rfl
                | some _ => rw [hh] at hss; exact absurd rfl hss
            · cases h0
          have hrow : ∀ i, i < len → ∃ x v, s'.of x ∧ x.rep w X v [] ∧ v.cells.size = P.cellsOf e ∧ x.cells.length = P.cellsOf e ∧ (∀ u ∈ v.cells.toList, u.oneCell' = true) ∧ w.rangeAt a.block (a.off + i * P.cellsOf e) v.cells.toList := by
            intro i hil
            obtain ⟨cs', hcs, htr⟩ := hi i (by omega)
            obtain ⟨_, hlen, hcell⟩ := World.cells?_some hcs
            obtain ⟨xs, h1, h2, h3⟩ := typed_rep hX n e s' n' cs' _ hs htr
            have hrange : w.rangeAt a.block (a.off + i * P.cellsOf e) cs' := by
              intro j v hj
              have hjl : j < P.cellsOf e := by rw [← hlen]; exact (List.getElem?_eq_some_iff.1 hj).1
              have := hcell j hjl
              rw [hj] at this
              have hadd : ∀ (x : Addr) (k : Nat), x.spot = none → x.add k = ⟨x.block, x.off + k, none⟩ := by
                intro x k hx
                obtain ⟨xb, xo, xs⟩ := x
                simp only at hx
                subst hx
                unfold Addr.add
                split
                · rename_i hk; subst hk; rfl
                · rfl
              have hsp : w.cell? ⟨a.block, a.off + i * P.cellsOf e + j, none⟩ = w.cell? ((a.add (i * P.cellsOf e)).add j) := by
                rw [hadd a _ (hspot (by omega))]
                rw [hadd _ _ rfl]
              rw [hsp]; exact this
            cases hso : s'.one with
            | true =>
              obtain ⟨x, u, rfl, rfl, hx1, hx2⟩ := one_value hso h1 h2
              have hu1 : u.oneCell' = true := h3 u (List.mem_cons_self ..)
              have huc : u.cells = #[u] := by cases u <;> first | rfl | cases hu1
              have hxc : x.cells = [x] := by
                cases s' with
                | agg _ => cases hso
                | bool => simp only [Sh.of] at hx1; obtain ⟨_, rfl⟩ := hx1; rfl
                | int k => simp only [Sh.of] at hx1; obtain ⟨_, rfl, _⟩ := hx1; rfl
                | str => simp only [Sh.of] at hx1; obtain ⟨_, rfl, _⟩ := hx1; rfl
                | sl _ => simp only [Sh.of] at hx1; obtain ⟨_, rfl, _⟩ := hx1; rfl
              refine ⟨x, u, hx1, hx2, ?_, ?_, ?_, ?_⟩
              · rw [huc]; simpa using hlen
              · rw [hxc]; simpa using hlen
              · rw [huc]; simpa using hu1
              · rw [huc]; exact hrange
            | false =>
              cases s' with
              | agg fs =>
                refine ⟨.agg xs, .agg cs'.toArray, ?_, ?_, ?_, ?_, ?_, ?_⟩
                · simp only [Sh.of]; exact ⟨xs, rfl, h1⟩
                · simp only [D.rep]; exact ⟨_, rfl, by simpa using h2⟩
                · simpa [Value.cells] using hlen
                · simp only [D.cells]; rw [ofL_len h1]; exact hcl
                · simpa [Value.cells] using h3
                · simpa [Value.cells] using hrange
              | _ => cases hso
          obtain ⟨xs, g1, g2, g3⟩ := rows_of hrow
          refine ⟨[.sl false xs], ?_, ?_, ?_⟩
          · simp only [Sh.cells, ofL, Sh.of]; exact ⟨_, [], rfl, ⟨xs, rfl, g2, by omega⟩, rfl⟩
          · simp only [repL, D.rep]
            refine ⟨_, [], [], [], rfl, rfl, ⟨trivial, rfl, some a, cap, by rw [g1], by omega, ?_⟩, rfl, rfl⟩
            by_cases hne : xs = []
            · exact .inl hne
            · refine .inr ⟨a.block, a.off, P.cellsOf e, hne, ?_, hpos, g3, hX _⟩
              have hl0 : 0 < len := by rw [← g1]; exact List.length_pos_iff.2 hne
              rw [← hspot hl0]
          · intro u hu; rw [List.mem_singleton.1 hu]; rfl
    · rename_i fs hu
      cases hs : shFields P (shOf P n) fs.toList 0 with
      | none => rw [hs] at h; cases h
      | some l =>
        rw [hs] at h
        simp only [Option.bind_some] at h
        split at h
        case isFalse => cases h
        rename_i hcl
        cases h
        obtain ⟨xs, n', _, _, hl, hlen, hf⟩ := DataW.trod_struct hu hd
        have := fields_rep (X := X) (shOf P n) cs n' (fun t s cs' d h1 h2 => typed_rep hX n t s n' cs' d h1 h2) fs.toList 0 l hs (fun j x hj => by
          have hj' : fs[j]? = some x := by simpa using hj
          have hjl : j < xs.length := by rw [hlen]; exact (Array.getElem?_eq_some_iff.1 hj').1
          exact ⟨_, (hf j x hj').trans (List.getElem?_eq_getElem hjl)⟩) (by rw [hl, hcl]; omega)
        simp only [List.drop_zero] at this
        exact this
    · cases h
theorem arg_rep (hX : ∀ b, ¬ X b) {n : Nat} {t : TypeId} {s : Sh} {v : Value} {d : DataW H} {p : List MemPlace} {r : Reach} {b0 : Nat} (hs : shOf P n t = some s) (hv : Value.okWide P w r b0 t v) (h : DataW.Trod enc P w base spare held t v d p) :
    ∃ x, s.of x ∧ x.rep w X v [] := by
  obtain ⟨fuel, hf⟩ := h
  obtain ⟨xs, h1, h2, h3⟩ := typed_rep hX n t s fuel _ _ hs hf
  cases n with
  | zero => cases hs
  | succ n =>
    have single : s.one = true → v.cells.toList = [v] → ∃ x, s.of x ∧ x.rep w X v [] := by
      intro hso hc
      rw [hc] at h2
      obtain ⟨x, u, rfl, hu, hx1, hx2⟩ := one_value hso h1 h2
      cases hu
      exact ⟨x, hx1, hx2⟩
    simp only [shOf] at hs
    split at hs
    · rename_i hu; cases hs; obtain ⟨b, rfl⟩ := okWide_bool hu hv; exact single rfl rfl
    · rename_i hu; cases hs; obtain ⟨b, rfl⟩ := okWide_int hu hv; exact single rfl rfl
    · rename_i hu; cases hs; obtain ⟨b, rfl⟩ := okWide_string hu hv; exact single rfl rfl
    · rename_i hu
      obtain ⟨a, len, cap, rfl⟩ := okWide_slice hu hv
      refine single ?_ rfl
      cases hs' : shOf P n _ with
      | none => rw [hs'] at hs; cases hs
      | some s' =>
        rw [hs'] at hs
        simp only [Option.bind_some] at hs
        split at hs
        · cases hs; rfl
        · cases hs
    · rename_i hu
      obtain ⟨cs, rfl, _⟩ := okWide_struct hu hv
      cases hs' : shFields P (shOf P n) _ 0 with
      | none => rw [hs'] at hs; cases hs
      | some l =>
        rw [hs'] at hs
        simp only [Option.bind_some] at hs
        split at hs
        · cases hs
          refine ⟨.agg xs, ?_, ?_⟩
          · simp only [Sh.of]; exact ⟨xs, rfl, h1⟩
          · simp only [D.rep]; exact ⟨cs, rfl, h2⟩
        · cases hs
    · cases hs
end
end Go.Pm
namespace Go.Pm
open Go Go.ChangeShapes Go.WideShapes Go.RowKit
set_option linter.unusedVariables false
section
variable {P : Program} {H : Type} {enc : TypeId × Value → H}
theorem args_again {T : TypeId → Prop} (K : Kids P T) (hz : ∀ t e, T t → P.underlying t = some (.slice e) → 0 < P.cellsOf e) {W W' : World} (bel : Below W.heap.size W W') :
    ∀ {ts : List TypeId} {vs : List Value} {ds : List (DataW H)} {ps : List MemPlace}, (∀ t ∈ ts, T t) → DataW.TrodAll enc P W 0 (fun _ => true) true ts vs ds ps →
      DataW.TrodAll enc P W' 0 (fun b => decide (b < W.heap.size)) true ts vs ds ps
  | [], [], [], _, _, h => h
  | t :: ts, v :: vs, d :: ds, ps, hT, ⟨p, q, ⟨n, h1⟩, h2, e⟩ => by
    refine ⟨p, q, ⟨n, ?_⟩, args_again K hz bel (fun t ht => hT t (List.mem_cons_of_mem _ ht)) h2, e⟩
    have hlt := DataW.trod_lt n _ _ _ h1
    have h3 := DataW.trod_respare (spare' := fun b => decide (b < W.heap.size)) K hz n _ _ _ (hT t (List.mem_cons_self ..)) h1 (fun p hp => decide_eq_true (hlt p hp))
    exact DataW.trod_carry n _ _ _ h3 (fun p hp => bel.same (hlt p hp))
theorem args_same (K : Kids P (· < P.types.size)) (hz : ∀ t e, t < P.types.size → P.underlying t = some (.slice e) → 0 < P.cellsOf e) {W W' : World} (bel : Below W.heap.size W W')
    {ts : List TypeId} {vs : List Value} {ds : List (DataW H)} {ps : List MemPlace} (hA : DataW.TrodAll enc P W 0 (fun _ => true) true ts vs ds ps) (hT : (ts.all fun t => Nat.blt t P.types.size) = true) :
    DataW.TrodAll enc P W' 0 (fun b => decide (b < W.heap.size)) true ts vs ds ps :=
  args_again K hz bel (fun t ht => Nat.le_of_ble_eq_true (List.all_eq_true.1 hT t ht)) hA
def noX (b : Nat) : Prop := False
theorem xof_none : Xof noX (fun _ => none) = noX := by
  funext b
  refine propext ⟨?_, fun h => h.elim⟩
  rintro (h | ⟨k, p, hp, _⟩)
  · exact h
  · cases hp
theorem mem_none {w : World} : Mem noX (fun _ => none) (fun i => ([] : List Ob)[i]?) w := by
  refine ⟨?_, ?_, ?_, ?_, ?_⟩
  · intro k o h; simp at h
  · intro k p h; cases h
  · intro k k' p p' h; cases h
  · intro k p h; cases h
  · intro b h; exact h.elim
theorem law_calls {f : FuncId} {xs : List AV} (h : Ent P f xs [] (.d (.b true)) []) {W : World} {args : Array Value} (hr : AV.repL W noX (fun _ => none) xs args.toList) :
    Calls P f args W fun e W' => e = .returned (.bool true) ∧ Below W.heap.size W W' := by
  refine Calls.mono (h.2 noX (fun _ => none) W args (by rw [xof_none]; exact hr) mem_none) ?_
  rintro e W' ⟨R, O, v, J', ⟨rfl, rfl⟩, rfl, hv, _, hk, _, _⟩
  simp only [AV.rep, D.rep] at hv
  refine ⟨by rw [hv.1], hk.os, hk.tape, hk.output, hk.size, fun k hlt => hk.block k hlt ?_⟩
  rintro ⟨k, p, hp, _⟩
  cases hp
end
end Go.Pm
namespace Go.Pm
open Go
set_option linter.unusedVariables false
variable {P : Program}
theorem entQ_of_calls {f : FuncId} {args : List AV} {Q : AV → List Ob → Prop} (hE : Enters P f)
    (h : ∀ (X : Nat → Prop) (J : Nat → Option Place) (w : World) (vs : Array Value), AV.repL w X J args vs.toList → Calls P f vs w fun e w' => w' = w ∧ ∃ R v, Q R [] ∧ e = .returned v ∧ R.rep w X J v) : EntQ P f args [] Q :=
  ⟨hE, fun X0 J w vs hr hm => (h _ J w vs hr).mono fun e w' ⟨hw, R, v, hq, he, hv⟩ => by
    subst hw
    exact ⟨R, [], v, J, hq, he, hv, hm, Kept.refl _ _, fun k p b hp hb => .inl ⟨k, p, hp, hb⟩, fun k p hp => ⟨p, hp, p.like_refl⟩⟩⟩
theorem ent_of_calls {f : FuncId} {args : List AV} {R : AV} (hE : Enters P f)
    (h : ∀ (X : Nat → Prop) (J : Nat → Option Place) (w : World) (vs : Array Value), AV.repL w X J args vs.toList → Calls P f vs w fun e w' => w' = w ∧ ∃ v, e = .returned v ∧ R.rep w X J v) : Ent P f args [] R [] :=
  entQ_of_calls hE fun X J w vs hr => (h X J w vs hr).mono fun e w' ⟨hw, v, he, hv⟩ => ⟨hw, R, v, ⟨rfl, rfl⟩, he, hv⟩
theorem compare_less : ∀ (a b : List UInt8), Lib.compareBytes a b = if Op.bytesLess a b then -1 else if a = b then 0 else 1
  | [], [] => by simp [Lib.compareBytes, Op.bytesLess]
  | [], _ :: _ => by simp [Lib.compareBytes, Op.bytesLess]
  | _ :: _, [] => by simp [Lib.compareBytes, Op.bytesLess]
  | x :: a, y :: b => by
    simp only [Lib.compareBytes, Op.bytesLess, compare_less a b]
    by_cases h1 : x < y
    · simp [h1]
    · by_cases h2 : y < x
      · have hne : ¬ x = y := fun e => by subst e; exact h1 h2
        simp [h1, h2, hne]
      · have e : x = y := UInt8.le_antisymm (UInt8.not_lt.1 h2) (UInt8.not_lt.1 h1)
        subst e
        simp [h1]
theorem less_irrefl : ∀ (a : List UInt8), Op.bytesLess a a = false
  | [] => by simp [Op.bytesLess]
  | x :: a => by simp [Op.bytesLess, less_irrefl a]
end Go.Pm
namespace Go.Pm
open Go
set_option maxRecDepth 100000
theorem ofInt_nat (n : Nat) {w : Nat} : BitVec.ofInt w (n : Int) = BitVec.ofNat w n := by
  apply BitVec.eq_of_toNat_eq
  simp [BitVec.toNat_ofNat]
theorem wrap_u64_nat {n : Nat} (h : n < 18446744073709551616) : IntKind.u64.wrap (n : Int) = n := by
  simp only [IntKind.wrap, IntKind.signed, IntKind.bits, Bool.false_and, Bool.false_eq_true, if_false]
  omega
theorem wrap_u8_nat {n : Nat} (h : n < 256) : IntKind.u8.wrap (n : Int) = n := by
  simp only [IntKind.wrap, IntKind.signed, IntKind.bits, Bool.false_and, Bool.false_eq_true, if_false]
  omega
theorem bit_or {u s : Nat} (hu : u < 18446744073709551616) (hs : s < 18446744073709551616) : bitD .u64 (· ||| ·) (u : Int) (s : Int) = .i .u64 ((u ||| s : Nat) : Int) := by
  have h : (BitVec.ofInt 64 (u : Int) ||| BitVec.ofInt 64 (s : Int)).toNat = u ||| s := by
    rw [ofInt_nat, ofInt_nat, BitVec.toNat_or, BitVec.toNat_ofNat, BitVec.toNat_ofNat, Nat.mod_eq_of_lt hu, Nat.mod_eq_of_lt hs]
  show D.i .u64 (IntKind.u64.wrap ((BitVec.ofInt 64 (u : Int) ||| BitVec.ofInt 64 (s : Int)).toNat : Int)) = _
  rw [h, wrap_u64_nat (Nat.or_lt_two_pow (n := 64) hu hs)]
theorem bit_and7 {c : Nat} (hc : c < 256) : bitD .u8 (· &&& ·) (c : Int) 127 = .i .u8 ((c % 128 : Nat) : Int) := by
  have h : (BitVec.ofInt 8 (c : Int) &&& BitVec.ofInt 8 127).toNat = c % 128 := by
    rw [ofInt_nat, show BitVec.ofInt 8 127 = BitVec.ofNat 8 127 from rfl, BitVec.toNat_and, BitVec.toNat_ofNat, BitVec.toNat_ofNat, Nat.mod_eq_of_lt hc]
    exact Nat.and_two_pow_sub_one_eq_mod c 7
  show D.i .u8 (IntKind.u8.wrap ((BitVec.ofInt 8 (c : Int) &&& BitVec.ofInt 8 127).toNat : Int)) = _
  rw [h, wrap_u8_nat (by omega)]
theorem bit_and1 {u : Nat} (hu : u < 18446744073709551616) : bitD .u64 (· &&& ·) (u : Int) 1 = .i .u64 ((u % 2 : Nat) : Int) := by
  have h : (BitVec.ofInt 64 (u : Int) &&& BitVec.ofInt 64 1).toNat = u % 2 := by
    rw [ofInt_nat, show BitVec.ofInt 64 1 = BitVec.ofNat 64 1 from rfl, BitVec.toNat_and, BitVec.toNat_ofNat, BitVec.toNat_ofNat, Nat.mod_eq_of_lt hu]
    exact Nat.and_two_pow_sub_one_eq_mod u 1
  show D.i .u64 (IntKind.u64.wrap ((BitVec.ofInt 64 (u : Int) &&& BitVec.ofInt 64 1).toNat : Int)) = _
  rw [h, wrap_u64_nat (by omega)]
theorem bit_xor0 {x : Nat} (hx : x < 9223372036854775808) : bitD .i64 (· ^^^ ·) (x : Int) 0 = .i .i64 (x : Int) := by
  have h : (BitVec.ofInt 64 (x : Int) ^^^ BitVec.ofInt 64 0).toNat = x := by
    rw [ofInt_nat, show BitVec.ofInt 64 0 = BitVec.ofNat 64 0 from rfl, BitVec.toNat_xor, BitVec.toNat_ofNat, BitVec.toNat_ofNat, Nat.mod_eq_of_lt (by omega)]
    simp
  show D.i .i64 (IntKind.i64.wrap ((BitVec.ofInt 64 (x : Int) ^^^ BitVec.ofInt 64 0).toNat : Int)) = _
  rw [h, IntKind.wrap_i64]
  exact congrArg (D.i .i64) (by omega)
theorem bit_xor1 {x : Nat} (hx : x < 9223372036854775808) : bitD .i64 (· ^^^ ·) (x : Int) (-1) = .i .i64 (-(x : Int) - 1) := by
  have h : (BitVec.ofInt 64 (x : Int) ^^^ BitVec.ofInt 64 (-1)).toNat = 18446744073709551615 - x := by
    rw [ofInt_nat, show BitVec.ofInt 64 (-1) = BitVec.allOnes 64 from by decide, BitVec.xor_allOnes, BitVec.toNat_not, BitVec.toNat_ofNat, Nat.mod_eq_of_lt (by omega)]
  show D.i .i64 (IntKind.i64.wrap ((BitVec.ofInt 64 (x : Int) ^^^ BitVec.ofInt 64 (-1)).toNat : Int)) = _
  rw [h, IntKind.wrap_i64]
  exact congrArg (D.i .i64) (by omega)
theorem or_shift {u c n : Nat} (hu : u < 2 ^ n) : u ||| (c * 2 ^ n) = u + c * 2 ^ n := by
  rw [Nat.or_comm, Nat.mul_comm, ← Nat.two_pow_add_eq_or_of_lt hu, Nat.add_comm]
end Go.Pm
namespace Go.Pm.Tryz
open Go Go.Proofs
set_option linter.unusedVariables false
set_option linter.unusedSimpArgs false
set_option maxRecDepth 100000
def inside (x lo hi : Int) : Bool := decide (lo ≤ x) && decide (x ≤ hi)
theorem inside_iff (x lo hi : Int) : inside x lo hi = true ↔ lo ≤ x ∧ x ≤ hi := by simp [inside]
theorem wrap_i64_id (x : Int) (h1 : -9223372036854775808 ≤ x) (h2 : x ≤ 9223372036854775807) : IntKind.i64.wrap x = x := by rw [IntKind.wrap_i64]; omega
theorem wrap_u64_id (x : Int) (h1 : 0 ≤ x) (h2 : x ≤ 9223372036854775807) : IntKind.u64.wrap x = x := by
  simp only [IntKind.wrap, IntKind.signed, IntKind.bits, Bool.false_and, Bool.false_eq_true, if_false]
  omega
theorem get_map {α : Type} {f : α → D} {ss : List α} {k : Nat} (h : k < ss.length) : (ss.map f)[k]? = some (f (ss[k]'h)) := by simp [h]
theorem step_up {k n : Nat} (h : k < n) (hn : n ≤ maxLen) : IntKind.i64.wrap ((k : Int) + 1) = ((k + 1 : Nat) : Int) := by
  have : maxLen = 9223372036854775807 := rfl
  rw [wrap_i64_id _ (by omega) (by omega)]; rfl
theorem lt_of_dec {α : Type} {f : α → D} {ss : List α} {k : Nat} (h : decide ((k : Int) < ((ss.map f).length : Int)) = true) : k < ss.length := by
  have := of_decide_eq_true h
  rw [List.length_map] at this
  omega
theorem mu_up {k n : Nat} (h : k < n) (hn : n ≤ maxLen) : n - (IntKind.i64.wrap ((k : Int) + 1)).toNat < n - ((k : Int)).toNat := by
  rw [step_up h hn]; omega
theorem lt_of_dec' {n k : Nat} (h : decide ((k : Int) < (n : Int)) = true) : k < n := by
  have := of_decide_eq_true h; omega
theorem any_up {α : Type} {p : α → Bool} {ss : List α} {k : Nat} (h : k < ss.length) (h1 : (ss.take k).any p = false) (h2 : p (ss[k]'h) = false) : (ss.take (k + 1)).any p = false := by
  rw [List.take_succ_eq_append_getElem h, List.any_append, h1]
  simp [h2]
theorem get_ex {α : Type} {ss : List α} {k : Nat} (h : k < ss.length) : ∃ t, ss[k]? = some t := ⟨_, List.getElem?_eq_getElem h⟩
theorem get_map' {α : Type} {f : α → D} {ss : List α} {k : Nat} {t : α} (h : ss[k]? = some t) : (ss.map f)[k]? = some (f t) := by simp [h]
theorem get_lt {α : Type} {ss : List α} {k : Nat} {t : α} (h : ss[k]? = some t) : k < ss.length := (List.getElem?_eq_some_iff.1 h).1
theorem get_mem {α : Type} {ss : List α} {k : Nat} {t : α} (h : ss[k]? = some t) : t ∈ ss := List.mem_of_getElem? h
theorem any_up' {α : Type} {p : α → Bool} {ss : List α} {k : Nat} {t : α} (h : ss[k]? = some t) (h1 : (ss.take k).any p = false) (h2 : p t = false) : (ss.take (k + 1)).any p = false := by
  obtain ⟨hk, rfl⟩ := List.getElem?_eq_some_iff.1 h
  exact any_up hk h1 h2
theorem not_ok {b : Bool} (h : (!b) = false) : b = true := by simpa using h
theorem not_ok' {b : Bool} (h : (!b) = true) : b = false := by simpa using h
theorem ex_map {α : Type} {f : α → D} {q : α → Prop} : ∀ {xs : List D}, (∀ y, y ∈ xs → ∃ s, y = f s ∧ q s) → ∃ ss : List α, xs = ss.map f ∧ ∀ s, s ∈ ss → q s
  | [], _ => ⟨[], rfl, fun s h => by cases h⟩
  | x :: xs, h => by
    obtain ⟨s, rfl, hs⟩ := h x (List.mem_cons_self ..)
    obtain ⟨ss, rfl, hss⟩ := ex_map (xs := xs) fun y hy => h y (List.mem_cons_of_mem _ hy)
    refine ⟨s :: ss, rfl, fun t ht => ?_⟩
    rcases List.mem_cons.1 ht with rfl | ht
    · exact hs
    · exact hss t ht
def sel {α : Type} (u : Bool) (a b : α) : α := match u with | true => a | false => b
def byteOf (x : Int) : UInt8 := UInt8.ofNat (IntKind.u8.wrap x).toNat
theorem wrap_u8 (x : Int) : 0 ≤ IntKind.u8.wrap x ∧ IntKind.u8.wrap x < 256 := by
  simp only [IntKind.wrap, IntKind.signed, IntKind.bits, Bool.false_and, Bool.false_eq_true, if_false]
  omega
theorem u8s_byte (x : Int) : [D.i .u8 (IntKind.u8.wrap x)] = u8s [byteOf x] := by
  have h := wrap_u8 x
  simp only [u8s, List.map_cons, List.map_nil, byteOf]
  congr 2
  rw [UInt8.toNat_ofNat']
  omega
theorem lt_of_dec0 {xs : List D} {k : Nat} (h : decide ((k : Int) < (xs.length : Int)) = true) : k < xs.length := by
  have := of_decide_eq_true h; omega
theorem set_get {xs : List D} {k n : Nat} {y : D} (hl : xs.length = n) (hk : k < n) : (xs.set k y)[k]? = some y := List.getElem?_set_self (by omega)
def up (m : Int) : Int := IntKind.i64.wrap (m + 1)
end Go.Pm.Tryz
namespace Go.Pm.Tryz
open Go Go.Proofs
set_option linter.unusedVariables false
set_option linter.unusedSimpArgs false
set_option maxRecDepth 100000
theorem within (x lo hi : Int) : Ent Tryz.prog 48 [.d (.i .i64 x), .d (.i .i64 lo), .d (.i .i64 hi)] [] (.d (.b (inside x lo hi))) [] := by
  refine ent_of tok mixed (f := 48) Tryz.func48 (by kernel_rfl) (keep := false) ?_
  repeat' ((conv => whnf) <;> (first
    | refine ⟨⟨none⟩, ?_⟩
    | refine Both.mk ?_ ?_
    | refine ⟨rfl, ?_⟩
    | (split <;> (rename_i h; try rw [h]))))
  all_goals (conv => whnf)
  all_goals (refine ⟨congrArg (fun b => AV.d (D.b b)) ?_, rfl⟩; simp [inside, *])
def chOk (i : Nat) (c : Int) : Bool := (decide (97 ≤ c) && decide (c ≤ 122)) || (decide (0 < i) && ((decide (48 ≤ c) && decide (c ≤ 57)) || decide (c = 95)))
def chAt (l : List UInt8) (k : Nat) : Int := ((l.getD k 0).toNat : Int)
def upToOk (l : List UInt8) : Nat → Bool
  | 0 => true
  | k + 1 => upToOk l k && chOk k (chAt l k)
def nameOk (l : List UInt8) : Bool := (decide (1 ≤ l.length) && decide (l.length ≤ 20)) && upToOk l l.length
theorem upToOk_false {l : List UInt8} {k : Nat} (h : chOk k (chAt l k) = false) : ∀ {n : Nat}, k < n → upToOk l n = false
  | 0, hk => by omega
  | n + 1, hk => by
    simp only [upToOk]
    by_cases e : k = n
    · subst e; rw [h, Bool.and_false]
    · rw [upToOk_false h (by omega), Bool.false_and]
set_option maxHeartbeats 4000000 in
theorem specNameRight (l : List UInt8) (hs : l.length ≤ maxLen) : Ent Tryz.prog 36 [.d (.s l)] [] (.d (.b (nameOk l))) [] := by
  refine ent_of tok mixed (f := 36) Tryz.func36 (by kernel_rfl) (keep := false) ?_
  repeat' ((conv => whnf) <;> (first
    | (refine ⟨[3, 0], [], fun s => ∃ (k : Nat) (n : Int), n = k ∧ k ≤ l.length ∧ upToOk l k = true ∧ s = ⟨[(3, .d (.i .i64 n)), (0, .d (.s l))], []⟩,
        fun s => match look 3 s.env with | some (.d (.i _ n)) => l.length - n.toNat | _ => 0, rfl, ⟨0, _, rfl, Nat.zero_le _, rfl, rfl⟩, ?_⟩; rintro s ⟨k, n, rfl, hk, hu, rfl⟩)
    | refine ⟨⟨none⟩, ?_⟩
    | refine Both.mk ?_ ?_
    | refine ⟨rfl, ?_⟩
    | refine ⟨⟨Int.natCast_nonneg _, of_decide_eq_true (by assumption)⟩, ?_⟩
    | (split <;> (rename_i h; try rw [h]))))
  all_goals (conv => whnf)
  all_goals first
    | (refine ⟨congrArg (fun b => AV.d (D.b b)) ?_, rfl⟩
       first
       | (have hf : chOk k (chAt l k) = false := by
            simp only [chOk, chAt, Int.toNat_natCast] at *
            simp_all
            try omega
          simp only [nameOk, upToOk_false hf (lt_of_dec' (by assumption)), Bool.and_false]; done)
       | (simp only [nameOk]; simp_all; done)
       | (simp only [nameOk]; simp_all; omega)
       | (simp only [nameOk]; simp_all
          have e : k = l.length := by omega
          subst e
          exact ⟨⟨by omega, by omega⟩, hu⟩))
    | (exact ⟨⟨k + 1, _, step_up (lt_of_dec' (by assumption)) hs, lt_of_dec' (by assumption), by
          have hf : chOk k (chAt l k) = true := by
            simp only [chOk, chAt, Int.toNat_natCast] at *
            simp_all
            try omega
          simp only [upToOk, hu, hf, Bool.and_true], rfl⟩, mu_up (lt_of_dec' (by assumption)) hs⟩)
set_option maxHeartbeats 4000000 in
theorem implNameRight (l : List UInt8) (hs : l.length ≤ maxLen) : Ent Tryz.prog 52 [.d (.s l)] [] (.d (.b (nameOk l))) [] := by
  refine ent_of tok mixed (f := 52) Tryz.func52 (by kernel_rfl) (keep := false) ?_
  repeat' ((conv => whnf) <;> (first
    | (refine ⟨[7, 6, 0], [], fun s => ∃ (k : Nat) (n : Int), n = k ∧ k ≤ l.length ∧ upToOk l k = true ∧ s = ⟨[(7, .d (.i .i64 n)), (6, .d (.i .i64 l.length)), (0, .d (.s l))], []⟩,
        fun s => match look 7 s.env with | some (.d (.i _ n)) => l.length - n.toNat | _ => 0, rfl, ⟨0, _, rfl, Nat.zero_le _, rfl, rfl⟩, ?_⟩; rintro s ⟨k, n, rfl, hk, hu, rfl⟩)
    | refine ⟨⟨none⟩, ?_⟩
    | refine Both.mk ?_ ?_
    | refine ⟨rfl, ?_⟩
    | refine ⟨⟨Int.natCast_nonneg _, of_decide_eq_true (by assumption)⟩, ?_⟩
    | (refine ⟨_, within _ _ _, ?_⟩; rintro _ _ ⟨rfl, rfl⟩)
    | (split <;> (rename_i h; try rw [h]))))
  all_goals (conv => whnf)
  all_goals first
    | (refine ⟨congrArg (fun b => AV.d (D.b b)) ?_, rfl⟩
       first
       | (have hf : chOk k (chAt l k) = false := by
            simp only [chOk, chAt, Int.toNat_natCast] at *
            simp_all
            try omega
          simp only [nameOk, upToOk_false hf (lt_of_dec' (by assumption)), Bool.and_false]; done)
       | (have e : k = l.length := by simp at *; omega
          subst e
          simp only [nameOk, hu, Bool.and_true, inside]
          rw [Bool.eq_iff_iff]; simp; omega))
    | (exact ⟨⟨k + 1, _, step_up (lt_of_dec' (by assumption)) hs, lt_of_dec' (by assumption), by
          have hf : chOk k (chAt l k) = true := by
            simp only [chOk, chAt, Int.toNat_natCast] at *
            simp_all
            try omega
          simp only [upToOk, hu, hf, Bool.and_true], rfl⟩, mu_up (lt_of_dec' (by assumption)) hs⟩)
  all_goals trace_state
def strD (l : List UInt8) : D := .s l
theorem take_up {α : Type} {xs : List α} {k : Nat} {x : α} (h : xs[k]? = some x) : xs.take (k + 1) = xs.take k ++ [x] := by
  obtain ⟨hk, rfl⟩ := List.getElem?_eq_some_iff.1 h
  exact List.take_succ_eq_append_getElem hk
theorem le_max {n : Nat} (h : n ≤ 1000000) : n ≤ maxLen := Nat.le_trans h (Nat.le_of_ble_eq_true rfl)
def i64D (n : Int) : D := .i .i64 n
theorem room_small {n m b : Nat} (h : n ≤ 1000000) (hm : m ≤ 1000000) (hb : b ≤ 10000) : room (n + m) b := by
  have : maxLen = 9223372036854775807 := rfl
  simp only [room]
  constructor
  · omega
  · have : (n + m) * b ≤ 2000000 * 10000 := Nat.mul_le_mul (by omega) hb
    omega
theorem room_add {n b : Nat} {x : D} (h : n ≤ 1000000) (hb : b ≤ 10000) : room (n + [x].length) b := room_small h (Nat.le_of_ble_eq_true rfl) hb
structure AllOf (p : D → Prop) (xs : List D) : Prop where
  len : xs.length ≤ maxLen
  all : ∀ x, x ∈ xs → p x
theorem eraseL_map : ∀ xs : List D, eraseL xs = xs.map D.erase
  | [] => rfl
  | x :: xs => by simp only [eraseL, List.map_cons, eraseL_map xs]
theorem AllOf.erase {p q : D → Prop} {xs : List D} (h : AllOf p xs) (hpq : ∀ x, p x → q x.erase) : AllOf q (eraseL xs) := by
  rw [eraseL_map]
  refine ⟨by rw [List.length_map]; exact h.len, fun x hx => ?_⟩
  obtain ⟨y, hy, rfl⟩ := List.mem_map.1 hx
  exact hpq y (h.all y hy)
theorem AllOf.nil (p : D → Prop) : AllOf p [] := ⟨Nat.zero_le _, fun x hx => by cases hx⟩
end Go.Pm.Tryz
namespace Go.Pm.Tryz
open Go Go.Proofs
set_option linter.unusedVariables false
set_option linter.unusedSimpArgs false
set_option maxRecDepth 100000
noncomputable def dec (p : Prop) : Bool := @decide p (Classical.propDecidable p)
theorem dec_true {p : Prop} (h : p) : dec p = true := @decide_eq_true p (Classical.propDecidable p) h
theorem dec_false {p : Prop} (h : ¬ p) : dec p = false := @decide_eq_false p (Classical.propDecidable p) h
theorem of_dec {p : Prop} (h : dec p = true) : p := @of_decide_eq_true p (Classical.propDecidable p) h
theorem of_ndec {p : Prop} (h : dec p = false) : ¬ p := @of_decide_eq_false p (Classical.propDecidable p) h
theorem dec_iff {p q : Prop} (h : p ↔ q) : dec p = dec q := by rw [propext h]
theorem ret_false {o : Bool} {P : Prop} {O : List Ob} (ho : o = dec P) (h : ¬ P) : AV.d (D.b false) = AV.d (D.b o) ∧ O = O := by rw [ho, dec_false h]; exact ⟨rfl, rfl⟩
theorem ret_true {o : Bool} {P : Prop} {O : List Ob} (ho : o = dec P) (h : P) : AV.d (D.b true) = AV.d (D.b o) ∧ O = O := by rw [ho, dec_true h]; exact ⟨rfl, rfl⟩
theorem ret_b {o b : Bool} {P : Prop} {O : List Ob} (ho : o = dec P) (h : b = true ↔ P) : AV.d (D.b b) = AV.d (D.b o) ∧ O = O := by
  cases hb : b with
  | true => exact ret_true ho (h.1 hb)
  | false => exact ret_false ho fun hP => by rw [h.2 hP] at hb; cases hb
structure Col where
  name : List UInt8
  kind : Int
  uniq : Bool
structure Idx where
  cols : List Int
  uniq : Bool
structure Schema where
  name : List UInt8
  cols : List Col
  keys : List Int
  idxs : List Idx
def colD (c : Col) : D := .agg [.s c.name, .i .i64 c.kind, .b c.uniq]
def idxD (i : Idx) : D := .agg [.sl false (i.cols.map i64D), .b i.uniq]
def schemaD (s : Schema) : D := .agg [.s s.name, .sl false (s.cols.map colD), .sl false (s.keys.map i64D), .sl false (s.idxs.map idxD)]
theorem not_take_up {ks : List Int} {j : Nat} {x y : Int} (h : x ∉ ks.take j) (hy : ks[j]? = some y) (hne : ¬ y = x) : x ∉ ks.take (j + 1) := by
  rw [take_up hy]
  intro hm
  rcases List.mem_append.1 hm with hm | hm
  · exact h hm
  · exact hne (List.mem_singleton.1 hm).symm
set_option maxHeartbeats 1000000 in
theorem indexInts (ks : List Int) (hl : ks.length ≤ maxLen) (x : Int) : EntQ Tryz.prog 139 [.d (.sl false (ks.map i64D)), .d (.i .i64 x)] [] (fun R O => ∃ n : Int, R = .d (.i .i64 n) ∧ O = [] ∧ decide (n ≥ 0) = dec (x ∈ ks)) := by
  refine ent_of tok mixed (f := 139) Tryz.func139 (by kernel_rfl) (keep := false) ?_
  repeat' ((conv => whnf) <;> (first | ((with_reducible refine isCall ?_) <;> (first | (obtain ⟨y, hy⟩ := get_ex (ss := ks) (k := k) (lt_of_dec (by assumption)); refine ⟨_, get_map' hy, ?_⟩) | fail)) | ((with_reducible refine isLoop ?_) <;> (first | (refine ⟨[8, 7, 0, 1], [], fun s => ∃ (k : Nat) (n : Int), n = k ∧ k ≤ ks.length ∧ x ∉ ks.take k ∧ s = ⟨[(8, .d (.i .i64 n)), (7, .d (.i .i64 ((ks.map i64D).length : Int))), (0, .d (.sl false (ks.map i64D))), (1, .d (.i .i64 x))], []⟩, fun s => match look 8 s.env with | some (.d (.i _ n)) => ks.length - n.toNat | _ => 0, rfl, ⟨0, _, rfl, Nat.zero_le _, (by simp), rfl⟩, ?_⟩; rintro s ⟨k, n, rfl, hk, hv, rfl⟩) | (obtain ⟨y, hy⟩ := get_ex (ss := ks) (k := k) (lt_of_dec (by assumption)); refine ⟨_, get_map' hy, ?_⟩) | fail)) | ((with_reducible refine isCut ?_) <;> (first | refine ⟨⟨none⟩, ?_⟩)) | ((first | with_reducible refine isEx ?_ | with_reducible refine isAnd ?_ | with_reducible refine isOr ?_) <;> (first | (obtain ⟨y, hy⟩ := get_ex (ss := ks) (k := k) (lt_of_dec (by assumption)); refine ⟨_, get_map' hy, ?_⟩) | ((with_reducible refine isSmall ?_) <;> (refine ⟨?_, ?_⟩; kernel_rfl)) | refine ⟨rfl, ?_⟩ | refine ⟨Int.natCast_nonneg _, ?_⟩)) | with_reducible refine Both.mk ?_ ?_ | rintro _ rfl | exact rfl | (split <;> (rename_i h; first | (simp only [beq_self_eq_true, eq_self, decide_true, Bool.not_true, Bool.false_eq_true] at h; done) | (try rw [h])))))
  all_goals (conv => whnf)
  · refine ⟨_, rfl, rfl, ?_⟩
    have e := of_decide_eq_true h
    rw [dec_true (e ▸ get_mem hy)]
    exact decide_eq_true (Int.natCast_nonneg k)
  · exact ⟨⟨k + 1, _, step_up (get_lt hy) hl, get_lt hy, not_take_up hv hy (fun e => of_decide_eq_false h e.symm), rfl⟩, mu_up (get_lt hy) hl⟩
  · refine ⟨_, rfl, rfl, ?_⟩
    have e : k = ks.length := by have := of_decide_eq_false h; rw [List.length_map] at this; omega
    rw [e, List.take_length] at hv
    rw [dec_false hv]; rfl
theorem containsInts (ks : List Int) (hl : ks.length ≤ maxLen) (x : Int) : Ent Tryz.prog 128 [.d (.sl false (ks.map i64D)), .d (.i .i64 x)] [] (.d (.b (dec (x ∈ ks)))) [] := by
  have c1 := indexInts ks hl x
  refine ent_of tok mixed (f := 128) Tryz.func128 (by kernel_rfl) (keep := false) ?_
  repeat' ((conv => whnf) <;> (first | ((with_reducible refine isCall ?_) <;> (first | (refine ⟨_, c1, ?_⟩; rintro _ _ ⟨n, rfl, rfl, hn⟩) | fail)) | ((with_reducible refine isCut ?_) <;> (first | refine ⟨⟨none⟩, ?_⟩)) | ((first | with_reducible refine isEx ?_ | with_reducible refine isAnd ?_ | with_reducible refine isOr ?_) <;> (first | ((with_reducible refine isSmall ?_) <;> (refine ⟨?_, ?_⟩; kernel_rfl)) | refine ⟨rfl, ?_⟩ | refine ⟨Int.natCast_nonneg _, ?_⟩)) | with_reducible refine Both.mk ?_ ?_ | rintro _ rfl | exact rfl | (split <;> (rename_i h; first | (simp only [beq_self_eq_true, eq_self, decide_true, Bool.not_true, Bool.false_eq_true] at h; done) | (try rw [h])))))
  all_goals (conv => whnf)
  all_goals (rw [← hn]; exact ⟨rfl, rfl⟩)
def colsP (ks : List Int) (n : Nat) : Prop := 0 < ks.length ∧ ∀ (k : Nat) (x : Int), ks[k]? = some x → (0 ≤ x ∧ x < n) ∧ x ∉ ks.take k
theorem colsP_up {ks : List Int} {n k : Nat} (h : ∀ (j : Nat) (x : Int), j < k → ks[j]? = some x → (0 ≤ x ∧ x < n) ∧ x ∉ ks.take j) {y : Int} (hy : ks[k]? = some y) (h1 : 0 ≤ y ∧ y < n) (h2 : y ∉ ks.take k) :
    ∀ (j : Nat) (x : Int), j < k + 1 → ks[j]? = some x → (0 ≤ x ∧ x < n) ∧ x ∉ ks.take j := by
  intro j x hj hx
  by_cases e : j = k
  · subst e; rw [hy] at hx; cases hx; exact ⟨h1, h2⟩
  · exact h j x (by omega) hx
set_option maxHeartbeats 1000000 in
theorem specColumns (ks : List Int) (hl : ks.length ≤ maxLen) (n : Nat) : Ent Tryz.prog 99 [.d (.sl false (ks.map i64D)), .d (.i .i64 n)] [] (.d (.b (dec (colsP ks n)))) [] := by
  obtain ⟨o, ho⟩ : ∃ o, o = dec (colsP ks n) := ⟨_, rfl⟩
  rw [← ho]
  refine ent_of tok mixed (f := 99) Tryz.func99 (by kernel_rfl) (keep := false) ?_
  repeat' ((conv => whnf) <;> (first | ((with_reducible refine isCall ?_) <;> (first | refine ⟨_, get_map' hy, ?_⟩ | (obtain ⟨z, hz⟩ := get_ex (ss := ks) (k := m) (by have := get_lt hy; have := lt_of_dec' (by assumption : decide ((m : Int) < (k : Int)) = true); omega); refine ⟨_, get_map' hz, ?_⟩) | (obtain ⟨y, hy⟩ := get_ex (ss := ks) (k := k) (lt_of_dec (by assumption)); refine ⟨_, get_map' hy, ?_⟩) | fail)) | ((with_reducible refine isLoop ?_) <;> (first | (refine ⟨[5, 0, 1], [], fun s => ∃ (k : Nat) (i : Int), i = k ∧ k ≤ ks.length ∧ 0 < ks.length ∧ (∀ (j : Nat) (x : Int), j < k → ks[j]? = some x → (0 ≤ x ∧ x < n) ∧ x ∉ ks.take j) ∧ s = ⟨[(5, .d (.i .i64 i)), (0, .d (.sl false (ks.map i64D))), (1, .d (.i .i64 n))], []⟩, fun s => match look 5 s.env with | some (.d (.i _ i)) => ks.length - i.toNat | _ => 0, rfl, ⟨0, _, rfl, Nat.zero_le _, (by have := of_decide_eq_false (by assumption : decide (((ks.map i64D).length : Int) < 1) = false); rw [List.length_map] at this; omega), (fun j x hj => absurd hj (Nat.not_lt_zero _)), rfl⟩, ?_⟩; rintro s ⟨k, i, rfl, hk, h0, hv, rfl⟩) | (refine ⟨[6, 0, 1, 5], [], fun s => ∃ (m : Nat) (i : Int), i = m ∧ m ≤ k ∧ y ∉ ks.take m ∧ s = ⟨[(6, .d (.i .i64 i)), (0, .d (.sl false (ks.map i64D))), (1, .d (.i .i64 n)), (5, .d (.i .i64 k))], []⟩, fun s => match look 6 s.env with | some (.d (.i _ i)) => k - i.toNat | _ => 0, rfl, ⟨0, _, rfl, Nat.zero_le _, (by simp), rfl⟩, ?_⟩; rintro s ⟨m, i, rfl, hmk, hw, rfl⟩) | refine ⟨_, get_map' hy, ?_⟩ | (obtain ⟨z, hz⟩ := get_ex (ss := ks) (k := m) (by have := get_lt hy; have := lt_of_dec' (by assumption : decide ((m : Int) < (k : Int)) = true); omega); refine ⟨_, get_map' hz, ?_⟩) | (obtain ⟨y, hy⟩ := get_ex (ss := ks) (k := k) (lt_of_dec (by assumption)); refine ⟨_, get_map' hy, ?_⟩) | fail)) | ((with_reducible refine isCut ?_) <;> (first | refine ⟨⟨none⟩, ?_⟩)) | ((first | with_reducible refine isEx ?_ | with_reducible refine isAnd ?_ | with_reducible refine isOr ?_) <;> (first | refine ⟨_, get_map' hy, ?_⟩ | (obtain ⟨z, hz⟩ := get_ex (ss := ks) (k := m) (by have := get_lt hy; have := lt_of_dec' (by assumption : decide ((m : Int) < (k : Int)) = true); omega); refine ⟨_, get_map' hz, ?_⟩) | (obtain ⟨y, hy⟩ := get_ex (ss := ks) (k := k) (lt_of_dec (by assumption)); refine ⟨_, get_map' hy, ?_⟩) | ((with_reducible refine isSmall ?_) <;> (refine ⟨?_, ?_⟩; kernel_rfl)) | refine ⟨rfl, ?_⟩ | refine ⟨Int.natCast_nonneg _, ?_⟩)) | with_reducible refine Both.mk ?_ ?_ | rintro _ rfl | exact rfl | (split <;> (rename_i h; first | (simp only [beq_self_eq_true, eq_self, decide_true, Bool.not_true, Bool.false_eq_true] at h; done) | (try rw [h])))))
  all_goals (conv => whnf)
  · exact ret_false ho fun hP => by have := of_decide_eq_true h; have := hP.1; rw [List.length_map] at *; omega
  · exact ret_false ho fun hP => by have := of_decide_eq_true h; have := (hP.2 k y hy).1; omega
  · exact ret_false ho fun hP => by have := of_decide_eq_true h; have := (hP.2 k y hy).1; omega
  · refine ret_false ho fun hP => (hP.2 k y hy).2 ?_
    have e := of_decide_eq_true h
    have hm := lt_of_dec' (by assumption : decide ((m : Int) < (k : Int)) = true)
    subst e
    exact List.mem_of_getElem? (i := m) (by rw [List.getElem?_take, if_pos hm]; exact hz)
  · have hm := lt_of_dec' (by assumption : decide ((m : Int) < (k : Int)) = true)
    have hkk := get_lt hy
    exact ⟨⟨m + 1, _, step_up (n := ks.length) (by omega) hl, hm, not_take_up hw hz (of_decide_eq_false h), rfl⟩, by have := mu_up (n := k) hm (by omega); exact this⟩
  · have e : m = k := by have := of_decide_eq_false h; omega
    subst e
    exact ⟨⟨m + 1, _, step_up (get_lt hy) hl, get_lt hy, h0, colsP_up hv hy ⟨Int.not_lt.1 (of_decide_eq_false (by assumption)), Int.not_le.1 (of_decide_eq_false (by assumption))⟩ hw, rfl⟩, mu_up (get_lt hy) hl⟩
  · refine ret_true ho ⟨h0, fun j x hj => hv j x ?_ hj⟩
    have e := of_decide_eq_false h
    rw [List.length_map] at e
    have := get_lt hj
    omega
theorem containsTake (ks : List Int) (hl : ks.length ≤ maxLen) (k : Nat) (x : Int) : Ent Tryz.prog 128 [.d (.sl false (((ks.map i64D).take k).drop 0)), .d (.i .i64 x)] [] (.d (.b (dec (x ∈ ks.take k)))) [] := by
  have e : ((ks.map i64D).take k).drop 0 = (ks.take k).map i64D := by simp [List.map_take]
  rw [e]
  exact containsInts _ (by rw [List.length_take]; omega) x
theorem ones (ks : List Int) : ∀ x, x ∈ ks.map i64D → x.cells.length = 1 := by
  intro x hx
  obtain ⟨n, _, rfl⟩ := List.mem_map.1 hx
  rfl
theorem in_n {y : Int} {n : Nat} (hn : n ≤ maxLen) : inside y 0 (IntKind.i64.wrap ((n : Int) - 1)) = true ↔ 0 ≤ y ∧ y < n := by
  have : maxLen = 9223372036854775807 := rfl
  rw [inside_iff, wrap_i64_id _ (by omega) (by omega)]; omega
set_option maxHeartbeats 1000000 in
theorem implColumns (nm : List UInt8) (cs k2 is : List D) (hc : cs.length ≤ maxLen) (ks : List Int) (hl : ks.length ≤ maxLen) : Ent Tryz.prog 108 [.d (.agg [.s nm, .sl false cs, .sl false k2, .sl false is]), .d (.sl false (ks.map i64D))] [] (.d (.b (dec (colsP ks cs.length)))) [] := by
  obtain ⟨o, ho⟩ : ∃ o, o = dec (colsP ks cs.length) := ⟨_, rfl⟩
  rw [← ho]
  refine ent_of tok mixed (f := 108) Tryz.func108 (by kernel_rfl) (keep := false) ?_
  repeat' ((conv => whnf) <;> (first | ((with_reducible refine isCall ?_) <;> (first | (refine ⟨_, within _ _ _, ?_⟩; rintro _ _ ⟨rfl, rfl⟩) | (refine ⟨_, containsTake ks hl k _, ?_⟩; rintro _ _ ⟨rfl, rfl⟩) | refine ⟨_, get_map' hy, ?_⟩ | (obtain ⟨y, hy⟩ := get_ex (ss := ks) (k := k) (lt_of_dec (by assumption)); refine ⟨_, get_map' hy, ?_⟩) | refine ⟨⟨ones ks, by decide⟩, ?_⟩ | refine ⟨⟨Int.natCast_nonneg _, (by have := get_lt hy; rw [List.length_map]; omega)⟩, ?_⟩ | fail)) | ((with_reducible refine isLoop ?_) <;> (first | (refine ⟨[9, 8, 7, 1, 2], [10002], fun s => ∃ (k : Nat) (i : Int), i = k ∧ k ≤ ks.length ∧ (∀ (j : Nat) (x : Int), j < k → ks[j]? = some x → (0 ≤ x ∧ x < cs.length) ∧ x ∉ ks.take j) ∧ s = ⟨[(9, .d (.i .i64 i)), (8, .d (.i .i64 ((ks.map i64D).length : Int))), (7, .d (.sl false (ks.map i64D))), (1, .d (.sl false (ks.map i64D))), (2, .ptr 10002 0)], [(10002, .var [.d (.s nm), .d (.sl false cs), .d (.sl false k2), .d (.sl false is)])]⟩, fun s => match look 9 s.env with | some (.d (.i _ i)) => ks.length - i.toNat | _ => 0, rfl, ⟨0, _, rfl, Nat.zero_le _, (fun j x hj => absurd hj (Nat.not_lt_zero _)), rfl⟩, ?_⟩; rintro s ⟨k, i, rfl, hk, hv, rfl⟩) | refine ⟨_, get_map' hy, ?_⟩ | (obtain ⟨y, hy⟩ := get_ex (ss := ks) (k := k) (lt_of_dec (by assumption)); refine ⟨_, get_map' hy, ?_⟩) | refine ⟨⟨ones ks, by decide⟩, ?_⟩ | refine ⟨⟨Int.natCast_nonneg _, (by have := get_lt hy; rw [List.length_map]; omega)⟩, ?_⟩ | fail)) | ((with_reducible refine isCut ?_) <;> (first | refine ⟨⟨none⟩, ?_⟩)) | ((first | with_reducible refine isEx ?_ | with_reducible refine isAnd ?_ | with_reducible refine isOr ?_) <;> (first | refine ⟨_, get_map' hy, ?_⟩ | (obtain ⟨y, hy⟩ := get_ex (ss := ks) (k := k) (lt_of_dec (by assumption)); refine ⟨_, get_map' hy, ?_⟩) | refine ⟨⟨ones ks, by decide⟩, ?_⟩ | refine ⟨⟨Int.natCast_nonneg _, (by have := get_lt hy; rw [List.length_map]; omega)⟩, ?_⟩ | ((with_reducible refine isSmall ?_) <;> (refine ⟨?_, ?_⟩; kernel_rfl)) | refine ⟨rfl, ?_⟩ | refine ⟨Int.natCast_nonneg _, ?_⟩)) | with_reducible refine Both.mk ?_ ?_ | rintro _ rfl | exact rfl | (split <;> (rename_i h; first | (simp only [beq_self_eq_true, eq_self, decide_true, Bool.not_true, Bool.false_eq_true] at h; done) | (try rw [h])))))
  all_goals (conv => whnf)
  · refine ret_false ho fun hP => ?_
    rw [(in_n hc).2 (hP.2 k y hy).1] at h; cases h
  · exact ret_false ho fun hP => (hP.2 k y hy).2 (of_dec h)
  · exact ⟨⟨k + 1, _, step_up (get_lt hy) hl, get_lt hy, colsP_up hv hy ((in_n hc).1 (not_ok (by assumption))) (of_ndec h), rfl⟩, mu_up (get_lt hy) hl⟩
  · have e : k = ks.length := by have := of_decide_eq_false h; rw [List.length_map] at this; omega
    refine ret_b ho ⟨fun hh => ⟨?_, fun j x hj => hv j x (by rw [e]; exact get_lt hj) hj⟩, fun hP => ?_⟩
    · have := of_decide_eq_true hh; rw [List.length_map] at this; omega
    · have := hP.1; rw [List.length_map]; exact decide_eq_true (by omega)
def idxO (i : Idx) : D := .agg [.os 1 false (i.cols.map i64D), .b i.uniq]
theorem erase_ints : ∀ l : List Int, eraseL (l.map i64D) = l.map i64D
  | [] => rfl
  | x :: l => by simp only [List.map_cons, eraseL, erase_ints l]; rfl
theorem erase_idx : ∀ l : List Idx, eraseL (l.map idxO) = l.map idxD
  | [] => rfl
  | x :: l => by simp only [List.map_cons, eraseL, erase_idx l, idxO, idxD, D.erase, erase_ints]
end Go.Pm.Tryz
namespace Go.Pm.Tryz
open Go Go.Proofs
set_option linter.unusedVariables false
set_option linter.unusedSimpArgs false
set_option maxRecDepth 100000
structure schemaP (s : Schema) : Prop where
  name : nameOk s.name = true
  lo : 1 ≤ s.cols.length
  hi : s.cols.length ≤ 10
  idx : s.idxs.length ≤ 4
  keys : colsP s.keys s.cols.length
  cols : ∀ (k : Nat) (c : Col), s.cols[k]? = some c → nameOk c.name = true ∧ (1 ≤ c.kind ∧ c.kind ≤ 3) ∧ ∀ d, d ∈ s.cols.take k → d.name ≠ c.name
  uniq : ∀ x, x ∈ s.keys → ∀ c, s.cols[x.toNat]? = some c → c.uniq = false
  idxs : ∀ i, i ∈ s.idxs → colsP i.cols s.cols.length
structure Schema.fits (s : Schema) : Prop where
  name : s.name.length ≤ maxLen
  cols : s.cols.length ≤ maxLen
  names : ∀ c, c ∈ s.cols → c.name.length ≤ maxLen
  keys : s.keys.length ≤ maxLen
  idxs : s.idxs.length ≤ maxLen
  lists : ∀ i, i ∈ s.idxs → i.cols.length ≤ maxLen
theorem cols_up {cs : List Col} {k : Nat} {P : Nat → Col → Prop} (h : ∀ (j : Nat) (c : Col), j < k → cs[j]? = some c → P j c) {c : Col} (hc : cs[k]? = some c) (h1 : P k c) : ∀ (j : Nat) (d : Col), j < k + 1 → cs[j]? = some d → P j d := by
  intro j d hj hd
  by_cases e : j = k
  · subst e; rw [hc] at hd; cases hd; exact h1
  · exact h j d (by omega) hd
theorem take_all {α : Type} {xs : List α} {k : Nat} {P : α → Prop} (h : ∀ x, x ∈ xs.take k → P x) {x : α} (hx : xs[k]? = some x) (h1 : P x) : ∀ y, y ∈ xs.take (k + 1) → P y := by
  intro y hy
  rw [take_up hx] at hy
  rcases List.mem_append.1 hy with hy | hy
  · exact h y hy
  · rw [List.mem_singleton.1 hy]; exact h1
theorem take_mem {α : Type} {xs : List α} {m k : Nat} {d : α} (h : xs[m]? = some d) (hm : m < k) : d ∈ xs.take k := List.mem_of_getElem? (i := m) (by rw [List.getElem?_take, if_pos hm]; exact h)
def schC (s : Schema) : List AV := [.d (.s s.name), .d (.sl false (s.cols.map colD)), .d (.sl false (s.keys.map i64D)), .d (.sl false (s.idxs.map idxD))]
set_option maxHeartbeats 4000000 in
theorem specSchemaRight (s : Schema) (hs : s.fits) : Ent Tryz.prog 67 [.d (schemaD s)] [] (.d (.b (dec (schemaP s)))) [] := by
  obtain ⟨o, ho⟩ : ∃ o, o = dec (schemaP s) := ⟨_, rfl⟩
  rw [← ho]
  have c1 := specNameRight s.name hs.name
  have c2 := specColumns s.keys hs.keys s.cols.length
  have hcl : (s.cols.map colD).length = s.cols.length := List.length_map ..
  have hil : (s.idxs.map idxD).length = s.idxs.length := List.length_map ..
  have hkl : (s.keys.map i64D).length = s.keys.length := List.length_map ..
  rw [← hcl] at c2
  refine ent_of tok mixed (f := 67) Tryz.func67 (by kernel_rfl) (keep := false) ?_
  repeat' ((conv => whnf) <;> (first | ((with_reducible refine isCall ?_) <;> (first | (refine ⟨_, c1, ?_⟩; rintro _ _ ⟨rfl, rfl⟩) | (refine ⟨_, c2, ?_⟩; rintro _ _ ⟨rfl, rfl⟩) | (refine ⟨_, c3, ?_⟩; rintro _ _ ⟨rfl, rfl⟩) | (refine ⟨_, c4, ?_⟩; rintro _ _ ⟨rfl, rfl⟩) | refine ⟨_, get_map' hc, ?_⟩ | refine ⟨_, get_map' hd, ?_⟩ | refine ⟨_, get_map' hy, ?_⟩ | refine ⟨_, get_map' hi, ?_⟩ | refine ⟨hyr.1, ?_⟩ | fail)) | ((with_reducible refine isLoop ?_) <;> (first | (refine ⟨[4, 3, 1], [10001], fun st => ∃ (k : Nat) (i : Int), i = k ∧ k ≤ s.cols.length ∧ (nameOk s.name = true ∧ 1 ≤ s.cols.length ∧ s.cols.length ≤ 10 ∧ s.idxs.length ≤ 4 ∧ colsP s.keys s.cols.length) ∧ (∀ (j : Nat) (c : Col), j < k → s.cols[j]? = some c → nameOk c.name = true ∧ (1 ≤ c.kind ∧ c.kind ≤ 3) ∧ ∀ d, d ∈ s.cols.take j → d.name ≠ c.name) ∧ st = ⟨[(4, .d (.i .i64 i)), (3, .d (.i .i64 ((s.cols.map colD).length : Int))), (1, .ptr 10001 0)], [(10001, .var (schC s))]⟩, fun st => match look 4 st.env with | some (.d (.i _ i)) => s.cols.length - i.toNat | _ => 0, rfl, ⟨0, _, rfl, Nat.zero_le _, ?_, (fun j c hj => absurd hj (Nat.not_lt_zero _)), rfl⟩, ?_⟩; rotate_left; rintro st ⟨k, i, rfl, hk, hP0, hv, rfl⟩) | (refine ⟨[7, 3, 1], [10001], fun st => ∃ (k : Nat) (i : Int), i = k ∧ k ≤ s.keys.length ∧ (∀ x, x ∈ s.keys.take k → ∀ c, s.cols[x.toNat]? = some c → c.uniq = false) ∧ st = ⟨[(7, .d (.i .i64 i)), (3, .d (.i .i64 ((s.cols.map colD).length : Int))), (1, .ptr 10001 0)], [(10001, .var (schC s))]⟩, fun st => match look 7 st.env with | some (.d (.i _ i)) => s.keys.length - i.toNat | _ => 0, rfl, ⟨0, _, rfl, Nat.zero_le _, (fun x hx => by simp at hx), rfl⟩, ?_⟩; rintro st ⟨k2, i, rfl, hk2, hv2, rfl⟩) | (refine ⟨[8, 3, 1], [10001], fun st => ∃ (k : Nat) (i : Int), i = k ∧ k ≤ s.idxs.length ∧ (∀ x, x ∈ s.idxs.take k → colsP x.cols s.cols.length) ∧ st = ⟨[(8, .d (.i .i64 i)), (3, .d (.i .i64 ((s.cols.map colD).length : Int))), (1, .ptr 10001 0)], [(10001, .var (schC s))]⟩, fun st => match look 8 st.env with | some (.d (.i _ i)) => s.idxs.length - i.toNat | _ => 0, rfl, ⟨0, _, rfl, Nat.zero_le _, (fun x hx => by simp at hx), rfl⟩, ?_⟩; rintro st ⟨k3, i, rfl, hk3, hv3, rfl⟩) | (refine ⟨[6, 3, 1, 4, 5], [10001, 10005], fun st => ∃ (m : Nat) (i : Int), i = m ∧ m ≤ k ∧ nameOk c.name = true ∧ (1 ≤ c.kind ∧ c.kind ≤ 3) ∧ (∀ d, d ∈ s.cols.take m → d.name ≠ c.name) ∧ st = ⟨[(6, .d (.i .i64 i)), (3, .d (.i .i64 ((s.cols.map colD).length : Int))), (1, .ptr 10001 0), (4, .d (.i .i64 k)), (5, .ptr 10005 0)], [(10001, .var (schC s)), (10005, .var (AV.d (colD c)).cells)]⟩, fun st => match look 6 st.env with | some (.d (.i _ i)) => k - i.toNat | _ => 0, rfl, ⟨0, _, rfl, Nat.zero_le _, not_ok (by assumption), ⟨Int.not_lt.1 (of_decide_eq_false (by assumption)), Int.not_lt.1 (of_decide_eq_false (by assumption))⟩, (fun x hx => by simp at hx), rfl⟩, ?_⟩; rintro st ⟨m, i, rfl, hmk, hq1, hq2, hw, rfl⟩) | refine ⟨_, get_map' hc, ?_⟩ | refine ⟨_, get_map' hd, ?_⟩ | refine ⟨_, get_map' hy, ?_⟩ | refine ⟨_, get_map' hi, ?_⟩ | refine ⟨hyr.1, ?_⟩ | fail)) | ((with_reducible refine isCut ?_) <;> (first | refine ⟨⟨none⟩, ?_⟩)) | ((first | with_reducible refine isEx ?_ | with_reducible refine isAnd ?_ | with_reducible refine isOr ?_) <;> (first | refine ⟨_, get_map' hc, ?_⟩ | refine ⟨_, get_map' hd, ?_⟩ | refine ⟨_, get_map' hy, ?_⟩ | refine ⟨_, get_map' hi, ?_⟩ | ((with_reducible refine isGet (xs := s.cols.map colD) (i := ((m : Nat) : Int).toNat) ?_); obtain ⟨d, hd⟩ := get_ex (ss := s.cols) (k := m) (by have := get_lt hc; have := lt_of_dec' (by assumption : decide ((m : Int) < (k : Int)) = true); omega); refine ⟨_, get_map' hd, ?_⟩) | ((with_reducible refine isGet (xs := s.keys.map i64D) (i := ((k2 : Nat) : Int).toNat) ?_); obtain ⟨y, hy⟩ := get_ex (ss := s.keys) (k := k2) (lt_of_dec (by assumption)); have hyr := (hP0.2.2.2.2.2 k2 y hy).1; obtain ⟨c, hc⟩ := get_ex (ss := s.cols) (k := y.toNat) (by omega); refine ⟨_, get_map' hy, ?_⟩) | ((with_reducible refine isGet (xs := s.idxs.map idxD) (i := ((k3 : Nat) : Int).toNat) ?_); obtain ⟨i, hi⟩ := get_ex (ss := s.idxs) (k := k3) (lt_of_dec (by assumption)); have c4 := specColumns i.cols (hs.lists i (get_mem hi)) s.cols.length; rw [← hcl] at c4; refine ⟨_, get_map' hi, ?_⟩) | ((with_reducible refine isGet (xs := s.cols.map colD) (i := ((k : Nat) : Int).toNat) ?_); obtain ⟨c, hc⟩ := get_ex (ss := s.cols) (k := k) (lt_of_dec (by assumption)); have c3 := specNameRight c.name (hs.names c (get_mem hc)); refine ⟨_, get_map' hc, ?_⟩) | refine ⟨hyr.1, ?_⟩ | ((with_reducible refine isSmall ?_) <;> (refine ⟨?_, ?_⟩; kernel_rfl)) | refine ⟨rfl, ?_⟩ | refine ⟨Int.natCast_nonneg _, ?_⟩)) | with_reducible refine Both.mk ?_ ?_ | rintro _ rfl | exact rfl | (split <;> (rename_i h; first | (simp only [beq_self_eq_true, eq_self, decide_true, Bool.not_true, Bool.false_eq_true] at h; done) | (try rw [h])))))
  all_goals (conv => whnf)
  all_goals first
    | exact ret_false ho fun hP => by have := not_ok' h; rw [hP.name] at this; cases this
    | exact ret_false ho fun hP => by have := of_decide_eq_true h; have := hP.lo; have := hP.hi; have := hP.idx; omega
    | exact ret_false ho fun hP => by have := of_ndec (not_ok' h); rw [hcl] at this; exact this hP.keys
    | exact ret_false ho fun hP => by have := not_ok' h; rw [(hP.cols k c hc).1] at this; cases this
    | exact ret_false ho fun hP => by have := of_decide_eq_true h; have := (hP.cols k c hc).2.1; omega
    | exact ret_false ho fun hP => (hP.cols k c hc).2.2 d (take_mem hd (lt_of_dec' (by assumption))) (of_decide_eq_true h)
    | exact ret_false ho fun hP => by rw [hP.uniq y (get_mem hy) c hc] at h; cases h
    | exact ret_false ho fun hP => by have := of_ndec (not_ok' h); rw [hcl] at this; exact this (hP.idxs i (get_mem hi))
    | (have hm := lt_of_dec' (by assumption : decide ((m : Int) < (k : Int)) = true)
       exact ⟨⟨m + 1, _, step_up (n := s.cols.length) (by have := get_lt hc; omega) hs.cols, hm, hq1, hq2, take_all hw hd (of_decide_eq_false h), rfl⟩, by have := hs.cols; have := get_lt hc; exact mu_up (n := k) hm (by omega)⟩)
    | (have e : m = k := by have := of_decide_eq_false h; omega
       subst e
       exact ⟨⟨m + 1, _, step_up (get_lt hc) hs.cols, get_lt hc, hP0, cols_up hv hc ⟨hq1, hq2, hw⟩, rfl⟩, mu_up (get_lt hc) hs.cols⟩)
    | exact ⟨⟨k2 + 1, _, step_up (get_lt hy) hs.keys, get_lt hy, take_all hv2 hy (fun c' hc' => by rw [hc] at hc'; cases hc'; exact h), rfl⟩, mu_up (get_lt hy) hs.keys⟩
    | exact ⟨⟨k3 + 1, _, step_up (get_lt hi) hs.idxs, get_lt hi, take_all hv3 hi (by have := of_dec (not_ok h); rw [hcl] at this; exact this), rfl⟩, mu_up (get_lt hi) hs.idxs⟩
    | (have e : k = s.cols.length := by have := of_decide_eq_false (by assumption : decide ((k : Int) < ((s.cols.map colD).length : Int)) = false); omega
       have e2 : k2 = s.keys.length := by have := of_decide_eq_false (by assumption : decide ((k2 : Int) < ((s.keys.map i64D).length : Int)) = false); omega
       have e3 : k3 = s.idxs.length := by have := of_decide_eq_false (by assumption : decide ((k3 : Int) < ((s.idxs.map idxD).length : Int)) = false); omega
       rw [e2, List.take_length] at hv2
       rw [e3, List.take_length] at hv3
       exact ret_true ho ⟨hP0.1, hP0.2.1, hP0.2.2.1, hP0.2.2.2.1, hP0.2.2.2.2, fun j c hj => hv j c (by rw [e]; exact get_lt hj) hj, hv2, hv3⟩)
    | (refine ⟨not_ok (by assumption), ?_, ?_, ?_, ?_⟩
       · have := of_decide_eq_false (by assumption : decide (((s.cols.map colD).length : Int) < 1) = false); omega
       · have := of_decide_eq_false (by assumption : decide (((s.cols.map colD).length : Int) > 10) = false); omega
       · have := of_decide_eq_false (by assumption : decide (((s.idxs.map idxD).length : Int) > 4) = false); omega
       · have := of_dec (not_ok (by assumption : (!dec (colsP s.keys (s.cols.map colD).length)) = false)); rw [hcl] at this; exact this)
    | trace_state
end Go.Pm.Tryz
namespace Go.Pm.Tryz
open Go Go.Proofs
set_option linter.unusedVariables false
set_option linter.unusedSimpArgs false
set_option maxRecDepth 100000
theorem colSame (c : Col) (nm : List UInt8) : Ent Tryz.prog 130 [.d (colD c), .ptr 0 0] [.var [.d (.s nm)]] (.d (.b (decide (c.name = nm)))) [.var [.d (.s nm)]] := by
  refine ent_of tok mixed (f := 130) Tryz.func130 (by kernel_rfl) (keep := false) ?_
  repeat' ((conv => whnf) <;> (first | ((with_reducible refine isCall ?_) <;> (first | fail)) | ((with_reducible refine isCut ?_) <;> (first | refine ⟨⟨none⟩, ?_⟩)) | ((first | with_reducible refine isEx ?_ | with_reducible refine isAnd ?_ | with_reducible refine isOr ?_) <;> (first | ((with_reducible refine isSmall ?_) <;> (refine ⟨?_, ?_⟩; kernel_rfl)) | refine ⟨rfl, ?_⟩ | refine ⟨Int.natCast_nonneg _, ?_⟩)) | with_reducible refine Both.mk ?_ ?_ | rintro _ rfl | exact rfl | (split <;> (rename_i h; first | (simp only [beq_self_eq_true, eq_self, decide_true, Bool.not_true, Bool.false_eq_true] at h; done) | (try rw [h])))))
theorem any_no {α : Type} {p : α → Prop} {xs : List α} {k : Nat} {x : α} (h : ∀ y, y ∈ xs.take k → ¬ p y) (hx : xs[k]? = some x) (h1 : ¬ p x) : ∀ y, y ∈ xs.take (k + 1) → ¬ p y := take_all h hx h1
set_option maxHeartbeats 1000000 in
theorem indexCols (cs : List Col) (hl : cs.length ≤ maxLen) (nm : List UInt8) : EntQ Tryz.prog 129 [.d (.sl false (cs.map colD)), .fn 130 [.ptr 0 0]] [.var [.d (.s nm)]]
    (fun R O => ∃ n : Int, R = .d (.i .i64 n) ∧ O = [.var [.d (.s nm)]] ∧ decide (n ≥ 0) = dec (∃ c, c ∈ cs ∧ c.name = nm)) := by
  have c1 := fun c => colSame c nm
  refine ent_of tok mixed (f := 129) Tryz.func129 (by kernel_rfl) (keep := false) ?_
  repeat' ((conv => whnf) <;> (first | ((with_reducible refine isCall ?_) <;> (first | (refine ⟨_, c1 _, ?_⟩; rintro _ _ ⟨rfl, rfl⟩) | fail)) | ((with_reducible refine isLoop ?_) <;> (first | (refine ⟨[8, 7, 0, 1], [0], fun s => ∃ (k : Nat) (n : Int), n = k ∧ k ≤ cs.length ∧ (∀ c, c ∈ cs.take k → ¬ c.name = nm) ∧ s = ⟨[(8, .d (.i .i64 n)), (7, .d (.i .i64 ((cs.map colD).length : Int))), (0, .d (.sl false (cs.map colD))), (1, .fn 130 [.ptr 0 0])], [(0, .var [.d (.s nm)])]⟩, fun s => match look 8 s.env with | some (.d (.i _ n)) => cs.length - n.toNat | _ => 0, rfl, ⟨0, _, rfl, Nat.zero_le _, (fun x hx => by simp at hx), rfl⟩, ?_⟩; rintro s ⟨k, n, rfl, hk, hv, rfl⟩) | fail)) | ((with_reducible refine isCut ?_) <;> (first | refine ⟨⟨none⟩, ?_⟩)) | ((first | with_reducible refine isEx ?_ | with_reducible refine isAnd ?_ | with_reducible refine isOr ?_) <;> (first | ((with_reducible refine isGet (xs := cs.map colD) (i := ((k : Nat) : Int).toNat) ?_); obtain ⟨c, hc⟩ := get_ex (ss := cs) (k := k) (lt_of_dec (by assumption)); refine ⟨_, get_map' hc, ?_⟩) | ((with_reducible refine isSmall ?_) <;> (refine ⟨?_, ?_⟩; kernel_rfl)) | refine ⟨rfl, ?_⟩ | refine ⟨Int.natCast_nonneg _, ?_⟩)) | with_reducible refine Both.mk ?_ ?_ | rintro _ rfl | exact rfl | (split <;> (rename_i h; first | (simp only [beq_self_eq_true, eq_self, decide_true, Bool.not_true, Bool.false_eq_true] at h; done) | (try rw [h])))))
  all_goals (conv => whnf)
  · refine ⟨_, rfl, rfl, ?_⟩
    rw [dec_true ⟨c, get_mem hc, of_decide_eq_true h⟩]
    exact decide_eq_true (Int.natCast_nonneg k)
  · exact ⟨⟨k + 1, _, step_up (get_lt hc) hl, get_lt hc, any_no hv hc (of_decide_eq_false h), rfl⟩, mu_up (get_lt hc) hl⟩
  · refine ⟨_, rfl, rfl, ?_⟩
    have e : k = cs.length := by have := of_decide_eq_false h; rw [List.length_map] at this; omega
    rw [e, List.take_length] at hv
    rw [dec_false fun ⟨c, h1, h2⟩ => hv c h1 h2]; rfl
theorem columnOf (nm0 : List UInt8) (cs : List Col) (hl : cs.length ≤ maxLen) (k : Nat) (ys zs : List D) (nm : List UInt8) : EntQ Tryz.prog 109 [.d (.agg [.s nm0, .sl false (((cs.map colD).take k).drop 0), .sl false ys, .sl false zs]), .d (.s nm)] []
    (fun R O => ∃ n : Int, R = .d (.i .i64 n) ∧ O = [] ∧ decide (n ≥ 0) = dec (∃ c, c ∈ cs.take k ∧ c.name = nm)) := by
  have e : ((cs.map colD).take k).drop 0 = (cs.take k).map colD := by simp [List.map_take]
  rw [e]
  have c1 := indexCols (cs.take k) (by rw [List.length_take]; omega) nm
  refine ent_of tok mixed (f := 109) Tryz.func109 (by kernel_rfl) (keep := false) ?_
  repeat' ((conv => whnf) <;> (first | ((with_reducible refine isCall ?_) <;> (first | (refine ⟨_, c1, ?_⟩; rintro _ _ ⟨n, rfl, rfl, hn⟩) | fail)) | ((with_reducible refine isCut ?_) <;> (first | refine ⟨⟨none⟩, ?_⟩)) | ((first | with_reducible refine isEx ?_ | with_reducible refine isAnd ?_ | with_reducible refine isOr ?_) <;> (first | ((with_reducible refine isSmall ?_) <;> (refine ⟨?_, ?_⟩; kernel_rfl)) | refine ⟨rfl, ?_⟩ | refine ⟨Int.natCast_nonneg _, ?_⟩)) | with_reducible refine Both.mk ?_ ?_ | rintro _ rfl | exact rfl | (split <;> (rename_i h; first | (simp only [beq_self_eq_true, eq_self, decide_true, Bool.not_true, Bool.false_eq_true] at h; done) | (try rw [h])))))
  all_goals (conv => whnf)
  all_goals exact ⟨_, rfl, rfl, hn⟩
theorem idxBad (i : Idx) (hi : i.cols.length ≤ maxLen) (s : Schema) (hs : s.cols.length ≤ maxLen) : Ent Tryz.prog 111 [.d (idxD i), .ptr 0 0] [.var (schC s)] (.d (.b (!dec (colsP i.cols (s.cols.map colD).length)))) [.var (schC s)] := by
  have c1 := implColumns s.name (s.cols.map colD) (s.keys.map i64D) (s.idxs.map idxD) (by rw [List.length_map]; exact hs) i.cols hi
  generalize dec (colsP i.cols (s.cols.map colD).length) = u at *
  refine ent_of tok mixed (f := 111) Tryz.func111 (by kernel_rfl) (keep := false) ?_
  repeat' ((conv => whnf) <;> (first | ((with_reducible refine isCall ?_) <;> (first | (refine ⟨_, c1, ?_⟩; rintro _ _ ⟨rfl, rfl⟩) | fail)) | ((with_reducible refine isCut ?_) <;> (first | refine ⟨⟨none⟩, ?_⟩)) | ((first | with_reducible refine isEx ?_ | with_reducible refine isAnd ?_ | with_reducible refine isOr ?_) <;> (first | ((with_reducible refine isSmall ?_) <;> (refine ⟨?_, ?_⟩; kernel_rfl)) | refine ⟨rfl, ?_⟩ | refine ⟨Int.natCast_nonneg _, ?_⟩)) | with_reducible refine Both.mk ?_ ?_ | rintro _ rfl | exact rfl | (split <;> (rename_i h; first | (simp only [beq_self_eq_true, eq_self, decide_true, Bool.not_true, Bool.false_eq_true] at h; done) | (try rw [h])))))
set_option maxHeartbeats 1000000 in
theorem indexIdx (s : Schema) (hs : s.fits) : EntQ Tryz.prog 131 [.d (.sl false (s.idxs.map idxD)), .fn 111 [.ptr 0 0]] [.var (schC s)]
    (fun R O => ∃ n : Int, R = .d (.i .i64 n) ∧ O = [.var (schC s)] ∧ decide (n ≥ 0) = dec (∃ i, i ∈ s.idxs ∧ ¬ colsP i.cols (s.cols.map colD).length)) := by
  have hl := hs.idxs
  refine ent_of tok mixed (f := 131) Tryz.func131 (by kernel_rfl) (keep := false) ?_
  repeat' ((conv => whnf) <;> (first | ((with_reducible refine isCall ?_) <;> (first | (refine ⟨_, c1, ?_⟩; rintro _ _ ⟨rfl, rfl⟩) | fail)) | ((with_reducible refine isLoop ?_) <;> (first | (refine ⟨[8, 7, 0, 1], [0], fun st => ∃ (k : Nat) (n : Int), n = k ∧ k ≤ s.idxs.length ∧ (∀ i, i ∈ s.idxs.take k → ¬ ¬ colsP i.cols (s.cols.map colD).length) ∧ st = ⟨[(8, .d (.i .i64 n)), (7, .d (.i .i64 ((s.idxs.map idxD).length : Int))), (0, .d (.sl false (s.idxs.map idxD))), (1, .fn 111 [.ptr 0 0])], [(0, .var (schC s))]⟩, fun st => match look 8 st.env with | some (.d (.i _ n)) => s.idxs.length - n.toNat | _ => 0, rfl, ⟨0, _, rfl, Nat.zero_le _, (fun x hx => by simp at hx), rfl⟩, ?_⟩; rintro st ⟨k, n, rfl, hk, hv, rfl⟩) | fail)) | ((with_reducible refine isCut ?_) <;> (first | refine ⟨⟨none⟩, ?_⟩)) | ((first | with_reducible refine isEx ?_ | with_reducible refine isAnd ?_ | with_reducible refine isOr ?_) <;> (first | ((with_reducible refine isGet (xs := s.idxs.map idxD) (i := ((k : Nat) : Int).toNat) ?_); obtain ⟨i, hi⟩ := get_ex (ss := s.idxs) (k := k) (lt_of_dec (by assumption)); have c1 := idxBad i (hs.lists i (get_mem hi)) s hs.cols; refine ⟨_, get_map' hi, ?_⟩) | ((with_reducible refine isSmall ?_) <;> (refine ⟨?_, ?_⟩; kernel_rfl)) | refine ⟨rfl, ?_⟩ | refine ⟨Int.natCast_nonneg _, ?_⟩)) | with_reducible refine Both.mk ?_ ?_ | rintro _ rfl | exact rfl | (split <;> (rename_i h; first | (simp only [beq_self_eq_true, eq_self, decide_true, Bool.not_true, Bool.false_eq_true] at h; done) | (try rw [h])))))
  all_goals (conv => whnf)
  · refine ⟨_, rfl, rfl, ?_⟩
    rw [dec_true ⟨i, get_mem hi, of_ndec (not_ok' h)⟩]
    exact decide_eq_true (Int.natCast_nonneg k)
  · exact ⟨⟨k + 1, _, step_up (get_lt hi) hl, get_lt hi, any_no hv hi (fun hn => hn (of_dec (not_ok h))), rfl⟩, mu_up (get_lt hi) hl⟩
  · refine ⟨_, rfl, rfl, ?_⟩
    have e : k = s.idxs.length := by have := of_decide_eq_false h; rw [List.length_map] at this; omega
    rw [e, List.take_length] at hv
    rw [dec_false fun ⟨c, h1, h2⟩ => hv c h1 h2]; rfl
theorem containsIdx (s : Schema) (hs : s.fits) : Ent Tryz.prog 110 [.d (.sl false (s.idxs.map idxD)), .fn 111 [.ptr 0 0]] [.var (schC s)]
    (.d (.b (dec (∃ i, i ∈ s.idxs ∧ ¬ colsP i.cols (s.cols.map colD).length)))) [.var (schC s)] := by
  have c1 := indexIdx s hs
  refine ent_of tok mixed (f := 110) Tryz.func110 (by kernel_rfl) (keep := false) ?_
  repeat' ((conv => whnf) <;> (first | ((with_reducible refine isCall ?_) <;> (first | (refine ⟨_, c1, ?_⟩; rintro _ _ ⟨n, rfl, rfl, hn⟩) | fail)) | ((with_reducible refine isCut ?_) <;> (first | refine ⟨⟨none⟩, ?_⟩)) | ((first | with_reducible refine isEx ?_ | with_reducible refine isAnd ?_ | with_reducible refine isOr ?_) <;> (first | ((with_reducible refine isSmall ?_) <;> (refine ⟨?_, ?_⟩; kernel_rfl)) | refine ⟨rfl, ?_⟩ | refine ⟨Int.natCast_nonneg _, ?_⟩)) | with_reducible refine Both.mk ?_ ?_ | rintro _ rfl | exact rfl | (split <;> (rename_i h; first | (simp only [beq_self_eq_true, eq_self, decide_true, Bool.not_true, Bool.false_eq_true] at h; done) | (try rw [h])))))
  all_goals (conv => whnf)
  all_goals (rw [← hn]; exact ⟨rfl, rfl⟩)
end Go.Pm.Tryz
namespace Go.Pm.Tryz
open Go Go.Proofs
set_option linter.unusedVariables false
set_option linter.unusedSimpArgs false
set_option maxRecDepth 100000
theorem threes (cs : List Col) : ∀ x, x ∈ cs.map colD → x.cells.length = 3 := by
  intro x hx
  obtain ⟨n, _, rfl⟩ := List.mem_map.1 hx
  rfl
set_option maxHeartbeats 4000000 in
theorem implSchemaRight (s : Schema) (hs : s.fits) : Ent Tryz.prog 78 [.d (schemaD s)] [] (.d (.b (dec (schemaP s)))) [] := by
  obtain ⟨o, ho⟩ : ∃ o, o = dec (schemaP s) := ⟨_, rfl⟩
  rw [← ho]
  have hcl : (s.cols.map colD).length = s.cols.length := List.length_map ..
  have hil : (s.idxs.map idxD).length = s.idxs.length := List.length_map ..
  have hkl : (s.keys.map i64D).length = s.keys.length := List.length_map ..
  have c1 := implNameRight s.name hs.name
  have c2 := implColumns s.name (s.cols.map colD) (s.keys.map i64D) (s.idxs.map idxD) (by rw [hcl]; exact hs.cols) s.keys hs.keys
  have c5 := containsIdx s hs
  refine ent_of tok mixed (f := 78) Tryz.func78 (by kernel_rfl) (keep := false) ?_
  repeat' ((conv => whnf) <;> (first | ((with_reducible refine isCall ?_) <;> (first | (refine ⟨_, c1, ?_⟩; rintro _ _ ⟨rfl, rfl⟩) | (refine ⟨_, c2, ?_⟩; rintro _ _ ⟨rfl, rfl⟩) | (refine ⟨_, c5, ?_⟩; rintro _ _ ⟨rfl, rfl⟩) | (refine ⟨_, c3, ?_⟩; rintro _ _ ⟨rfl, rfl⟩) | (refine ⟨_, c6, ?_⟩; rintro _ _ ⟨rfl, rfl⟩) | (refine ⟨_, c4, ?_⟩; rintro _ _ ⟨n, rfl, rfl, hn⟩) | (refine ⟨_, within _ _ _, ?_⟩; rintro _ _ ⟨rfl, rfl⟩) | refine ⟨_, get_map' hc, ?_⟩ | refine ⟨_, get_map' hy, ?_⟩ | refine ⟨⟨threes _, by decide⟩, ?_⟩ | refine ⟨⟨Int.natCast_nonneg _, (by have := get_lt hc; rw [List.length_map]; omega)⟩, ?_⟩ | refine ⟨hyr.1, ?_⟩ | fail)) | ((with_reducible refine isLoop ?_) <;> (first | (refine ⟨[34, 33, 32, 1], [10001], fun st => ∃ (k : Nat) (i : Int), i = k ∧ k ≤ s.cols.length ∧ (nameOk s.name = true ∧ 1 ≤ s.cols.length ∧ s.cols.length ≤ 10 ∧ s.idxs.length ≤ 4 ∧ colsP s.keys s.cols.length) ∧ (∀ (j : Nat) (c : Col), j < k → s.cols[j]? = some c → nameOk c.name = true ∧ (1 ≤ c.kind ∧ c.kind ≤ 3) ∧ ∀ d, d ∈ s.cols.take j → d.name ≠ c.name) ∧ st = ⟨[(34, .d (.i .i64 i)), (33, .d (.i .i64 ((s.cols.map colD).length : Int))), (32, .d (.sl false (s.cols.map colD))), (1, .ptr 10001 0)], [(10001, .var (schC s))]⟩, fun st => match look 34 st.env with | some (.d (.i _ i)) => s.cols.length - i.toNat | _ => 0, rfl, ⟨0, _, rfl, Nat.zero_le _, ?_, (fun j c hj => absurd hj (Nat.not_lt_zero _)), rfl⟩, ?_⟩; rotate_left; rintro st ⟨k, i, rfl, hk, hP0, hv, rfl⟩) | (refine ⟨[64, 63, 62, 1], [10001], fun st => ∃ (k : Nat) (i : Int), i = k ∧ k ≤ s.keys.length ∧ (∀ x, x ∈ s.keys.take k → ∀ c, s.cols[x.toNat]? = some c → c.uniq = false) ∧ st = ⟨[(64, .d (.i .i64 i)), (63, .d (.i .i64 ((s.keys.map i64D).length : Int))), (62, .d (.sl false (s.keys.map i64D))), (1, .ptr 10001 0)], [(10001, .var (schC s))]⟩, fun st => match look 64 st.env with | some (.d (.i _ i)) => s.keys.length - i.toNat | _ => 0, rfl, ⟨0, _, rfl, Nat.zero_le _, (fun x hx => by simp at hx), rfl⟩, ?_⟩; rintro st ⟨k2, i, rfl, hk2, hv2, rfl⟩) | refine ⟨_, get_map' hc, ?_⟩ | refine ⟨_, get_map' hy, ?_⟩ | refine ⟨⟨threes _, by decide⟩, ?_⟩ | refine ⟨⟨Int.natCast_nonneg _, (by have := get_lt hc; rw [List.length_map]; omega)⟩, ?_⟩ | refine ⟨hyr.1, ?_⟩ | fail)) | ((with_reducible refine isCut ?_) <;> (first | refine ⟨⟨none⟩, ?_⟩)) | ((first | with_reducible refine isEx ?_ | with_reducible refine isAnd ?_ | with_reducible refine isOr ?_) <;> (first | refine ⟨_, get_map' hc, ?_⟩ | refine ⟨_, get_map' hy, ?_⟩ | ((with_reducible refine isGet (xs := s.keys.map i64D) (i := ((k2 : Nat) : Int).toNat) ?_); obtain ⟨y, hy⟩ := get_ex (ss := s.keys) (k := k2) (lt_of_dec (by assumption)); have hyr := (hP0.2.2.2.2.2 k2 y hy).1; obtain ⟨c, hc⟩ := get_ex (ss := s.cols) (k := y.toNat) (by omega); refine ⟨_, get_map' hy, ?_⟩) | ((with_reducible refine isGet (xs := s.cols.map colD) (i := ((k : Nat) : Int).toNat) ?_); obtain ⟨c, hc⟩ := get_ex (ss := s.cols) (k := k) (lt_of_dec (by assumption)); have c3 := implNameRight c.name (hs.names c (get_mem hc)); have c4 := columnOf [] s.cols hs.cols k [] [] c.name; have c6 := within c.kind 1 3; obtain ⟨u3, hu3⟩ : ∃ u, u = nameOk c.name := ⟨_, rfl⟩; obtain ⟨u6, hu6⟩ : ∃ u, u = inside c.kind 1 3 := ⟨_, rfl⟩; rw [← hu3] at c3; rw [← hu6] at c6; cases u3 <;> cases u6 <;> refine ⟨_, get_map' hc, ?_⟩) | refine ⟨⟨threes _, by decide⟩, ?_⟩ | refine ⟨⟨Int.natCast_nonneg _, (by have := get_lt hc; rw [List.length_map]; omega)⟩, ?_⟩ | refine ⟨hyr.1, ?_⟩ | ((with_reducible refine isSmall ?_) <;> (refine ⟨?_, ?_⟩; kernel_rfl)) | refine ⟨rfl, ?_⟩ | refine ⟨Int.natCast_nonneg _, ?_⟩)) | with_reducible refine Both.mk ?_ ?_ | rintro _ rfl | exact rfl | (split <;> (rename_i h; first | (simp only [beq_self_eq_true, eq_self, decide_true, Bool.not_true, Bool.false_eq_true] at h; done) | (try rw [h])))))
  all_goals (conv => whnf)
  all_goals first
    | exact ret_false ho fun hP => by have := not_ok' h; rw [hP.name] at this; cases this
    | exact ret_false ho fun hP => by have := not_ok' h; rw [(inside_iff _ _ _).2 ⟨by rw [hcl]; have := hP.lo; omega, by rw [hcl]; have := hP.hi; omega⟩] at this; cases this
    | exact ret_false ho fun hP => by have := of_decide_eq_true h; have := hP.lo; have := hP.hi; have := hP.idx; omega
    | exact ret_false ho fun hP => by have := of_ndec (not_ok' h); rw [hcl] at this; exact this hP.keys
    | exact ret_false ho fun hP => Bool.noConfusion (hu3.trans (hP.cols k c hc).1 : false = true)
    | exact ret_false ho fun hP => Bool.noConfusion (hu6.trans ((inside_iff _ _ _).2 (hP.cols k c hc).2.1) : false = true)
    | (rw [hn] at h; exact ret_false ho fun hP => (of_dec h).elim fun d hd => (hP.cols k c hc).2.2 d hd.1 hd.2)
    | exact ret_false ho fun hP => by rw [hP.uniq y (get_mem hy) c hc] at h; cases h
    | (rw [hn] at h
       exact ⟨⟨k + 1, _, step_up (get_lt hc) hs.cols, get_lt hc, hP0, cols_up hv hc ⟨hu3.symm, (inside_iff _ _ _).1 hu6.symm, fun d hd he => of_ndec h ⟨d, hd, he⟩⟩, rfl⟩, mu_up (get_lt hc) hs.cols⟩)
    | exact ⟨⟨k2 + 1, _, step_up (get_lt hy) hs.keys, get_lt hy, take_all hv2 hy (fun c' hc' => by rw [hc] at hc'; cases hc'; exact h), rfl⟩, mu_up (get_lt hy) hs.keys⟩
    | (have e : k = s.cols.length := by have := of_decide_eq_false (by assumption : decide ((k : Int) < ((s.cols.map colD).length : Int)) = false); omega
       have e2 : k2 = s.keys.length := by have := of_decide_eq_false (by assumption : decide ((k2 : Int) < ((s.keys.map i64D).length : Int)) = false); omega
       rw [e2, List.take_length] at hv2
       refine ret_b ho ⟨fun hb => ?_, fun hP => ?_⟩
       · have hno := of_ndec (not_ok' hb)
         exact ⟨hP0.1, hP0.2.1, hP0.2.2.1, hP0.2.2.2.1, hP0.2.2.2.2, fun j c hj => hv j c (by rw [e]; exact get_lt hj) hj, hv2, fun i hi => Classical.byContradiction fun hc => hno ⟨i, hi, by rw [hcl]; exact hc⟩⟩
       · rw [dec_false fun ⟨i, hi, hc⟩ => hc (by rw [hcl]; exact hP.idxs i hi)]; rfl)
    | (refine ⟨not_ok (by assumption), ?_, ?_, ?_, ?_⟩
       · have := (inside_iff _ _ _).1 (not_ok (by assumption : (!inside ((s.cols.map colD).length : Int) 1 10) = false)); omega
       · have := (inside_iff _ _ _).1 (not_ok (by assumption : (!inside ((s.cols.map colD).length : Int) 1 10) = false)); omega
       · have := of_decide_eq_false (by assumption : decide (((s.idxs.map idxD).length : Int) > 4) = false); omega
       · have := of_dec (not_ok (by assumption : (!dec (colsP s.keys (s.cols.map colD).length)) = false)); rw [hcl] at this; exact this)
    | trace_state
end Go.Pm.Tryz
namespace Go.Pm.Tryz
open Go Go.Proofs
set_option linter.unusedVariables false
set_option linter.unusedSimpArgs false
set_option maxRecDepth 100000
structure Val where
  kind : Int
  n : Int
  text : List UInt8
def valD (v : Val) : D := .agg [.i .i64 v.kind, .i .i64 v.n, .s v.text]
def valueP (v : Val) : Prop := (v.kind = 0 ∧ v.n = 0 ∧ v.text = []) ∨ (v.kind = 1 ∧ (0 ≤ v.n ∧ v.n ≤ 1) ∧ v.text = []) ∨ (v.kind = 2 ∧ v.text = []) ∨ (v.kind = 3 ∧ v.n = 0 ∧ v.text.length ≤ 200)
theorem specValueRight (v : Val) : Ent Tryz.prog 100 [.d (valD v)] [] (.d (.b (dec (valueP v)))) [] := by
  obtain ⟨o, ho⟩ : ∃ o, o = dec (valueP v) := ⟨_, rfl⟩
  rw [← ho]
  rcases v with ⟨k, n, t⟩
  refine ent_of tok mixed (f := 100) Tryz.func100 (by kernel_rfl) (keep := false) ?_
  repeat' ((conv => whnf) <;> (first | ((with_reducible refine isCall ?_) <;> (first | fail)) | ((with_reducible refine isCut ?_) <;> (first | refine ⟨⟨none⟩, ?_⟩)) | ((first | with_reducible refine isEx ?_ | with_reducible refine isAnd ?_ | with_reducible refine isOr ?_) <;> (first | ((with_reducible refine isSmall ?_) <;> (refine ⟨?_, ?_⟩; kernel_rfl)) | refine ⟨rfl, ?_⟩ | refine ⟨Int.natCast_nonneg _, ?_⟩)) | with_reducible refine Both.mk ?_ ?_ | rintro _ rfl | exact rfl | (split <;> (rename_i h; first | (simp only [beq_self_eq_true, eq_self, decide_true, Bool.not_true, Bool.false_eq_true] at h; done) | (try rw [h])))))
  all_goals (conv => whnf)
  all_goals (refine ret_b ho ?_; simp only [valueP] at *; simp_all <;> omega)
theorem implValueRight (v : Val) : Ent Tryz.prog 88 [.d (valD v)] [] (.d (.b (dec (valueP v)))) [] := by
  obtain ⟨o, ho⟩ : ∃ o, o = dec (valueP v) := ⟨_, rfl⟩
  rw [← ho]
  rcases v with ⟨k, n, t⟩
  refine ent_of tok mixed (f := 88) Tryz.func88 (by kernel_rfl) (keep := false) ?_
  repeat' ((conv => whnf) <;> (first | ((with_reducible refine isCall ?_) <;> (first | (refine ⟨_, within _ _ _, ?_⟩; rintro _ _ ⟨rfl, rfl⟩) | fail)) | ((with_reducible refine isCut ?_) <;> (first | refine ⟨⟨none⟩, ?_⟩)) | ((first | with_reducible refine isEx ?_ | with_reducible refine isAnd ?_ | with_reducible refine isOr ?_) <;> (first | ((with_reducible refine isSmall ?_) <;> (refine ⟨?_, ?_⟩; kernel_rfl)) | refine ⟨rfl, ?_⟩ | refine ⟨Int.natCast_nonneg _, ?_⟩)) | with_reducible refine Both.mk ?_ ?_ | rintro _ rfl | exact rfl | (split <;> (rename_i h; first | (simp only [beq_self_eq_true, eq_self, decide_true, Bool.not_true, Bool.false_eq_true] at h; done) | (try rw [h])))))
  all_goals (conv => whnf)
  all_goals (refine ret_b ho ?_; simp only [valueP] at *; simp_all [inside] <;> omega)
def valuesP (vs : List Val) : Prop := vs.length ≤ 12 ∧ ∀ v, v ∈ vs → valueP v
theorem twelve {n : Nat} (h : n ≤ 12) : n ≤ maxLen := Nat.le_trans h (Nat.le_of_ble_eq_true rfl)
theorem erase_cols : ∀ l : List Col, eraseL (l.map colD) = l.map colD
  | [] => rfl
  | x :: l => by simp only [List.map_cons, eraseL, erase_cols l]; rfl
theorem erase_vals : ∀ l : List Val, eraseL (l.map valD) = l.map valD
  | [] => rfl
  | x :: l => by simp only [List.map_cons, eraseL, erase_vals l]; rfl
end Go.Pm.Tryz
