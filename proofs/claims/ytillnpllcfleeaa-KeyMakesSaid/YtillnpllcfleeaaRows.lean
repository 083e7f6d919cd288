/-
  No cell of these rows narrows 'for every input' (looked for: loops, veiled, ifaces, maps, wideKeys, modest, calm, conditions, laid).
  DERIVED. THE GIVEN ROWS OF THIS SEAT. 28 by the template 'for every input the law returns true; each argument reads behind the call as it read before'; 0 by the template 'total and deterministic' (their statements: YtillnpllcfleeaaTotals.lean).
  GIVEN WITH THE SEED: the statements are not yours to turn. If you find one false, say at which input.
  Laid BY PROGRAM, IN A SANDBOX (cutbox-rows.mjs): the forced cells as the released guide's own fill.sh prints them over the translation edc57ea289fc50c0… (all of the seat's roots in one cut). By AI agents, Wed Nov 11 2026. No macro, syntax, notation, axiom, sorry.
-/
import Derived.Test.YtillnpllcfleeaaChecked
import GoSem.Claim
import GoSem.ClaimJoined
import GoSem.ClaimMapViews
import Derived.JoinedTies
import Derived.KernelRfl
namespace Go.Proofs.Ytillnpllcfleeaa
/- THE CELL 'sum', in the pinned program and in every row, IS THE sha256 OF THE DUMP (.gsa) THAT YtillnpllcfleeaaProg.lean LOADS. Nothing in Lean hashes anything: it is a label: what it is worth is what the hold of that sum in a sandbox is worth. -/
noncomputable def Try.pinned : Pinned := { name := "ytillnpllcfleeaa", sum := "edc57ea289fc50c0885b979689c765331a0b2637ab10959b1da68b54d398f97c", checked := Try.checked }
namespace Rows
def none {H : Type} : Left H := { results := [], args := [] }

/-- 'hostlerlaw06.ShaSums': WHATEVER THE INPUT: true; the input reads as it did. -/
def shaSumsSpec : ChangeSpec := { name := "shaSums", fn := fun _ => fun
  | [d] => { results := [.lit (.bool true)], args := [d] }
  | _ => none }
def shaSumsRow : OpenClaim := { program := "ytillnpllcfleeaa", sum := "edc57ea289fc50c0885b979689c765331a0b2637ab10959b1da68b54d398f97c", func := "hostler/hostlerlaw06.ShaSums", spec := "shaSums", unfollowed := true, recurses := true, apart := false }
def ShaSumsSaid : Prop := shaSumsRow.holds Try.pinned (OpenSpec.ofChange shaSumsSpec)

/-- ITS FALSE NEIGHBOUR: 'it returns false'. Refute it at one input. -/
def shaSumsWrong : ChangeSpec := { name := "shaSums", fn := fun _ => fun
  | [d] => { results := [.lit (.bool false)], args := [d] }
  | _ => none }
def ShaSumsWrongFalsely : Prop := shaSumsRow.holds Try.pinned (OpenSpec.ofChange shaSumsWrong)

/-- 'hostlerlaw06.ShaCut': WHATEVER THE INPUT: true; the input reads as it did. -/
def shaCutSpec : ChangeSpec := { name := "shaCut", fn := fun _ => fun
  | [d1, d2, d3] => { results := [.lit (.bool true)], args := [d1, d2, d3] }
  | _ => none }
def shaCutRow : OpenClaim := { program := "ytillnpllcfleeaa", sum := "edc57ea289fc50c0885b979689c765331a0b2637ab10959b1da68b54d398f97c", func := "hostler/hostlerlaw06.ShaCut", spec := "shaCut", unfollowed := true, recurses := true, apart := false }
def ShaCutSaid : Prop := shaCutRow.holds Try.pinned (OpenSpec.ofChange shaCutSpec)

/-- ITS FALSE NEIGHBOUR: 'it returns false'. Refute it at one input. -/
def shaCutWrong : ChangeSpec := { name := "shaCut", fn := fun _ => fun
  | [d1, d2, d3] => { results := [.lit (.bool false)], args := [d1, d2, d3] }
  | _ => none }
def ShaCutWrongFalsely : Prop := shaCutRow.holds Try.pinned (OpenSpec.ofChange shaCutWrong)

/-- 'hostlerlaw08.AesApart': WHATEVER THE INPUT: true; the input reads as it did. -/
def aesApartSpec : ChangeSpec := { name := "aesApart", fn := fun _ => fun
  | [d1, d2, d3, d4, d5] => { results := [.lit (.bool true)], args := [d1, d2, d3, d4, d5] }
  | _ => none }
def aesApartRow : OpenClaim := { program := "ytillnpllcfleeaa", sum := "edc57ea289fc50c0885b979689c765331a0b2637ab10959b1da68b54d398f97c", func := "hostler/hostlerlaw08.AesApart", spec := "aesApart", unfollowed := true, recurses := true, apart := false }
def AesApartSaid : Prop := aesApartRow.holds Try.pinned (OpenSpec.ofChange aesApartSpec)

/-- ITS FALSE NEIGHBOUR: 'it returns false'. Refute it at one input. -/
def aesApartWrong : ChangeSpec := { name := "aesApart", fn := fun _ => fun
  | [d1, d2, d3, d4, d5] => { results := [.lit (.bool false)], args := [d1, d2, d3, d4, d5] }
  | _ => none }
def AesApartWrongFalsely : Prop := aesApartRow.holds Try.pinned (OpenSpec.ofChange aesApartWrong)

/-- 'hostlerlaw08.AesSeals': WHATEVER THE INPUT: true; the input reads as it did. -/
def aesSealsSpec : ChangeSpec := { name := "aesSeals", fn := fun _ => fun
  | [d1, d2, d3] => { results := [.lit (.bool true)], args := [d1, d2, d3] }
  | _ => none }
def aesSealsRow : OpenClaim := { program := "ytillnpllcfleeaa", sum := "edc57ea289fc50c0885b979689c765331a0b2637ab10959b1da68b54d398f97c", func := "hostler/hostlerlaw08.AesSeals", spec := "aesSeals", unfollowed := true, recurses := true, apart := false }
def AesSealsSaid : Prop := aesSealsRow.holds Try.pinned (OpenSpec.ofChange aesSealsSpec)

/-- ITS FALSE NEIGHBOUR: 'it returns false'. Refute it at one input. -/
def aesSealsWrong : ChangeSpec := { name := "aesSeals", fn := fun _ => fun
  | [d1, d2, d3] => { results := [.lit (.bool false)], args := [d1, d2, d3] }
  | _ => none }
def AesSealsWrongFalsely : Prop := aesSealsRow.holds Try.pinned (OpenSpec.ofChange aesSealsWrong)

/-- 'hostlerlaw07.KdfMacs': WHATEVER THE INPUT: true; the input reads as it did. -/
def kdfMacsSpec : ChangeSpec := { name := "kdfMacs", fn := fun _ => fun
  | [d1, d2] => { results := [.lit (.bool true)], args := [d1, d2] }
  | _ => none }
def kdfMacsRow : OpenClaim := { program := "ytillnpllcfleeaa", sum := "edc57ea289fc50c0885b979689c765331a0b2637ab10959b1da68b54d398f97c", func := "hostler/hostlerlaw07.KdfMacs", spec := "kdfMacs", unfollowed := true, recurses := true, apart := false }
def KdfMacsSaid : Prop := kdfMacsRow.holds Try.pinned (OpenSpec.ofChange kdfMacsSpec)

/-- ITS FALSE NEIGHBOUR: 'it returns false'. Refute it at one input. -/
def kdfMacsWrong : ChangeSpec := { name := "kdfMacs", fn := fun _ => fun
  | [d1, d2] => { results := [.lit (.bool false)], args := [d1, d2] }
  | _ => none }
def KdfMacsWrongFalsely : Prop := kdfMacsRow.holds Try.pinned (OpenSpec.ofChange kdfMacsWrong)

/-- 'hostlerlaw07.KdfFirst': WHATEVER THE INPUT: true; the input reads as it did. -/
def kdfFirstSpec : ChangeSpec := { name := "kdfFirst", fn := fun _ => fun
  | [d1, d2, d3, d4, d5] => { results := [.lit (.bool true)], args := [d1, d2, d3, d4, d5] }
  | _ => none }
def kdfFirstRow : OpenClaim := { program := "ytillnpllcfleeaa", sum := "edc57ea289fc50c0885b979689c765331a0b2637ab10959b1da68b54d398f97c", func := "hostler/hostlerlaw07.KdfFirst", spec := "kdfFirst", unfollowed := true, recurses := true, apart := false }
def KdfFirstSaid : Prop := kdfFirstRow.holds Try.pinned (OpenSpec.ofChange kdfFirstSpec)

/-- ITS FALSE NEIGHBOUR: 'it returns false'. Refute it at one input. -/
def kdfFirstWrong : ChangeSpec := { name := "kdfFirst", fn := fun _ => fun
  | [d1, d2, d3, d4, d5] => { results := [.lit (.bool false)], args := [d1, d2, d3, d4, d5] }
  | _ => none }
def KdfFirstWrongFalsely : Prop := kdfFirstRow.holds Try.pinned (OpenSpec.ofChange kdfFirstWrong)

/-- 'hostlerlaw07.KdfExpands': WHATEVER THE INPUT: true; the input reads as it did. -/
def kdfExpandsSpec : ChangeSpec := { name := "kdfExpands", fn := fun _ => fun
  | [d1, d2, d3, d4] => { results := [.lit (.bool true)], args := [d1, d2, d3, d4] }
  | _ => none }
def kdfExpandsRow : OpenClaim := { program := "ytillnpllcfleeaa", sum := "edc57ea289fc50c0885b979689c765331a0b2637ab10959b1da68b54d398f97c", func := "hostler/hostlerlaw07.KdfExpands", spec := "kdfExpands", unfollowed := true, recurses := true, apart := false }
def KdfExpandsSaid : Prop := kdfExpandsRow.holds Try.pinned (OpenSpec.ofChange kdfExpandsSpec)

/-- ITS FALSE NEIGHBOUR: 'it returns false'. Refute it at one input. -/
def kdfExpandsWrong : ChangeSpec := { name := "kdfExpands", fn := fun _ => fun
  | [d1, d2, d3, d4] => { results := [.lit (.bool false)], args := [d1, d2, d3, d4] }
  | _ => none }
def KdfExpandsWrongFalsely : Prop := kdfExpandsRow.holds Try.pinned (OpenSpec.ofChange kdfExpandsWrong)

/-- 'hostlerlaw10.KeySeals': WHATEVER THE INPUT: true; the input reads as it did. -/
def keySealsSpec : ChangeSpec := { name := "keySeals", fn := fun _ => fun
  | [d1, d2, d3] => { results := [.lit (.bool true)], args := [d1, d2, d3] }
  | _ => none }
def keySealsRow : OpenClaim := { program := "ytillnpllcfleeaa", sum := "edc57ea289fc50c0885b979689c765331a0b2637ab10959b1da68b54d398f97c", func := "hostler/hostlerlaw10.KeySeals", spec := "keySeals", unfollowed := true, recurses := true, apart := false }
def KeySealsSaid : Prop := keySealsRow.holds Try.pinned (OpenSpec.ofChange keySealsSpec)

/-- ITS FALSE NEIGHBOUR: 'it returns false'. Refute it at one input. -/
def keySealsWrong : ChangeSpec := { name := "keySeals", fn := fun _ => fun
  | [d1, d2, d3] => { results := [.lit (.bool false)], args := [d1, d2, d3] }
  | _ => none }
def KeySealsWrongFalsely : Prop := keySealsRow.holds Try.pinned (OpenSpec.ofChange keySealsWrong)

/-- 'hostlerlaw10.KeyMakes': WHATEVER THE INPUT: true; the input reads as it did. -/
def keyMakesSpec : ChangeSpec := { name := "keyMakes", fn := fun _ => fun
  | [d1, d2, d3] => { results := [.lit (.bool true)], args := [d1, d2, d3] }
  | _ => none }
def keyMakesRow : OpenClaim := { program := "ytillnpllcfleeaa", sum := "edc57ea289fc50c0885b979689c765331a0b2637ab10959b1da68b54d398f97c", func := "hostler/hostlerlaw10.KeyMakes", spec := "keyMakes", unfollowed := true, recurses := true, apart := false }
def KeyMakesSaid : Prop := keyMakesRow.holds Try.pinned (OpenSpec.ofChange keyMakesSpec)

/-- ITS FALSE NEIGHBOUR: 'it returns false'. Refute it at one input. -/
def keyMakesWrong : ChangeSpec := { name := "keyMakes", fn := fun _ => fun
  | [d1, d2, d3] => { results := [.lit (.bool false)], args := [d1, d2, d3] }
  | _ => none }
def KeyMakesWrongFalsely : Prop := keyMakesRow.holds Try.pinned (OpenSpec.ofChange keyMakesWrong)

/-- 'hostlerlaw29.RoutePlays': WHATEVER THE INPUT: true; the input reads as it did. -/
def routePlaysSpec : ChangeSpec := { name := "routePlays", fn := fun _ => fun
  | [d] => { results := [.lit (.bool true)], args := [d] }
  | _ => none }
def routePlaysRow : OpenClaim := { program := "ytillnpllcfleeaa", sum := "edc57ea289fc50c0885b979689c765331a0b2637ab10959b1da68b54d398f97c", func := "hostler/hostlerlaw29.RoutePlays", spec := "routePlays", unfollowed := true, recurses := true, apart := false }
def RoutePlaysSaid : Prop := routePlaysRow.holds Try.pinned (OpenSpec.ofChange routePlaysSpec)

/-- ITS FALSE NEIGHBOUR: 'it returns false'. Refute it at one input. -/
def routePlaysWrong : ChangeSpec := { name := "routePlays", fn := fun _ => fun
  | [d] => { results := [.lit (.bool false)], args := [d] }
  | _ => none }
def RoutePlaysWrongFalsely : Prop := routePlaysRow.holds Try.pinned (OpenSpec.ofChange routePlaysWrong)

/-- 'hostlerlaw10.KeyBack': WHATEVER THE INPUT: true; the input reads as it did. -/
def keyBackSpec : ChangeSpec := { name := "keyBack", fn := fun _ => fun
  | [d1, d2, d3, d4] => { results := [.lit (.bool true)], args := [d1, d2, d3, d4] }
  | _ => none }
def keyBackRow : OpenClaim := { program := "ytillnpllcfleeaa", sum := "edc57ea289fc50c0885b979689c765331a0b2637ab10959b1da68b54d398f97c", func := "hostler/hostlerlaw10.KeyBack", spec := "keyBack", unfollowed := true, recurses := true, apart := false }
def KeyBackSaid : Prop := keyBackRow.holds Try.pinned (OpenSpec.ofChange keyBackSpec)

/-- ITS FALSE NEIGHBOUR: 'it returns false'. Refute it at one input. -/
def keyBackWrong : ChangeSpec := { name := "keyBack", fn := fun _ => fun
  | [d1, d2, d3, d4] => { results := [.lit (.bool false)], args := [d1, d2, d3, d4] }
  | _ => none }
def KeyBackWrongFalsely : Prop := keyBackRow.holds Try.pinned (OpenSpec.ofChange keyBackWrong)

/-- 'hostlerlaw29.RouteAgrees': WHATEVER THE INPUT: true; the input reads as it did. -/
def routeAgreesSpec : ChangeSpec := { name := "routeAgrees", fn := fun _ => fun
  | [d1, d2] => { results := [.lit (.bool true)], args := [d1, d2] }
  | _ => none }
def routeAgreesRow : OpenClaim := { program := "ytillnpllcfleeaa", sum := "edc57ea289fc50c0885b979689c765331a0b2637ab10959b1da68b54d398f97c", func := "hostler/hostlerlaw29.RouteAgrees", spec := "routeAgrees", unfollowed := true, recurses := true, apart := false }
def RouteAgreesSaid : Prop := routeAgreesRow.holds Try.pinned (OpenSpec.ofChange routeAgreesSpec)

/-- ITS FALSE NEIGHBOUR: 'it returns false'. Refute it at one input. -/
def routeAgreesWrong : ChangeSpec := { name := "routeAgrees", fn := fun _ => fun
  | [d1, d2] => { results := [.lit (.bool false)], args := [d1, d2] }
  | _ => none }
def RouteAgreesWrongFalsely : Prop := routeAgreesRow.holds Try.pinned (OpenSpec.ofChange routeAgreesWrong)

/-- 'hostlerlaw03.HeadPuts': WHATEVER THE INPUT: true; the input reads as it did. -/
def headPutsSpec : ChangeSpec := { name := "headPuts", fn := fun _ => fun
  | [d1, d2] => { results := [.lit (.bool true)], args := [d1, d2] }
  | _ => none }
def headPutsRow : OpenClaim := { program := "ytillnpllcfleeaa", sum := "edc57ea289fc50c0885b979689c765331a0b2637ab10959b1da68b54d398f97c", func := "hostler/hostlerlaw03.HeadPuts", spec := "headPuts", apart := false }
def HeadPutsSaid : Prop := headPutsRow.holds Try.pinned (OpenSpec.ofChange headPutsSpec)

/-- ITS FALSE NEIGHBOUR: 'it returns false'. Refute it at one input. -/
def headPutsWrong : ChangeSpec := { name := "headPuts", fn := fun _ => fun
  | [d1, d2] => { results := [.lit (.bool false)], args := [d1, d2] }
  | _ => none }
def HeadPutsWrongFalsely : Prop := headPutsRow.holds Try.pinned (OpenSpec.ofChange headPutsWrong)

/-- 'hostlerlaw03.HeadCut': WHATEVER THE INPUT: true; the input reads as it did. -/
def headCutSpec : ChangeSpec := { name := "headCut", fn := fun _ => fun
  | [d1, d2, d3] => { results := [.lit (.bool true)], args := [d1, d2, d3] }
  | _ => none }
def headCutRow : OpenClaim := { program := "ytillnpllcfleeaa", sum := "edc57ea289fc50c0885b979689c765331a0b2637ab10959b1da68b54d398f97c", func := "hostler/hostlerlaw03.HeadCut", spec := "headCut", apart := false }
def HeadCutSaid : Prop := headCutRow.holds Try.pinned (OpenSpec.ofChange headCutSpec)

/-- ITS FALSE NEIGHBOUR: 'it returns false'. Refute it at one input. -/
def headCutWrong : ChangeSpec := { name := "headCut", fn := fun _ => fun
  | [d1, d2, d3] => { results := [.lit (.bool false)], args := [d1, d2, d3] }
  | _ => none }
def HeadCutWrongFalsely : Prop := headCutRow.holds Try.pinned (OpenSpec.ofChange headCutWrong)

/-- 'hostlerlaw09.GcmSeals': WHATEVER THE INPUT: true; the input reads as it did. -/
def gcmSealsSpec : ChangeSpec := { name := "gcmSeals", fn := fun _ => fun
  | [d1, d2, d3, d4] => { results := [.lit (.bool true)], args := [d1, d2, d3, d4] }
  | _ => none }
def gcmSealsRow : OpenClaim := { program := "ytillnpllcfleeaa", sum := "edc57ea289fc50c0885b979689c765331a0b2637ab10959b1da68b54d398f97c", func := "hostler/hostlerlaw09.GcmSeals", spec := "gcmSeals", unfollowed := true, recurses := true, apart := false }
def GcmSealsSaid : Prop := gcmSealsRow.holds Try.pinned (OpenSpec.ofChange gcmSealsSpec)

/-- ITS FALSE NEIGHBOUR: 'it returns false'. Refute it at one input. -/
def gcmSealsWrong : ChangeSpec := { name := "gcmSeals", fn := fun _ => fun
  | [d1, d2, d3, d4] => { results := [.lit (.bool false)], args := [d1, d2, d3, d4] }
  | _ => none }
def GcmSealsWrongFalsely : Prop := gcmSealsRow.holds Try.pinned (OpenSpec.ofChange gcmSealsWrong)

/-- 'hostlerlaw09.GcmBack': WHATEVER THE INPUT: true; the input reads as it did. -/
def gcmBackSpec : ChangeSpec := { name := "gcmBack", fn := fun _ => fun
  | [d1, d2, d3, d4, d5] => { results := [.lit (.bool true)], args := [d1, d2, d3, d4, d5] }
  | _ => none }
def gcmBackRow : OpenClaim := { program := "ytillnpllcfleeaa", sum := "edc57ea289fc50c0885b979689c765331a0b2637ab10959b1da68b54d398f97c", func := "hostler/hostlerlaw09.GcmBack", spec := "gcmBack", unfollowed := true, recurses := true, apart := false }
def GcmBackSaid : Prop := gcmBackRow.holds Try.pinned (OpenSpec.ofChange gcmBackSpec)

/-- ITS FALSE NEIGHBOUR: 'it returns false'. Refute it at one input. -/
def gcmBackWrong : ChangeSpec := { name := "gcmBack", fn := fun _ => fun
  | [d1, d2, d3, d4, d5] => { results := [.lit (.bool false)], args := [d1, d2, d3, d4, d5] }
  | _ => none }
def GcmBackWrongFalsely : Prop := gcmBackRow.holds Try.pinned (OpenSpec.ofChange gcmBackWrong)

/-- 'hostlerlaw09.GcmJoins': WHATEVER THE INPUT: true; the input reads as it did. -/
def gcmJoinsSpec : ChangeSpec := { name := "gcmJoins", fn := fun _ => fun
  | [d1, d2, d3] => { results := [.lit (.bool true)], args := [d1, d2, d3] }
  | _ => none }
def gcmJoinsRow : OpenClaim := { program := "ytillnpllcfleeaa", sum := "edc57ea289fc50c0885b979689c765331a0b2637ab10959b1da68b54d398f97c", func := "hostler/hostlerlaw09.GcmJoins", spec := "gcmJoins", unfollowed := true, recurses := true, apart := false }
def GcmJoinsSaid : Prop := gcmJoinsRow.holds Try.pinned (OpenSpec.ofChange gcmJoinsSpec)

/-- ITS FALSE NEIGHBOUR: 'it returns false'. Refute it at one input. -/
def gcmJoinsWrong : ChangeSpec := { name := "gcmJoins", fn := fun _ => fun
  | [d1, d2, d3] => { results := [.lit (.bool false)], args := [d1, d2, d3] }
  | _ => none }
def GcmJoinsWrongFalsely : Prop := gcmJoinsRow.holds Try.pinned (OpenSpec.ofChange gcmJoinsWrong)

/-- 'hostlerlaw03.HeadBack': WHATEVER THE INPUT: true; the input reads as it did. -/
def headBackSpec : ChangeSpec := { name := "headBack", fn := fun _ => fun
  | [d1, d2, d3, d4] => { results := [.lit (.bool true)], args := [d1, d2, d3, d4] }
  | _ => none }
def headBackRow : OpenClaim := { program := "ytillnpllcfleeaa", sum := "edc57ea289fc50c0885b979689c765331a0b2637ab10959b1da68b54d398f97c", func := "hostler/hostlerlaw03.HeadBack", spec := "headBack", apart := false }
def HeadBackSaid : Prop := headBackRow.holds Try.pinned (OpenSpec.ofChange headBackSpec)

/-- ITS FALSE NEIGHBOUR: 'it returns false'. Refute it at one input. -/
def headBackWrong : ChangeSpec := { name := "headBack", fn := fun _ => fun
  | [d1, d2, d3, d4] => { results := [.lit (.bool false)], args := [d1, d2, d3, d4] }
  | _ => none }
def HeadBackWrongFalsely : Prop := headBackRow.holds Try.pinned (OpenSpec.ofChange headBackWrong)

/-- 'hostlerlaw26.CellPuts': WHATEVER THE INPUT: true; the input reads as it did. -/
def cellPutsSpec : ChangeSpec := { name := "cellPuts", fn := fun _ => fun
  | [d1, d2] => { results := [.lit (.bool true)], args := [d1, d2] }
  | _ => none }
def cellPutsRow : OpenClaim := { program := "ytillnpllcfleeaa", sum := "edc57ea289fc50c0885b979689c765331a0b2637ab10959b1da68b54d398f97c", func := "hostler/hostlerlaw26.CellPuts", spec := "cellPuts", unfollowed := true, recurses := true, apart := false }
def CellPutsSaid : Prop := cellPutsRow.holds Try.pinned (OpenSpec.ofChange cellPutsSpec)

/-- ITS FALSE NEIGHBOUR: 'it returns false'. Refute it at one input. -/
def cellPutsWrong : ChangeSpec := { name := "cellPuts", fn := fun _ => fun
  | [d1, d2] => { results := [.lit (.bool false)], args := [d1, d2] }
  | _ => none }
def CellPutsWrongFalsely : Prop := cellPutsRow.holds Try.pinned (OpenSpec.ofChange cellPutsWrong)

/-- 'hostlerlaw26.CellLast': WHATEVER THE INPUT: true; the input reads as it did. -/
def cellLastSpec : ChangeSpec := { name := "cellLast", fn := fun _ => fun
  | [d] => { results := [.lit (.bool true)], args := [d] }
  | _ => none }
def cellLastRow : OpenClaim := { program := "ytillnpllcfleeaa", sum := "edc57ea289fc50c0885b979689c765331a0b2637ab10959b1da68b54d398f97c", func := "hostler/hostlerlaw26.CellLast", spec := "cellLast", unfollowed := true, recurses := true, apart := false }
def CellLastSaid : Prop := cellLastRow.holds Try.pinned (OpenSpec.ofChange cellLastSpec)

/-- ITS FALSE NEIGHBOUR: 'it returns false'. Refute it at one input. -/
def cellLastWrong : ChangeSpec := { name := "cellLast", fn := fun _ => fun
  | [d] => { results := [.lit (.bool false)], args := [d] }
  | _ => none }
def CellLastWrongFalsely : Prop := cellLastRow.holds Try.pinned (OpenSpec.ofChange cellLastWrong)

/-- 'hostlerlaw26.CellCut': WHATEVER THE INPUT: true; the input reads as it did. -/
def cellCutSpec : ChangeSpec := { name := "cellCut", fn := fun _ => fun
  | [d1, d2, d3, d4] => { results := [.lit (.bool true)], args := [d1, d2, d3, d4] }
  | _ => none }
def cellCutRow : OpenClaim := { program := "ytillnpllcfleeaa", sum := "edc57ea289fc50c0885b979689c765331a0b2637ab10959b1da68b54d398f97c", func := "hostler/hostlerlaw26.CellCut", spec := "cellCut", unfollowed := true, recurses := true, apart := false }
def CellCutSaid : Prop := cellCutRow.holds Try.pinned (OpenSpec.ofChange cellCutSpec)

/-- ITS FALSE NEIGHBOUR: 'it returns false'. Refute it at one input. -/
def cellCutWrong : ChangeSpec := { name := "cellCut", fn := fun _ => fun
  | [d1, d2, d3, d4] => { results := [.lit (.bool false)], args := [d1, d2, d3, d4] }
  | _ => none }
def CellCutWrongFalsely : Prop := cellCutRow.holds Try.pinned (OpenSpec.ofChange cellCutWrong)

/-- 'hostlerlaw33.RetryPackets': WHATEVER THE INPUT: true; the input reads as it did. -/
def retryPacketsSpec : ChangeSpec := { name := "retryPackets", fn := fun _ => fun
  | [d1, d2, d3] => { results := [.lit (.bool true)], args := [d1, d2, d3] }
  | _ => none }
def retryPacketsRow : OpenClaim := { program := "ytillnpllcfleeaa", sum := "edc57ea289fc50c0885b979689c765331a0b2637ab10959b1da68b54d398f97c", func := "hostler/hostlerlaw33.RetryPackets", spec := "retryPackets", unfollowed := true, recurses := true, apart := false }
def RetryPacketsSaid : Prop := retryPacketsRow.holds Try.pinned (OpenSpec.ofChange retryPacketsSpec)

/-- ITS FALSE NEIGHBOUR: 'it returns false'. Refute it at one input. -/
def retryPacketsWrong : ChangeSpec := { name := "retryPackets", fn := fun _ => fun
  | [d1, d2, d3] => { results := [.lit (.bool false)], args := [d1, d2, d3] }
  | _ => none }
def RetryPacketsWrongFalsely : Prop := retryPacketsRow.holds Try.pinned (OpenSpec.ofChange retryPacketsWrong)

/-- 'hostlerlaw27.LeaseApart': WHATEVER THE INPUT: true; the input reads as it did. -/
def leaseApartSpec : ChangeSpec := { name := "leaseApart", fn := fun _ => fun
  | [d1, d2] => { results := [.lit (.bool true)], args := [d1, d2] }
  | _ => none }
def leaseApartRow : OpenClaim := { program := "ytillnpllcfleeaa", sum := "edc57ea289fc50c0885b979689c765331a0b2637ab10959b1da68b54d398f97c", func := "hostler/hostlerlaw27.LeaseApart", spec := "leaseApart", unfollowed := true, recurses := true, apart := false }
def LeaseApartSaid : Prop := leaseApartRow.holds Try.pinned (OpenSpec.ofChange leaseApartSpec)

/-- ITS FALSE NEIGHBOUR: 'it returns false'. Refute it at one input. -/
def leaseApartWrong : ChangeSpec := { name := "leaseApart", fn := fun _ => fun
  | [d1, d2] => { results := [.lit (.bool false)], args := [d1, d2] }
  | _ => none }
def LeaseApartWrongFalsely : Prop := leaseApartRow.holds Try.pinned (OpenSpec.ofChange leaseApartWrong)

/-- 'hostlerlaw33.RetryTokens': WHATEVER THE INPUT: true; the input reads as it did. -/
def retryTokensSpec : ChangeSpec := { name := "retryTokens", fn := fun _ => fun
  | [d1, d2, d3, d4] => { results := [.lit (.bool true)], args := [d1, d2, d3, d4] }
  | _ => none }
def retryTokensRow : OpenClaim := { program := "ytillnpllcfleeaa", sum := "edc57ea289fc50c0885b979689c765331a0b2637ab10959b1da68b54d398f97c", func := "hostler/hostlerlaw33.RetryTokens", spec := "retryTokens", unfollowed := true, recurses := true, apart := false }
def RetryTokensSaid : Prop := retryTokensRow.holds Try.pinned (OpenSpec.ofChange retryTokensSpec)

/-- ITS FALSE NEIGHBOUR: 'it returns false'. Refute it at one input. -/
def retryTokensWrong : ChangeSpec := { name := "retryTokens", fn := fun _ => fun
  | [d1, d2, d3, d4] => { results := [.lit (.bool false)], args := [d1, d2, d3, d4] }
  | _ => none }
def RetryTokensWrongFalsely : Prop := retryTokensRow.holds Try.pinned (OpenSpec.ofChange retryTokensWrong)

/-- 'hostlerlaw21.ShakeMeets': WHATEVER THE INPUT: true; the input reads as it did. -/
def shakeMeetsSpec : ChangeSpec := { name := "shakeMeets", fn := fun _ => fun
  | [d1, d2, d3, d4, d5, d6] => { results := [.lit (.bool true)], args := [d1, d2, d3, d4, d5, d6] }
  | _ => none }
def shakeMeetsRow : OpenClaim := { program := "ytillnpllcfleeaa", sum := "edc57ea289fc50c0885b979689c765331a0b2637ab10959b1da68b54d398f97c", func := "hostler/hostlerlaw21.ShakeMeets", spec := "shakeMeets", inPlace := ["internal/bytealg.MakeNoZero"], unfollowed := true, recurses := true, apart := false }
def ShakeMeetsSaid : Prop := shakeMeetsRow.holds Try.pinned (OpenSpec.ofChange shakeMeetsSpec)

/-- ITS FALSE NEIGHBOUR: 'it returns false'. Refute it at one input. -/
def shakeMeetsWrong : ChangeSpec := { name := "shakeMeets", fn := fun _ => fun
  | [d1, d2, d3, d4, d5, d6] => { results := [.lit (.bool false)], args := [d1, d2, d3, d4, d5, d6] }
  | _ => none }
def ShakeMeetsWrongFalsely : Prop := shakeMeetsRow.holds Try.pinned (OpenSpec.ofChange shakeMeetsWrong)

/-- 'hostlerlaw33.RetryChecks': WHATEVER THE INPUT: true; the input reads as it did. -/
def retryChecksSpec : ChangeSpec := { name := "retryChecks", fn := fun _ => fun
  | [d1, d2, d3, d4, d5] => { results := [.lit (.bool true)], args := [d1, d2, d3, d4, d5] }
  | _ => none }
def retryChecksRow : OpenClaim := { program := "ytillnpllcfleeaa", sum := "edc57ea289fc50c0885b979689c765331a0b2637ab10959b1da68b54d398f97c", func := "hostler/hostlerlaw33.RetryChecks", spec := "retryChecks", unfollowed := true, recurses := true, apart := false }
def RetryChecksSaid : Prop := retryChecksRow.holds Try.pinned (OpenSpec.ofChange retryChecksSpec)

/-- ITS FALSE NEIGHBOUR: 'it returns false'. Refute it at one input. -/
def retryChecksWrong : ChangeSpec := { name := "retryChecks", fn := fun _ => fun
  | [d1, d2, d3, d4, d5] => { results := [.lit (.bool false)], args := [d1, d2, d3, d4, d5] }
  | _ => none }
def RetryChecksWrongFalsely : Prop := retryChecksRow.holds Try.pinned (OpenSpec.ofChange retryChecksWrong)

/-- 'hostlerlaw33.RetryKnown': WHATEVER THE INPUT: true; the input reads as it did. -/
def retryKnownSpec : ChangeSpec := { name := "retryKnown", fn := fun _ => fun
  | [] => { results := [.lit (.bool true)], args := [] }
  | _ => none }
def retryKnownRow : OpenClaim := { program := "ytillnpllcfleeaa", sum := "edc57ea289fc50c0885b979689c765331a0b2637ab10959b1da68b54d398f97c", func := "hostler/hostlerlaw33.RetryKnown", spec := "retryKnown", unfollowed := true, recurses := true, apart := false }
def RetryKnownSaid : Prop := retryKnownRow.holds Try.pinned (OpenSpec.ofChange retryKnownSpec)

/-- ITS FALSE NEIGHBOUR: 'it returns false'. Refute it at one input. -/
def retryKnownWrong : ChangeSpec := { name := "retryKnown", fn := fun _ => fun
  | [] => { results := [.lit (.bool false)], args := [] }
  | _ => none }
def RetryKnownWrongFalsely : Prop := retryKnownRow.holds Try.pinned (OpenSpec.ofChange retryKnownWrong)

/-- 'hostlerlaw33.RetryProves': WHATEVER THE INPUT: true; the input reads as it did. -/
def retryProvesSpec : ChangeSpec := { name := "retryProves", fn := fun _ => fun
  | [d1, d2, d3, d4, d5, d6, d7, d8] => { results := [.lit (.bool true)], args := [d1, d2, d3, d4, d5, d6, d7, d8] }
  | _ => none }
def retryProvesRow : OpenClaim := { program := "ytillnpllcfleeaa", sum := "edc57ea289fc50c0885b979689c765331a0b2637ab10959b1da68b54d398f97c", func := "hostler/hostlerlaw33.RetryProves", spec := "retryProves", unfollowed := true, recurses := true, apart := false }
def RetryProvesSaid : Prop := retryProvesRow.holds Try.pinned (OpenSpec.ofChange retryProvesSpec)

/-- ITS FALSE NEIGHBOUR: 'it returns false'. Refute it at one input. -/
def retryProvesWrong : ChangeSpec := { name := "retryProves", fn := fun _ => fun
  | [d1, d2, d3, d4, d5, d6, d7, d8] => { results := [.lit (.bool false)], args := [d1, d2, d3, d4, d5, d6, d7, d8] }
  | _ => none }
def RetryProvesWrongFalsely : Prop := retryProvesRow.holds Try.pinned (OpenSpec.ofChange retryProvesWrong)

/- THE SECOND FORM. 'bulk': how many values and letters a reading holds, each counted each time it is reached (what is shared counts as often as it is met; a slice's spare places count too). A statement '..UptoSaid' is the law's where the arguments, and the package variables that the reading takes, are together of bulk at most 1048576: NARROWER than '..Said'. Prove '..Said' where nothing that the law and all that it calls make is longer than what came in: it says more and counts as full. Else prove '..UptoSaid'. A law counts once. -/
mutual
def uptoBulk {H : Type} : DataW H → Nat
  | .lit (.string bytes) => bytes.length + 1
  | .lit _ => 1
  | .nil => 1
  | .ptr d => uptoBulk d + 1
  | .slice elems spare => uptoBulkAll elems + uptoBulkAll spare + 1
  | .agg parts => uptoBulkAll parts + 1
  | .iface _ d => uptoBulk d + 1
  | .map entries => uptoBulkEntries entries + 1
  | .held _ => 1
def uptoBulkAll {H : Type} : List (DataW H) → Nat
  | [] => 0
  | d :: r => uptoBulk d + uptoBulkAll r
def uptoBulkEntries {H : Type} : List (Lit × DataW H) → Nat
  | [] => 0
  | x :: r => uptoBulkEntry x + uptoBulkEntries r
def uptoBulkEntry {H : Type} : Lit × DataW H → Nat
  | (.string bytes, d) => bytes.length + uptoBulk d + 1
  | (_, d) => uptoBulk d + 1
 end
def uptoSmall : (H : Type) → List (DataW H) → Bool := fun _ ds => decide (uptoBulkAll ds ≤ 1048576)
def OpenSpec.upto (s : _root_.Go.ChangeSpec) : _root_.Go.OpenSpec := { _root_.Go.OpenSpec.ofChange s with cond := some uptoSmall }

/-- 'hostlerlaw06.ShaSums', WHERE WHAT IT READS IS OF BULK AT MOST 1048576: true; the input reads as it did. -/
def shaSumsUptoRow : OpenClaim := { program := "ytillnpllcfleeaa", sum := "edc57ea289fc50c0885b979689c765331a0b2637ab10959b1da68b54d398f97c", func := "hostler/hostlerlaw06.ShaSums", spec := "shaSums", unfollowed := true, recurses := true, apart := false, narrowed := true }
def ShaSumsUptoSaid : Prop := shaSumsUptoRow.holds Try.pinned (OpenSpec.upto shaSumsSpec)

/-- 'hostlerlaw06.ShaCut', WHERE WHAT IT READS IS OF BULK AT MOST 1048576: true; the input reads as it did. -/
def shaCutUptoRow : OpenClaim := { program := "ytillnpllcfleeaa", sum := "edc57ea289fc50c0885b979689c765331a0b2637ab10959b1da68b54d398f97c", func := "hostler/hostlerlaw06.ShaCut", spec := "shaCut", unfollowed := true, recurses := true, apart := false, narrowed := true }
def ShaCutUptoSaid : Prop := shaCutUptoRow.holds Try.pinned (OpenSpec.upto shaCutSpec)

/-- 'hostlerlaw08.AesApart', WHERE WHAT IT READS IS OF BULK AT MOST 1048576: true; the input reads as it did. -/
def aesApartUptoRow : OpenClaim := { program := "ytillnpllcfleeaa", sum := "edc57ea289fc50c0885b979689c765331a0b2637ab10959b1da68b54d398f97c", func := "hostler/hostlerlaw08.AesApart", spec := "aesApart", unfollowed := true, recurses := true, apart := false, narrowed := true }
def AesApartUptoSaid : Prop := aesApartUptoRow.holds Try.pinned (OpenSpec.upto aesApartSpec)

/-- 'hostlerlaw08.AesSeals', WHERE WHAT IT READS IS OF BULK AT MOST 1048576: true; the input reads as it did. -/
def aesSealsUptoRow : OpenClaim := { program := "ytillnpllcfleeaa", sum := "edc57ea289fc50c0885b979689c765331a0b2637ab10959b1da68b54d398f97c", func := "hostler/hostlerlaw08.AesSeals", spec := "aesSeals", unfollowed := true, recurses := true, apart := false, narrowed := true }
def AesSealsUptoSaid : Prop := aesSealsUptoRow.holds Try.pinned (OpenSpec.upto aesSealsSpec)

/-- 'hostlerlaw07.KdfMacs', WHERE WHAT IT READS IS OF BULK AT MOST 1048576: true; the input reads as it did. -/
def kdfMacsUptoRow : OpenClaim := { program := "ytillnpllcfleeaa", sum := "edc57ea289fc50c0885b979689c765331a0b2637ab10959b1da68b54d398f97c", func := "hostler/hostlerlaw07.KdfMacs", spec := "kdfMacs", unfollowed := true, recurses := true, apart := false, narrowed := true }
def KdfMacsUptoSaid : Prop := kdfMacsUptoRow.holds Try.pinned (OpenSpec.upto kdfMacsSpec)

/-- 'hostlerlaw07.KdfFirst', WHERE WHAT IT READS IS OF BULK AT MOST 1048576: true; the input reads as it did. -/
def kdfFirstUptoRow : OpenClaim := { program := "ytillnpllcfleeaa", sum := "edc57ea289fc50c0885b979689c765331a0b2637ab10959b1da68b54d398f97c", func := "hostler/hostlerlaw07.KdfFirst", spec := "kdfFirst", unfollowed := true, recurses := true, apart := false, narrowed := true }
def KdfFirstUptoSaid : Prop := kdfFirstUptoRow.holds Try.pinned (OpenSpec.upto kdfFirstSpec)

/-- 'hostlerlaw07.KdfExpands', WHERE WHAT IT READS IS OF BULK AT MOST 1048576: true; the input reads as it did. -/
def kdfExpandsUptoRow : OpenClaim := { program := "ytillnpllcfleeaa", sum := "edc57ea289fc50c0885b979689c765331a0b2637ab10959b1da68b54d398f97c", func := "hostler/hostlerlaw07.KdfExpands", spec := "kdfExpands", unfollowed := true, recurses := true, apart := false, narrowed := true }
def KdfExpandsUptoSaid : Prop := kdfExpandsUptoRow.holds Try.pinned (OpenSpec.upto kdfExpandsSpec)

/-- 'hostlerlaw10.KeySeals', WHERE WHAT IT READS IS OF BULK AT MOST 1048576: true; the input reads as it did. -/
def keySealsUptoRow : OpenClaim := { program := "ytillnpllcfleeaa", sum := "edc57ea289fc50c0885b979689c765331a0b2637ab10959b1da68b54d398f97c", func := "hostler/hostlerlaw10.KeySeals", spec := "keySeals", unfollowed := true, recurses := true, apart := false, narrowed := true }
def KeySealsUptoSaid : Prop := keySealsUptoRow.holds Try.pinned (OpenSpec.upto keySealsSpec)

/-- 'hostlerlaw10.KeyMakes', WHERE WHAT IT READS IS OF BULK AT MOST 1048576: true; the input reads as it did. -/
def keyMakesUptoRow : OpenClaim := { program := "ytillnpllcfleeaa", sum := "edc57ea289fc50c0885b979689c765331a0b2637ab10959b1da68b54d398f97c", func := "hostler/hostlerlaw10.KeyMakes", spec := "keyMakes", unfollowed := true, recurses := true, apart := false, narrowed := true }
def KeyMakesUptoSaid : Prop := keyMakesUptoRow.holds Try.pinned (OpenSpec.upto keyMakesSpec)

/-- 'hostlerlaw29.RoutePlays', WHERE WHAT IT READS IS OF BULK AT MOST 1048576: true; the input reads as it did. -/
def routePlaysUptoRow : OpenClaim := { program := "ytillnpllcfleeaa", sum := "edc57ea289fc50c0885b979689c765331a0b2637ab10959b1da68b54d398f97c", func := "hostler/hostlerlaw29.RoutePlays", spec := "routePlays", unfollowed := true, recurses := true, apart := false, narrowed := true }
def RoutePlaysUptoSaid : Prop := routePlaysUptoRow.holds Try.pinned (OpenSpec.upto routePlaysSpec)

/-- 'hostlerlaw10.KeyBack', WHERE WHAT IT READS IS OF BULK AT MOST 1048576: true; the input reads as it did. -/
def keyBackUptoRow : OpenClaim := { program := "ytillnpllcfleeaa", sum := "edc57ea289fc50c0885b979689c765331a0b2637ab10959b1da68b54d398f97c", func := "hostler/hostlerlaw10.KeyBack", spec := "keyBack", unfollowed := true, recurses := true, apart := false, narrowed := true }
def KeyBackUptoSaid : Prop := keyBackUptoRow.holds Try.pinned (OpenSpec.upto keyBackSpec)

/-- 'hostlerlaw29.RouteAgrees', WHERE WHAT IT READS IS OF BULK AT MOST 1048576: true; the input reads as it did. -/
def routeAgreesUptoRow : OpenClaim := { program := "ytillnpllcfleeaa", sum := "edc57ea289fc50c0885b979689c765331a0b2637ab10959b1da68b54d398f97c", func := "hostler/hostlerlaw29.RouteAgrees", spec := "routeAgrees", unfollowed := true, recurses := true, apart := false, narrowed := true }
def RouteAgreesUptoSaid : Prop := routeAgreesUptoRow.holds Try.pinned (OpenSpec.upto routeAgreesSpec)

/-- 'hostlerlaw03.HeadPuts', WHERE WHAT IT READS IS OF BULK AT MOST 1048576: true; the input reads as it did. -/
def headPutsUptoRow : OpenClaim := { program := "ytillnpllcfleeaa", sum := "edc57ea289fc50c0885b979689c765331a0b2637ab10959b1da68b54d398f97c", func := "hostler/hostlerlaw03.HeadPuts", spec := "headPuts", apart := false, narrowed := true }
def HeadPutsUptoSaid : Prop := headPutsUptoRow.holds Try.pinned (OpenSpec.upto headPutsSpec)

/-- 'hostlerlaw03.HeadCut', WHERE WHAT IT READS IS OF BULK AT MOST 1048576: true; the input reads as it did. -/
def headCutUptoRow : OpenClaim := { program := "ytillnpllcfleeaa", sum := "edc57ea289fc50c0885b979689c765331a0b2637ab10959b1da68b54d398f97c", func := "hostler/hostlerlaw03.HeadCut", spec := "headCut", apart := false, narrowed := true }
def HeadCutUptoSaid : Prop := headCutUptoRow.holds Try.pinned (OpenSpec.upto headCutSpec)

/-- 'hostlerlaw09.GcmSeals', WHERE WHAT IT READS IS OF BULK AT MOST 1048576: true; the input reads as it did. -/
def gcmSealsUptoRow : OpenClaim := { program := "ytillnpllcfleeaa", sum := "edc57ea289fc50c0885b979689c765331a0b2637ab10959b1da68b54d398f97c", func := "hostler/hostlerlaw09.GcmSeals", spec := "gcmSeals", unfollowed := true, recurses := true, apart := false, narrowed := true }
def GcmSealsUptoSaid : Prop := gcmSealsUptoRow.holds Try.pinned (OpenSpec.upto gcmSealsSpec)

/-- 'hostlerlaw09.GcmBack', WHERE WHAT IT READS IS OF BULK AT MOST 1048576: true; the input reads as it did. -/
def gcmBackUptoRow : OpenClaim := { program := "ytillnpllcfleeaa", sum := "edc57ea289fc50c0885b979689c765331a0b2637ab10959b1da68b54d398f97c", func := "hostler/hostlerlaw09.GcmBack", spec := "gcmBack", unfollowed := true, recurses := true, apart := false, narrowed := true }
def GcmBackUptoSaid : Prop := gcmBackUptoRow.holds Try.pinned (OpenSpec.upto gcmBackSpec)

/-- 'hostlerlaw09.GcmJoins', WHERE WHAT IT READS IS OF BULK AT MOST 1048576: true; the input reads as it did. -/
def gcmJoinsUptoRow : OpenClaim := { program := "ytillnpllcfleeaa", sum := "edc57ea289fc50c0885b979689c765331a0b2637ab10959b1da68b54d398f97c", func := "hostler/hostlerlaw09.GcmJoins", spec := "gcmJoins", unfollowed := true, recurses := true, apart := false, narrowed := true }
def GcmJoinsUptoSaid : Prop := gcmJoinsUptoRow.holds Try.pinned (OpenSpec.upto gcmJoinsSpec)

/-- 'hostlerlaw03.HeadBack', WHERE WHAT IT READS IS OF BULK AT MOST 1048576: true; the input reads as it did. -/
def headBackUptoRow : OpenClaim := { program := "ytillnpllcfleeaa", sum := "edc57ea289fc50c0885b979689c765331a0b2637ab10959b1da68b54d398f97c", func := "hostler/hostlerlaw03.HeadBack", spec := "headBack", apart := false, narrowed := true }
def HeadBackUptoSaid : Prop := headBackUptoRow.holds Try.pinned (OpenSpec.upto headBackSpec)

/-- 'hostlerlaw26.CellPuts', WHERE WHAT IT READS IS OF BULK AT MOST 1048576: true; the input reads as it did. -/
def cellPutsUptoRow : OpenClaim := { program := "ytillnpllcfleeaa", sum := "edc57ea289fc50c0885b979689c765331a0b2637ab10959b1da68b54d398f97c", func := "hostler/hostlerlaw26.CellPuts", spec := "cellPuts", unfollowed := true, recurses := true, apart := false, narrowed := true }
def CellPutsUptoSaid : Prop := cellPutsUptoRow.holds Try.pinned (OpenSpec.upto cellPutsSpec)

/-- 'hostlerlaw26.CellLast', WHERE WHAT IT READS IS OF BULK AT MOST 1048576: true; the input reads as it did. -/
def cellLastUptoRow : OpenClaim := { program := "ytillnpllcfleeaa", sum := "edc57ea289fc50c0885b979689c765331a0b2637ab10959b1da68b54d398f97c", func := "hostler/hostlerlaw26.CellLast", spec := "cellLast", unfollowed := true, recurses := true, apart := false, narrowed := true }
def CellLastUptoSaid : Prop := cellLastUptoRow.holds Try.pinned (OpenSpec.upto cellLastSpec)

/-- 'hostlerlaw26.CellCut', WHERE WHAT IT READS IS OF BULK AT MOST 1048576: true; the input reads as it did. -/
def cellCutUptoRow : OpenClaim := { program := "ytillnpllcfleeaa", sum := "edc57ea289fc50c0885b979689c765331a0b2637ab10959b1da68b54d398f97c", func := "hostler/hostlerlaw26.CellCut", spec := "cellCut", unfollowed := true, recurses := true, apart := false, narrowed := true }
def CellCutUptoSaid : Prop := cellCutUptoRow.holds Try.pinned (OpenSpec.upto cellCutSpec)

/-- 'hostlerlaw33.RetryPackets', WHERE WHAT IT READS IS OF BULK AT MOST 1048576: true; the input reads as it did. -/
def retryPacketsUptoRow : OpenClaim := { program := "ytillnpllcfleeaa", sum := "edc57ea289fc50c0885b979689c765331a0b2637ab10959b1da68b54d398f97c", func := "hostler/hostlerlaw33.RetryPackets", spec := "retryPackets", unfollowed := true, recurses := true, apart := false, narrowed := true }
def RetryPacketsUptoSaid : Prop := retryPacketsUptoRow.holds Try.pinned (OpenSpec.upto retryPacketsSpec)

/-- 'hostlerlaw27.LeaseApart', WHERE WHAT IT READS IS OF BULK AT MOST 1048576: true; the input reads as it did. -/
def leaseApartUptoRow : OpenClaim := { program := "ytillnpllcfleeaa", sum := "edc57ea289fc50c0885b979689c765331a0b2637ab10959b1da68b54d398f97c", func := "hostler/hostlerlaw27.LeaseApart", spec := "leaseApart", unfollowed := true, recurses := true, apart := false, narrowed := true }
def LeaseApartUptoSaid : Prop := leaseApartUptoRow.holds Try.pinned (OpenSpec.upto leaseApartSpec)

/-- 'hostlerlaw33.RetryTokens', WHERE WHAT IT READS IS OF BULK AT MOST 1048576: true; the input reads as it did. -/
def retryTokensUptoRow : OpenClaim := { program := "ytillnpllcfleeaa", sum := "edc57ea289fc50c0885b979689c765331a0b2637ab10959b1da68b54d398f97c", func := "hostler/hostlerlaw33.RetryTokens", spec := "retryTokens", unfollowed := true, recurses := true, apart := false, narrowed := true }
def RetryTokensUptoSaid : Prop := retryTokensUptoRow.holds Try.pinned (OpenSpec.upto retryTokensSpec)

/-- 'hostlerlaw21.ShakeMeets', WHERE WHAT IT READS IS OF BULK AT MOST 1048576: true; the input reads as it did. -/
def shakeMeetsUptoRow : OpenClaim := { program := "ytillnpllcfleeaa", sum := "edc57ea289fc50c0885b979689c765331a0b2637ab10959b1da68b54d398f97c", func := "hostler/hostlerlaw21.ShakeMeets", spec := "shakeMeets", inPlace := ["internal/bytealg.MakeNoZero"], unfollowed := true, recurses := true, apart := false, narrowed := true }
def ShakeMeetsUptoSaid : Prop := shakeMeetsUptoRow.holds Try.pinned (OpenSpec.upto shakeMeetsSpec)

/-- 'hostlerlaw33.RetryChecks', WHERE WHAT IT READS IS OF BULK AT MOST 1048576: true; the input reads as it did. -/
def retryChecksUptoRow : OpenClaim := { program := "ytillnpllcfleeaa", sum := "edc57ea289fc50c0885b979689c765331a0b2637ab10959b1da68b54d398f97c", func := "hostler/hostlerlaw33.RetryChecks", spec := "retryChecks", unfollowed := true, recurses := true, apart := false, narrowed := true }
def RetryChecksUptoSaid : Prop := retryChecksUptoRow.holds Try.pinned (OpenSpec.upto retryChecksSpec)

/-- 'hostlerlaw33.RetryKnown', WHERE WHAT IT READS IS OF BULK AT MOST 1048576: true; the input reads as it did. -/
def retryKnownUptoRow : OpenClaim := { program := "ytillnpllcfleeaa", sum := "edc57ea289fc50c0885b979689c765331a0b2637ab10959b1da68b54d398f97c", func := "hostler/hostlerlaw33.RetryKnown", spec := "retryKnown", unfollowed := true, recurses := true, apart := false, narrowed := true }
def RetryKnownUptoSaid : Prop := retryKnownUptoRow.holds Try.pinned (OpenSpec.upto retryKnownSpec)

/-- 'hostlerlaw33.RetryProves', WHERE WHAT IT READS IS OF BULK AT MOST 1048576: true; the input reads as it did. -/
def retryProvesUptoRow : OpenClaim := { program := "ytillnpllcfleeaa", sum := "edc57ea289fc50c0885b979689c765331a0b2637ab10959b1da68b54d398f97c", func := "hostler/hostlerlaw33.RetryProves", spec := "retryProves", unfollowed := true, recurses := true, apart := false, narrowed := true }
def RetryProvesUptoSaid : Prop := retryProvesUptoRow.holds Try.pinned (OpenSpec.upto retryProvesSpec)

end Rows
end Go.Proofs.Ytillnpllcfleeaa
