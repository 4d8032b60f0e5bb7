/- Closed facts on the types and the functions of the program. -/
import Derived.Test.YtcmakpkdliiigaaFv
import Derived.Test.YtcmakpkdliiigaaProg
namespace Go.Proofs.Ytcmakpkdliiigaa
set_option maxHeartbeats 8000000
set_option linter.all false
open Go Go.Fw

@[go_sem] theorem cl0 : Try.prog.cellsOf 0 = 1 := by kernel_rfl
@[go_sem] theorem by0 : Try.prog.bytesOf 0 = 0 := by kernel_rfl
@[go_sem] theorem cl1 : Try.prog.cellsOf 1 = 1 := by kernel_rfl
@[go_sem] theorem by1 : Try.prog.bytesOf 1 = 8 := by kernel_rfl
@[go_sem] theorem ze1 : zeros Try.prog 1 = some [.v .nilFunc] := by kernel_rfl
@[go_sem] theorem cl2 : Try.prog.cellsOf 2 = 1 := by kernel_rfl
@[go_sem] theorem by2 : Try.prog.bytesOf 2 = 8 := by kernel_rfl
@[go_sem] theorem ze2 : zeros Try.prog 2 = some [.v (.int .i64 0)] := by kernel_rfl
@[go_sem] theorem cl3 : Try.prog.cellsOf 3 = 1 := by kernel_rfl
@[go_sem] theorem by3 : Try.prog.bytesOf 3 = 8 := by kernel_rfl
@[go_sem] theorem ze3 : zeros Try.prog 3 = some [.v (.int .i64 0)] := by kernel_rfl
@[go_sem] theorem cl4 : Try.prog.cellsOf 4 = 1 := by kernel_rfl
@[go_sem] theorem by4 : Try.prog.bytesOf 4 = 1 := by kernel_rfl
@[go_sem] theorem ze4 : zeros Try.prog 4 = some [.v (.bool false)] := by kernel_rfl
@[go_sem] theorem cl5 : Try.prog.cellsOf 5 = 1 := by kernel_rfl
@[go_sem] theorem by5 : Try.prog.bytesOf 5 = 1 := by kernel_rfl
@[go_sem] theorem ze5 : zeros Try.prog 5 = some [.v (.int .u8 0)] := by kernel_rfl
@[go_sem] theorem cl6 : Try.prog.cellsOf 6 = 1 := by kernel_rfl
@[go_sem] theorem by6 : Try.prog.bytesOf 6 = 1 := by kernel_rfl
@[go_sem] theorem ze6 : zeros Try.prog 6 = some [.v (.int .u8 0)] := by kernel_rfl
@[go_sem] theorem cl7 : Try.prog.cellsOf 7 = 4 := by kernel_rfl
@[go_sem] theorem by7 : Try.prog.bytesOf 7 = 24 := by kernel_rfl
@[go_sem] theorem ze7 : zeros Try.prog 7 = some [.v (.int .i64 0), .v (.int .i64 0), .v (.bool false), .v (.int .u8 0)] := by kernel_rfl
@[go_sem] theorem cl8 : Try.prog.cellsOf 8 = 4 := by kernel_rfl
@[go_sem] theorem by8 : Try.prog.bytesOf 8 = 24 := by kernel_rfl
@[go_sem] theorem ze8 : zeros Try.prog 8 = some [.v (.int .i64 0), .v (.int .i64 0), .v (.bool false), .v (.int .u8 0)] := by kernel_rfl
@[go_sem] theorem cl9 : Try.prog.cellsOf 9 = 1 := by kernel_rfl
@[go_sem] theorem by9 : Try.prog.bytesOf 9 = 16 := by kernel_rfl
@[go_sem] theorem ze9 : zeros Try.prog 9 = some [.v (.string ⟨#[]⟩)] := by kernel_rfl
@[go_sem] theorem cl10 : Try.prog.cellsOf 10 = 1 := by kernel_rfl
@[go_sem] theorem by10 : Try.prog.bytesOf 10 = 16 := by kernel_rfl
@[go_sem] theorem ze10 : zeros Try.prog 10 = some [.v (.string ⟨#[]⟩)] := by kernel_rfl
@[go_sem] theorem cl11 : Try.prog.cellsOf 11 = 1 := by kernel_rfl
@[go_sem] theorem by11 : Try.prog.bytesOf 11 = 16 := by kernel_rfl
@[go_sem] theorem ze11 : zeros Try.prog 11 = some [.v (.string ⟨#[]⟩)] := by kernel_rfl
@[go_sem] theorem cl12 : Try.prog.cellsOf 12 = 1 := by kernel_rfl
@[go_sem] theorem by12 : Try.prog.bytesOf 12 = 8 := by kernel_rfl
@[go_sem] theorem ze12 : zeros Try.prog 12 = some [.v (.int .u64 0)] := by kernel_rfl
@[go_sem] theorem cl13 : Try.prog.cellsOf 13 = 2 := by kernel_rfl
@[go_sem] theorem by13 : Try.prog.bytesOf 13 = 24 := by kernel_rfl
@[go_sem] theorem ze13 : zeros Try.prog 13 = some [.v (.string ⟨#[]⟩), .v (.int .u64 0)] := by kernel_rfl
@[go_sem] theorem cl14 : Try.prog.cellsOf 14 = 2 := by kernel_rfl
@[go_sem] theorem by14 : Try.prog.bytesOf 14 = 24 := by kernel_rfl
@[go_sem] theorem ze14 : zeros Try.prog 14 = some [.v (.string ⟨#[]⟩), .v (.int .u64 0)] := by kernel_rfl
@[go_sem] theorem cl15 : Try.prog.cellsOf 15 = 1 := by kernel_rfl
@[go_sem] theorem by15 : Try.prog.bytesOf 15 = 8 := by kernel_rfl
@[go_sem] theorem ze15 : zeros Try.prog 15 = some [.v (.pointer none)] := by kernel_rfl
@[go_sem] theorem cl16 : Try.prog.cellsOf 16 = 1 := by kernel_rfl
@[go_sem] theorem by16 : Try.prog.bytesOf 16 = 8 := by kernel_rfl
@[go_sem] theorem ze16 : zeros Try.prog 16 = some [.v (.pointer none)] := by kernel_rfl
@[go_sem] theorem cl17 : Try.prog.cellsOf 17 = 1 := by kernel_rfl
@[go_sem] theorem by17 : Try.prog.bytesOf 17 = 8 := by kernel_rfl
@[go_sem] theorem ze17 : zeros Try.prog 17 = some [.v (.pointer none)] := by kernel_rfl
@[go_sem] theorem cl18 : Try.prog.cellsOf 18 = 1 := by kernel_rfl
@[go_sem] theorem by18 : Try.prog.bytesOf 18 = 8 := by kernel_rfl
@[go_sem] theorem ze18 : zeros Try.prog 18 = some [.v (.pointer none)] := by kernel_rfl
@[go_sem] theorem cl19 : Try.prog.cellsOf 19 = 1 := by kernel_rfl
@[go_sem] theorem by19 : Try.prog.bytesOf 19 = 8 := by kernel_rfl
@[go_sem] theorem ze19 : zeros Try.prog 19 = some [.v (.pointer none)] := by kernel_rfl
@[go_sem] theorem cl20 : Try.prog.cellsOf 20 = 1 := by kernel_rfl
@[go_sem] theorem by20 : Try.prog.bytesOf 20 = 16 := by kernel_rfl
@[go_sem] theorem ze20 : zeros Try.prog 20 = some [.v .nilIface] := by kernel_rfl
@[go_sem] theorem cl21 : Try.prog.cellsOf 21 = 1 := by kernel_rfl
@[go_sem] theorem by21 : Try.prog.bytesOf 21 = 4 := by kernel_rfl
@[go_sem] theorem ze21 : zeros Try.prog 21 = some [.v (.int .i32 0)] := by kernel_rfl
@[go_sem] theorem cl22 : Try.prog.cellsOf 22 = 1 := by kernel_rfl
@[go_sem] theorem by22 : Try.prog.bytesOf 22 = 24 := by kernel_rfl
@[go_sem] theorem ze22 : zeros Try.prog 22 = some [.v (.slice none 0 0)] := by kernel_rfl
@[go_sem] theorem cl23 : Try.prog.cellsOf 23 = 1 := by kernel_rfl
@[go_sem] theorem by23 : Try.prog.bytesOf 23 = 8 := by kernel_rfl
@[go_sem] theorem ze23 : zeros Try.prog 23 = some [.v .nilFunc] := by kernel_rfl
@[go_sem] theorem cl24 : Try.prog.cellsOf 24 = 1 := by kernel_rfl
@[go_sem] theorem by24 : Try.prog.bytesOf 24 = 8 := by kernel_rfl
@[go_sem] theorem ze24 : zeros Try.prog 24 = some [.v (.pointer none)] := by kernel_rfl
@[go_sem] theorem cl25 : Try.prog.cellsOf 25 = 1 := by kernel_rfl
@[go_sem] theorem by25 : Try.prog.bytesOf 25 = 8 := by kernel_rfl
@[go_sem] theorem ze25 : zeros Try.prog 25 = some [.v (.int .i64 0)] := by kernel_rfl
@[go_sem] theorem cl26 : Try.prog.cellsOf 26 = 1 := by kernel_rfl
@[go_sem] theorem by26 : Try.prog.bytesOf 26 = 0 := by kernel_rfl
@[go_sem] theorem cl27 : Try.prog.cellsOf 27 = 1 := by kernel_rfl
@[go_sem] theorem by27 : Try.prog.bytesOf 27 = 8 := by kernel_rfl
@[go_sem] theorem ze27 : zeros Try.prog 27 = some [.v .nilFunc] := by kernel_rfl
@[go_sem] theorem cl28 : Try.prog.cellsOf 28 = 1 := by kernel_rfl
@[go_sem] theorem by28 : Try.prog.bytesOf 28 = 8 := by kernel_rfl
@[go_sem] theorem ze28 : zeros Try.prog 28 = some [.v .nilFunc] := by kernel_rfl
@[go_sem] theorem cl29 : Try.prog.cellsOf 29 = 1 := by kernel_rfl
@[go_sem] theorem by29 : Try.prog.bytesOf 29 = 0 := by kernel_rfl
@[go_sem] theorem cl30 : Try.prog.cellsOf 30 = 1 := by kernel_rfl
@[go_sem] theorem by30 : Try.prog.bytesOf 30 = 8 := by kernel_rfl
@[go_sem] theorem ze30 : zeros Try.prog 30 = some [.v .nilFunc] := by kernel_rfl
@[go_sem] theorem cl31 : Try.prog.cellsOf 31 = 1 := by kernel_rfl
@[go_sem] theorem by31 : Try.prog.bytesOf 31 = 8 := by kernel_rfl
@[go_sem] theorem ze31 : zeros Try.prog 31 = some [.v .nilFunc] := by kernel_rfl
@[go_sem] theorem cl32 : Try.prog.cellsOf 32 = 1 := by kernel_rfl
@[go_sem] theorem by32 : Try.prog.bytesOf 32 = 24 := by kernel_rfl
@[go_sem] theorem ze32 : zeros Try.prog 32 = some [.v (.slice none 0 0)] := by kernel_rfl
@[go_sem] theorem cl33 : Try.prog.cellsOf 33 = 1 := by kernel_rfl
@[go_sem] theorem by33 : Try.prog.bytesOf 33 = 0 := by kernel_rfl
@[go_sem] theorem cl34 : Try.prog.cellsOf 34 = 1 := by kernel_rfl
@[go_sem] theorem by34 : Try.prog.bytesOf 34 = 8 := by kernel_rfl
@[go_sem] theorem ze34 : zeros Try.prog 34 = some [.v .nilFunc] := by kernel_rfl
@[go_sem] theorem cl35 : Try.prog.cellsOf 35 = 3 := by kernel_rfl
@[go_sem] theorem by35 : Try.prog.bytesOf 35 = 24 := by kernel_rfl
@[go_sem] theorem ze35 : zeros Try.prog 35 = some [.v (.int .i64 0), .v (.int .i64 0), .v (.int .i64 0)] := by kernel_rfl
@[go_sem] theorem cl36 : Try.prog.cellsOf 36 = 3 := by kernel_rfl
@[go_sem] theorem by36 : Try.prog.bytesOf 36 = 24 := by kernel_rfl
@[go_sem] theorem ze36 : zeros Try.prog 36 = some [.v (.int .i64 0), .v (.int .i64 0), .v (.int .i64 0)] := by kernel_rfl
@[go_sem] theorem cl37 : Try.prog.cellsOf 37 = 1 := by kernel_rfl
@[go_sem] theorem by37 : Try.prog.bytesOf 37 = 8 := by kernel_rfl
@[go_sem] theorem ze37 : zeros Try.prog 37 = some [.v .nilFunc] := by kernel_rfl
@[go_sem] theorem cl38 : Try.prog.cellsOf 38 = 1 := by kernel_rfl
@[go_sem] theorem by38 : Try.prog.bytesOf 38 = 8 := by kernel_rfl
@[go_sem] theorem ze38 : zeros Try.prog 38 = some [.v .nilFunc] := by kernel_rfl
@[go_sem] theorem cl39 : Try.prog.cellsOf 39 = 1 := by kernel_rfl
@[go_sem] theorem by39 : Try.prog.bytesOf 39 = 8 := by kernel_rfl
@[go_sem] theorem ze39 : zeros Try.prog 39 = some [.v .nilFunc] := by kernel_rfl
@[go_sem] theorem cl40 : Try.prog.cellsOf 40 = 1 := by kernel_rfl
@[go_sem] theorem by40 : Try.prog.bytesOf 40 = 8 := by kernel_rfl
@[go_sem] theorem ze40 : zeros Try.prog 40 = some [.v .nilFunc] := by kernel_rfl
@[go_sem] theorem cl41 : Try.prog.cellsOf 41 = 1 := by kernel_rfl
@[go_sem] theorem by41 : Try.prog.bytesOf 41 = 8 := by kernel_rfl
@[go_sem] theorem ze41 : zeros Try.prog 41 = some [.v (.pointer none)] := by kernel_rfl
@[go_sem] theorem cl42 : Try.prog.cellsOf 42 = 1 := by kernel_rfl
@[go_sem] theorem by42 : Try.prog.bytesOf 42 = 0 := by kernel_rfl
@[go_sem] theorem cl43 : Try.prog.cellsOf 43 = 1 := by kernel_rfl
@[go_sem] theorem by43 : Try.prog.bytesOf 43 = 8 := by kernel_rfl
@[go_sem] theorem ze43 : zeros Try.prog 43 = some [.v .nilFunc] := by kernel_rfl
@[go_sem] theorem cl44 : Try.prog.cellsOf 44 = 1 := by kernel_rfl
@[go_sem] theorem by44 : Try.prog.bytesOf 44 = 8 := by kernel_rfl
@[go_sem] theorem ze44 : zeros Try.prog 44 = some [.v (.pointer none)] := by kernel_rfl
@[go_sem] theorem cl45 : Try.prog.cellsOf 45 = 1 := by kernel_rfl
@[go_sem] theorem by45 : Try.prog.bytesOf 45 = 8 := by kernel_rfl
@[go_sem] theorem ze45 : zeros Try.prog 45 = some [.v .nilFunc] := by kernel_rfl
@[go_sem] theorem cl46 : Try.prog.cellsOf 46 = 2 := by kernel_rfl
@[go_sem] theorem by46 : Try.prog.bytesOf 46 = 16 := by kernel_rfl
@[go_sem] theorem ze46 : zeros Try.prog 46 = some [.v (.pointer none), .v (.pointer none)] := by kernel_rfl
@[go_sem] theorem cl47 : Try.prog.cellsOf 47 = 1 := by kernel_rfl
@[go_sem] theorem by47 : Try.prog.bytesOf 47 = 8 := by kernel_rfl
@[go_sem] theorem ze47 : zeros Try.prog 47 = some [.v .nilFunc] := by kernel_rfl
@[go_sem] theorem cl48 : Try.prog.cellsOf 48 = 2 := by kernel_rfl
@[go_sem] theorem by48 : Try.prog.bytesOf 48 = 16 := by kernel_rfl
@[go_sem] theorem ze48 : zeros Try.prog 48 = some [.v (.pointer none), .v (.pointer none)] := by kernel_rfl
@[go_sem] theorem cl49 : Try.prog.cellsOf 49 = 4 := by kernel_rfl
@[go_sem] theorem by49 : Try.prog.bytesOf 49 = 32 := by kernel_rfl
@[go_sem] theorem ze49 : zeros Try.prog 49 = some [.v (.pointer none), .v (.pointer none), .v (.pointer none), .v (.pointer none)] := by kernel_rfl
@[go_sem] theorem cl50 : Try.prog.cellsOf 50 = 4 := by kernel_rfl
@[go_sem] theorem by50 : Try.prog.bytesOf 50 = 32 := by kernel_rfl
@[go_sem] theorem ze50 : zeros Try.prog 50 = some [.v (.pointer none), .v (.pointer none), .v (.pointer none), .v (.pointer none)] := by kernel_rfl
@[go_sem] theorem cl51 : Try.prog.cellsOf 51 = 1 := by kernel_rfl
@[go_sem] theorem by51 : Try.prog.bytesOf 51 = 8 := by kernel_rfl
@[go_sem] theorem ze51 : zeros Try.prog 51 = some [.v .nilFunc] := by kernel_rfl
@[go_sem] theorem cl52 : Try.prog.cellsOf 52 = 1 := by kernel_rfl
@[go_sem] theorem by52 : Try.prog.bytesOf 52 = 8 := by kernel_rfl
@[go_sem] theorem ze52 : zeros Try.prog 52 = some [.v .nilFunc] := by kernel_rfl
@[go_sem] theorem cl53 : Try.prog.cellsOf 53 = 1 := by kernel_rfl
@[go_sem] theorem by53 : Try.prog.bytesOf 53 = 8 := by kernel_rfl
@[go_sem] theorem ze53 : zeros Try.prog 53 = some [.v .nilFunc] := by kernel_rfl
@[go_sem] theorem cl54 : Try.prog.cellsOf 54 = 1 := by kernel_rfl
@[go_sem] theorem by54 : Try.prog.bytesOf 54 = 24 := by kernel_rfl
@[go_sem] theorem ze54 : zeros Try.prog 54 = some [.v (.slice none 0 0)] := by kernel_rfl
@[go_sem] theorem cl55 : Try.prog.cellsOf 55 = 1 := by kernel_rfl
@[go_sem] theorem by55 : Try.prog.bytesOf 55 = 24 := by kernel_rfl
@[go_sem] theorem ze55 : zeros Try.prog 55 = some [.v (.slice none 0 0)] := by kernel_rfl
@[go_sem] theorem cl56 : Try.prog.cellsOf 56 = 2 := by kernel_rfl
@[go_sem] theorem by56 : Try.prog.bytesOf 56 = 48 := by kernel_rfl
@[go_sem] theorem ze56 : zeros Try.prog 56 = some [.v (.slice none 0 0), .v (.slice none 0 0)] := by kernel_rfl
@[go_sem] theorem cl57 : Try.prog.cellsOf 57 = 2 := by kernel_rfl
@[go_sem] theorem by57 : Try.prog.bytesOf 57 = 48 := by kernel_rfl
@[go_sem] theorem ze57 : zeros Try.prog 57 = some [.v (.slice none 0 0), .v (.slice none 0 0)] := by kernel_rfl
@[go_sem] theorem cl58 : Try.prog.cellsOf 58 = 1 := by kernel_rfl
@[go_sem] theorem by58 : Try.prog.bytesOf 58 = 8 := by kernel_rfl
@[go_sem] theorem ze58 : zeros Try.prog 58 = some [.v .nilFunc] := by kernel_rfl
@[go_sem] theorem cl59 : Try.prog.cellsOf 59 = 1 := by kernel_rfl
@[go_sem] theorem by59 : Try.prog.bytesOf 59 = 8 := by kernel_rfl
@[go_sem] theorem ze59 : zeros Try.prog 59 = some [.v .nilFunc] := by kernel_rfl
@[go_sem] theorem cl60 : Try.prog.cellsOf 60 = 1 := by kernel_rfl
@[go_sem] theorem by60 : Try.prog.bytesOf 60 = 24 := by kernel_rfl
@[go_sem] theorem ze60 : zeros Try.prog 60 = some [.v (.slice none 0 0)] := by kernel_rfl
@[go_sem] theorem cl61 : Try.prog.cellsOf 61 = 1 := by kernel_rfl
@[go_sem] theorem by61 : Try.prog.bytesOf 61 = 24 := by kernel_rfl
@[go_sem] theorem ze61 : zeros Try.prog 61 = some [.v (.slice none 0 0)] := by kernel_rfl
@[go_sem] theorem cl62 : Try.prog.cellsOf 62 = 1 := by kernel_rfl
@[go_sem] theorem by62 : Try.prog.bytesOf 62 = 8 := by kernel_rfl
@[go_sem] theorem ze62 : zeros Try.prog 62 = some [.v .nilFunc] := by kernel_rfl
@[go_sem] theorem cl63 : Try.prog.cellsOf 63 = 1 := by kernel_rfl
@[go_sem] theorem by63 : Try.prog.bytesOf 63 = 8 := by kernel_rfl
@[go_sem] theorem ze63 : zeros Try.prog 63 = some [.v .nilFunc] := by kernel_rfl
@[go_sem] theorem cl64 : Try.prog.cellsOf 64 = 1 := by kernel_rfl
@[go_sem] theorem by64 : Try.prog.bytesOf 64 = 8 := by kernel_rfl
@[go_sem] theorem ze64 : zeros Try.prog 64 = some [.v .nilFunc] := by kernel_rfl
@[go_sem] theorem cl65 : Try.prog.cellsOf 65 = 1 := by kernel_rfl
@[go_sem] theorem by65 : Try.prog.bytesOf 65 = 8 := by kernel_rfl
@[go_sem] theorem ze65 : zeros Try.prog 65 = some [.v (.pointer none)] := by kernel_rfl
@[go_sem] theorem cl66 : Try.prog.cellsOf 66 = 1 := by kernel_rfl
@[go_sem] theorem by66 : Try.prog.bytesOf 66 = 8 := by kernel_rfl
@[go_sem] theorem ze66 : zeros Try.prog 66 = some [.v .nilFunc] := by kernel_rfl
@[go_sem] theorem cl67 : Try.prog.cellsOf 67 = 1 := by kernel_rfl
@[go_sem] theorem by67 : Try.prog.bytesOf 67 = 8 := by kernel_rfl
@[go_sem] theorem ze67 : zeros Try.prog 67 = some [.v .nilFunc] := by kernel_rfl
@[go_sem] theorem cl68 : Try.prog.cellsOf 68 = 4 := by kernel_rfl
@[go_sem] theorem by68 : Try.prog.bytesOf 68 = 40 := by kernel_rfl
@[go_sem] theorem ze68 : zeros Try.prog 68 = some [.v (.pointer none), .v (.pointer none), .v (.pointer none), .v (.string ⟨#[]⟩)] := by kernel_rfl
@[go_sem] theorem cl69 : Try.prog.cellsOf 69 = 4 := by kernel_rfl
@[go_sem] theorem by69 : Try.prog.bytesOf 69 = 40 := by kernel_rfl
@[go_sem] theorem ze69 : zeros Try.prog 69 = some [.v (.pointer none), .v (.pointer none), .v (.pointer none), .v (.string ⟨#[]⟩)] := by kernel_rfl
@[go_sem] theorem cl70 : Try.prog.cellsOf 70 = 0 := by kernel_rfl
@[go_sem] theorem by70 : Try.prog.bytesOf 70 = 0 := by kernel_rfl
@[go_sem] theorem ze70 : zeros Try.prog 70 = some [] := by kernel_rfl
@[go_sem] theorem cl71 : Try.prog.cellsOf 71 = 0 := by kernel_rfl
@[go_sem] theorem by71 : Try.prog.bytesOf 71 = 0 := by kernel_rfl
@[go_sem] theorem ze71 : zeros Try.prog 71 = some [] := by kernel_rfl
@[go_sem] theorem cl72 : Try.prog.cellsOf 72 = 0 := by kernel_rfl
@[go_sem] theorem by72 : Try.prog.bytesOf 72 = 0 := by kernel_rfl
@[go_sem] theorem ze72 : zeros Try.prog 72 = some [] := by kernel_rfl
@[go_sem] theorem cl73 : Try.prog.cellsOf 73 = 1 := by kernel_rfl
@[go_sem] theorem by73 : Try.prog.bytesOf 73 = 4 := by kernel_rfl
@[go_sem] theorem ze73 : zeros Try.prog 73 = some [.v (.int .u32 0)] := by kernel_rfl
@[go_sem] theorem cl74 : Try.prog.cellsOf 74 = 1 := by kernel_rfl
@[go_sem] theorem by74 : Try.prog.bytesOf 74 = 1 := by kernel_rfl
@[go_sem] theorem ze74 : zeros Try.prog 74 = some [.v (.int .u8 0)] := by kernel_rfl
@[go_sem] theorem cl75 : Try.prog.cellsOf 75 = 1 := by kernel_rfl
@[go_sem] theorem by75 : Try.prog.bytesOf 75 = 1 := by kernel_rfl
@[go_sem] theorem ze75 : zeros Try.prog 75 = some [.v (.int .u8 0)] := by kernel_rfl
@[go_sem] theorem cl76 : Try.prog.cellsOf 76 = 1 := by kernel_rfl
@[go_sem] theorem by76 : Try.prog.bytesOf 76 = 8 := by kernel_rfl
@[go_sem] theorem ze76 : zeros Try.prog 76 = some [.v .nilFunc] := by kernel_rfl
@[go_sem] theorem cl77 : Try.prog.cellsOf 77 = 1 := by kernel_rfl
@[go_sem] theorem by77 : Try.prog.bytesOf 77 = 8 := by kernel_rfl
@[go_sem] theorem ze77 : zeros Try.prog 77 = some [.v (.pointer none)] := by kernel_rfl
@[go_sem] theorem cl78 : Try.prog.cellsOf 78 = 1 := by kernel_rfl
@[go_sem] theorem by78 : Try.prog.bytesOf 78 = 4 := by kernel_rfl
@[go_sem] theorem ze78 : zeros Try.prog 78 = some [.v (.int .i32 0)] := by kernel_rfl
@[go_sem] theorem cl79 : Try.prog.cellsOf 79 = 1 := by kernel_rfl
@[go_sem] theorem by79 : Try.prog.bytesOf 79 = 4 := by kernel_rfl
@[go_sem] theorem ze79 : zeros Try.prog 79 = some [.v (.int .i32 0)] := by kernel_rfl
@[go_sem] theorem cl80 : Try.prog.cellsOf 80 = 11 := by kernel_rfl
@[go_sem] theorem by80 : Try.prog.bytesOf 80 = 48 := by kernel_rfl
@[go_sem] theorem ze80 : zeros Try.prog 80 = some [.v (.int .u64 0), .v (.int .u64 0), .v (.int .u32 0), .v (.int .u8 0), .v (.int .u8 0), .v (.int .u8 0), .v (.int .u8 0), .v .nilFunc, .v (.pointer none), .v (.int .i32 0), .v (.int .i32 0)] := by kernel_rfl
@[go_sem] theorem cl81 : Try.prog.cellsOf 81 = 11 := by kernel_rfl
@[go_sem] theorem by81 : Try.prog.bytesOf 81 = 48 := by kernel_rfl
@[go_sem] theorem ze81 : zeros Try.prog 81 = some [.v (.int .u64 0), .v (.int .u64 0), .v (.int .u32 0), .v (.int .u8 0), .v (.int .u8 0), .v (.int .u8 0), .v (.int .u8 0), .v .nilFunc, .v (.pointer none), .v (.int .i32 0), .v (.int .i32 0)] := by kernel_rfl
@[go_sem] theorem cl82 : Try.prog.cellsOf 82 = 1 := by kernel_rfl
@[go_sem] theorem by82 : Try.prog.bytesOf 82 = 8 := by kernel_rfl
@[go_sem] theorem ze82 : zeros Try.prog 82 = some [.v (.pointer none)] := by kernel_rfl
theorem nm3 : (Try.f3.name == "runtime.NumGoroutine") = false := by kernel_rfl
theorem nm4 : (Try.f4.name == "runtime.NumGoroutine") = false := by kernel_rfl
theorem nm5 : (Try.f5.name == "runtime.NumGoroutine") = false := by kernel_rfl
theorem nm6 : (Try.f6.name == "runtime.NumGoroutine") = false := by kernel_rfl
theorem nm7 : (Try.f7.name == "runtime.NumGoroutine") = false := by kernel_rfl
theorem nm8 : (Try.f8.name == "runtime.NumGoroutine") = false := by kernel_rfl
theorem nm9 : (Try.f9.name == "runtime.NumGoroutine") = false := by kernel_rfl
theorem nm10 : (Try.f10.name == "runtime.NumGoroutine") = false := by kernel_rfl
theorem nm11 : (Try.f11.name == "runtime.NumGoroutine") = false := by kernel_rfl
theorem nm12 : (Try.f12.name == "runtime.NumGoroutine") = false := by kernel_rfl
theorem nm13 : (Try.f13.name == "runtime.NumGoroutine") = false := by kernel_rfl
theorem nm14 : (Try.f14.name == "runtime.NumGoroutine") = false := by kernel_rfl
theorem nm15 : (Try.f15.name == "runtime.NumGoroutine") = false := by kernel_rfl
theorem nm16 : (Try.f16.name == "runtime.NumGoroutine") = false := by kernel_rfl
theorem nm17 : (Try.f17.name == "runtime.NumGoroutine") = false := by kernel_rfl
theorem nm18 : (Try.f18.name == "runtime.NumGoroutine") = false := by kernel_rfl
theorem nm19 : (Try.f19.name == "runtime.NumGoroutine") = false := by kernel_rfl
theorem nm20 : (Try.f20.name == "runtime.NumGoroutine") = false := by kernel_rfl
theorem nm21 : (Try.f21.name == "runtime.NumGoroutine") = false := by kernel_rfl
theorem nm22 : (Try.f22.name == "runtime.NumGoroutine") = false := by kernel_rfl
theorem nm23 : (Try.f23.name == "runtime.NumGoroutine") = false := by kernel_rfl
theorem nm24 : (Try.f24.name == "runtime.NumGoroutine") = false := by kernel_rfl
theorem nm25 : (Try.f25.name == "runtime.NumGoroutine") = false := by kernel_rfl
theorem nm26 : (Try.f26.name == "runtime.NumGoroutine") = false := by kernel_rfl
theorem nm27 : (Try.f27.name == "runtime.NumGoroutine") = false := by kernel_rfl
theorem nm28 : (Try.f28.name == "runtime.NumGoroutine") = false := by kernel_rfl
theorem nm29 : (Try.f29.name == "runtime.NumGoroutine") = false := by kernel_rfl
theorem nm30 : (Try.f30.name == "runtime.NumGoroutine") = false := by kernel_rfl
theorem nm31 : (Try.f31.name == "runtime.NumGoroutine") = false := by kernel_rfl
theorem nm32 : (Try.f32.name == "runtime.NumGoroutine") = false := by kernel_rfl
theorem mixed : Try.prog.follows .mixedOrders = true := by kernel_rfl
attribute [go_sem] Try.underlying0 Try.underlying1 Try.underlying2 Try.underlying3 Try.underlying4 Try.underlying5 Try.underlying6 Try.underlying7 Try.underlying8 Try.underlying9 Try.underlying10 Try.underlying11 Try.underlying12 Try.underlying13 Try.underlying14 Try.underlying15 Try.underlying16 Try.underlying17 Try.underlying18 Try.underlying19 Try.underlying20 Try.underlying21 Try.underlying22 Try.underlying23 Try.underlying24 Try.underlying25 Try.underlying26 Try.underlying27 Try.underlying28 Try.underlying29 Try.underlying30 Try.underlying31 Try.underlying32 Try.underlying33 Try.underlying34 Try.underlying35 Try.underlying36 Try.underlying37 Try.underlying38 Try.underlying39 Try.underlying40 Try.underlying41 Try.underlying42 Try.underlying43 Try.underlying44 Try.underlying45 Try.underlying46 Try.underlying47 Try.underlying48 Try.underlying49 Try.underlying50 Try.underlying51 Try.underlying52 Try.underlying53 Try.underlying54 Try.underlying55 Try.underlying56 Try.underlying57 Try.underlying58 Try.underlying59 Try.underlying60 Try.underlying61 Try.underlying62 Try.underlying63 Try.underlying64 Try.underlying65 Try.underlying66 Try.underlying67 Try.underlying68 Try.underlying69 Try.underlying70 Try.underlying71 Try.underlying72 Try.underlying73 Try.underlying74 Try.underlying75 Try.underlying76 Try.underlying77 Try.underlying78 Try.underlying79 Try.underlying80 Try.underlying81 Try.underlying82

end Go.Proofs.Ytcmakpkdliiigaa
