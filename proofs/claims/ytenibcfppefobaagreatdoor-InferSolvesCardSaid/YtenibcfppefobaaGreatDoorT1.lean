/- Contracts of the library at this program: part 1. No conditions beyond those of the row. -/
import Derived.Shelf.Strings.Builder1
import Derived.Shelf.Strings.Builder2
import Derived.Shelf.Small.Strs
import Derived.Shelf.Strconv.Atoi
import Derived.Shelf.Strconv.Itoa0
import Derived.Shelf.Strconv.Itoa1
import Derived.Shelf.LaysM
import Derived.Shelf.Strconv.Itoa2
import Derived.Shelf.Strconv.Itoa3
import Derived.Shelf.Strconv.AtoiErrFast
import Derived.Shelf.Strconv.ParseIntEmpty
import Derived.Shelf.Strconv.AtoiFail
import Derived.Shelf.Strconv.Clone
import Derived.Shelf.Strconv.SyntaxError
import Derived.Shelf.LaysC
import Derived.Shelf.Strconv.ToError
import Derived.Shelf.Strconv.Lower
import Derived.Shelf.Strconv.ParseUint10
import Derived.Shelf.Strconv.ParseUint10Empty
import Derived.Shelf.Strconv.ParseUint10Any
import Derived.Shelf.Strconv.ParseInt10
import Derived.Shelf.Strconv.AtoiLong
import Derived.Shelf.Strconv.AtoiInnerAll
import Derived.Shelf.Strconv.RangeError
import Derived.Shelf.Strconv.ToErrorRange
import Derived.Shelf.Strconv.AtoiAll
import Derived.Shelf.Strconv.ErrVarAll
import Derived.Shelf.Strings.Search1
import Derived.Shelf.Strings.Search2
import Derived.Shelf.Strings.Search3
import Derived.Shelf.Strings.Count
import Derived.Shelf.Strings.Shaped
import Derived.Shelf.Strings.Split
import Derived.Shelf.Strings.Replace
import Derived.Shelf.Unicode.DecodeSlow
import Derived.Test.YtenibcfppefobaaGreatDoorChecked
set_option linter.all false
noncomputable section
namespace Go.Proofs
open Go.Shelf Tryz
theorem ctZ9{α:Type}{x:Option α}{a b:α}(h:x=some a)(k:a=b):x=some b:=h.trans (congrArg some k)
def Tryz.lays137_ren:Go.Shelf.Ren:=⟨fun|137=>236|217=>263|266=>280|n=>n,fun|9=>9|5=>5|3=>3|n=>n,fun|n=>n⟩
set_option maxRecDepth 100000 in
theorem Tryz.lays137:Go.Proofs.Lays.n137 Tryz.prog lays137_ren:=⟨by kernel_rfl,ctZ9 func236 (by kernel_rfl),ctZ9 func263 (by kernel_rfl),ctZ9 func280 (by kernel_rfl),underlying3,isAgg3,sizeOf3,zeroValue3,underlying5,isAgg5,sizeOf5,zeroValue5,underlying9,isAgg9,sizeOf9,zeroValue9⟩
open Go.RowKit in
theorem Tryz.strings_IndexByte(s:ByteArray)(c:Int)(w:World) :
 Calls Tryz.prog 236 #[.string s,.int .u8 c] w fun e w'=>e=.returned (.int .i64 (Lib.indexByte s.data.toList c.toNat.toUInt8))/\w'=w:=Any.strings_IndexByte lays137 s c w
def Tryz.laysM171_ren:Go.Shelf.Ren:=⟨fun|171=>89|243=>135|246=>186|283=>237|284=>238|285=>239|286=>240|129=>260|317=>264|318=>265|319=>266|320=>267|337=>281|338=>282|n=>n,fun|3=>3|9=>9|2=>2|4=>4|171=>309|0=>0|53=>310|37=>313|5=>5|173=>314|212=>333|51=>330|20=>20|213=>334|46=>297|232=>357|233=>358|n=>n,fun|17=>0|18=>2|19=>3|n=>n⟩
set_option maxRecDepth 100000 in
theorem Tryz.laysM171:Go.Proofs.LaysM.n171 Tryz.prog laysM171_ren:=⟨⟨by kernel_rfl,ctZ9 func260 (by kernel_rfl),ctZ9 func89 (by kernel_rfl),ctZ9 func135 (by kernel_rfl),ctZ9 func186 (by kernel_rfl),ctZ9 func237 (by kernel_rfl),ctZ9 func238 (by kernel_rfl),ctZ9 func239 (by kernel_rfl),ctZ9 func240 (by kernel_rfl),ctZ9 func264 (by kernel_rfl),ctZ9 func265 (by kernel_rfl),ctZ9 func266 (by kernel_rfl),ctZ9 func267 (by kernel_rfl),ctZ9 func281 (by kernel_rfl),ctZ9 func282 (by kernel_rfl),underlying0,isAgg0,sizeOf0,zeroValue0,underlying2,isAgg2,sizeOf2,zeroValue2,underlying3,isAgg3,sizeOf3,zeroValue3,underlying4,isAgg4,sizeOf4,zeroValue4,underlying5,isAgg5,sizeOf5,zeroValue5,underlying9,isAgg9,sizeOf9,zeroValue9,underlying20,isAgg20,sizeOf20,zeroValue20,underlying313,isAgg313,sizeOf313,zeroValue313,underlying297,isAgg297,sizeOf297,zeroValue297,underlying330,isAgg330,sizeOf330,zeroValue330,underlying310,isAgg310,sizeOf310,zeroValue310,underlying309,isAgg309,sizeOf309,zeroValue309,underlying314,isAgg314,sizeOf314,zeroValue314,underlying333,isAgg333,sizeOf333,zeroValue333,underlying334,isAgg334,sizeOf334,underlying357,isAgg357,sizeOf357,zeroValue357,underlying358,isAgg358,sizeOf358,zeroValue358,by kernel_rfl,by kernel_rfl,by kernel_rfl⟩,by kernel_rfl,by kernel_rfl,by kernel_rfl,by kernel_rfl,by kernel_rfl,by kernel_rfl,by kernel_rfl,by kernel_rfl,by kernel_rfl,by kernel_rfl,by kernel_rfl,by kernel_rfl,by kernel_rfl,by kernel_rfl,by kernel_rfl,by kernel_rfl,by kernel_rfl,by kernel_rfl,by kernel_rfl⟩
open Go.RowKit Go.Sort Go.Lib in
theorem Tryz.strconv_Itoa(n:Int)(h0:-9223372036854775808<=n)(h1:n<=9223372036854775807)(w:World) (htab:Lib.TabIs Tryz.prog w "internal/strconv.uint64pow10" .u64 Lib.pow10Tab) :
 Calls Tryz.prog 89 #[.int .i64 n] w fun e w'=>e=.returned (.string ⟨(Lib.itoa n).toArray⟩)/\∃ k os,w'=grow (w.drewN k) os:=Any.strconv_Itoa laysM171 n h0 h1 w htab
def Tryz.laysC172_ren:Go.Shelf.Ren:=⟨fun|172=>277|244=>286|245=>287|247=>295|279=>296|280=>297|281=>298|282=>299|287=>306|316=>307|171=>89|205=>308|321=>314|322=>315|243=>135|246=>186|283=>237|284=>238|285=>239|286=>240|129=>260|317=>264|318=>265|319=>266|320=>267|337=>281|338=>282|n=>n,fun|9=>9|3=>3|75=>342|76=>343|4=>4|5=>5|167=>360|37=>313|0=>0|85=>361|2=>2|168=>363|53=>310|175=>367|46=>297|210=>371|127=>366|145=>383|143=>381|21=>21|171=>309|173=>314|212=>333|51=>330|20=>20|213=>334|232=>357|233=>358|80=>183|n=>n,fun|15=>4|16=>5|17=>0|18=>2|19=>3|n=>n⟩
set_option maxRecDepth 100000 in
theorem Tryz.laysC172:Go.Proofs.LaysC.n172 Tryz.prog laysC172_ren:=⟨⟨⟨by kernel_rfl,ctZ9 func260 (by kernel_rfl),ctZ9 func89 (by kernel_rfl),ctZ9 func277 (by kernel_rfl),ctZ9 func308 (by kernel_rfl),ctZ9 func135 (by kernel_rfl),ctZ9 func286 (by kernel_rfl),ctZ9 func287 (by kernel_rfl),ctZ9 func186 (by kernel_rfl),ctZ9 func295 (by kernel_rfl),ctZ9 func296 (by kernel_rfl),ctZ9 func297 (by kernel_rfl),ctZ9 func298 (by kernel_rfl),ctZ9 func299 (by kernel_rfl),ctZ9 func237 (by kernel_rfl),ctZ9 func238 (by kernel_rfl),ctZ9 func239 (by kernel_rfl),ctZ9 func240 (by kernel_rfl),ctZ9 func306 (by kernel_rfl),ctZ9 func307 (by kernel_rfl),ctZ9 func264 (by kernel_rfl),ctZ9 func265 (by kernel_rfl),ctZ9 func266 (by kernel_rfl),ctZ9 func267 (by kernel_rfl),ctZ9 func314 (by kernel_rfl),ctZ9 func315 (by kernel_rfl),ctZ9 func281 (by kernel_rfl),ctZ9 func282 (by kernel_rfl),underlying0,isAgg0,sizeOf0,zeroValue0,underlying2,isAgg2,sizeOf2,zeroValue2,underlying3,isAgg3,sizeOf3,zeroValue3,underlying4,isAgg4,sizeOf4,zeroValue4,underlying5,isAgg5,sizeOf5,zeroValue5,underlying9,isAgg9,sizeOf9,zeroValue9,underlying20,isAgg20,sizeOf20,zeroValue20,underlying21,isAgg21,sizeOf21,zeroValue21,underlying313,isAgg313,sizeOf313,zeroValue313,underlying297,isAgg297,sizeOf297,zeroValue297,underlying330,isAgg330,sizeOf330,zeroValue330,underlying310,isAgg310,sizeOf310,zeroValue310,underlying342,isAgg342,sizeOf342,zeroValue342,underlying343,isAgg343,sizeOf343,zeroValue343,underlying361,isAgg361,sizeOf361,zeroValue361,underlying366,isAgg366,sizeOf366,zeroValue366,underlying381,isAgg381,sizeOf381,zeroValue381,underlying383,isAgg383,sizeOf383,zeroValue383,underlying360,isAgg360,sizeOf360,zeroValue360,underlying363,isAgg363,sizeOf363,zeroValue363,underlying309,isAgg309,sizeOf309,zeroValue309,underlying314,isAgg314,sizeOf314,zeroValue314,underlying367,isAgg367,sizeOf367,zeroValue367,underlying371,isAgg371,sizeOf371,zeroValue371,underlying333,isAgg333,sizeOf333,zeroValue333,underlying334,isAgg334,sizeOf334,underlying357,isAgg357,sizeOf357,zeroValue357,underlying358,isAgg358,sizeOf358,zeroValue358,by kernel_rfl,by kernel_rfl,by kernel_rfl,by kernel_rfl,by kernel_rfl⟩,underlying183,isAgg183,sizeOf183,zeroValue183,by kernel_rfl,by kernel_rfl,by kernel_rfl,by kernel_rfl,by kernel_rfl,by kernel_rfl,by kernel_rfl,by kernel_rfl,by kernel_rfl,by kernel_rfl,by kernel_rfl,by kernel_rfl,by kernel_rfl,by kernel_rfl,by kernel_rfl,by kernel_rfl,by kernel_rfl,by kernel_rfl,by kernel_rfl,by kernel_rfl,by kernel_rfl,by kernel_rfl,by kernel_rfl,by kernel_rfl,by kernel_rfl,by kernel_rfl,by kernel_rfl,by kernel_rfl,by kernel_rfl,by kernel_rfl,by kernel_rfl,by kernel_rfl,by kernel_rfl⟩,by kernel_rfl,by kernel_rfl,by kernel_rfl,by kernel_rfl,by kernel_rfl,by kernel_rfl,by kernel_rfl,by kernel_rfl,by kernel_rfl,by kernel_rfl,by kernel_rfl,by kernel_rfl,by kernel_rfl,by kernel_rfl,by kernel_rfl,by kernel_rfl,by kernel_rfl,by kernel_rfl,by kernel_rfl,by kernel_rfl,by kernel_rfl,by kernel_rfl,by kernel_rfl,by kernel_rfl,by kernel_rfl,by kernel_rfl,by kernel_rfl,by kernel_rfl,by kernel_rfl⟩
open Go.RowKit in
theorem Tryz.strconv_Atoi_ok(s:ByteArray)(hmax:s.size<=9223372036854775806)(v:Int)(h:Lib.atoiAll s.data.toList=.ok v)(w:World) :
 Calls Tryz.prog 277 #[.string s] w fun e w'=>e=.returned (.tuple #[.int .i64 v,.nilIface])/\(w'=w\/∃ t,w'=Lib.bytesWorld w 5 t):=Any.strconv_Atoi_ok laysC172 s hmax v h w
open Go.RowKit in
theorem Tryz.strconv_Atoi_range(s:ByteArray)(hlim:s.size<=281474976710656)(h:Lib.atoiAll s.data.toList=.range)(ev:Value)(w:World)(hv:w.cell? ⟨5,0,none⟩=some ev)(hev:ev=.nilIface\/∃ te pe,ev=.iface te pe) :
 Calls Tryz.prog 277 #[.string s] w fun e w'=>∃ N,e=.returned (.tuple #[.int .i64 (Lib.atoiSat s.data.toList),.iface 363 (.pointer (some ⟨N,0,none⟩))])/\w.heap.size<=N/\w'.heap[N]? = some (.cells #[.string ⟨#[65,116,111,105]⟩,.string s,ev] 371 (0,0))/\Below w.heap.size w w':=Any.strconv_Atoi_range laysC172 s hlim h ev w hv hev
def Tryz.lays154_ren:Go.Shelf.Ren:=⟨fun|154=>278|138=>288|165=>289|143=>290|166=>291|197=>292|169=>293|195=>300|218=>301|240=>302|241=>303|219=>304|260=>305|276=>309|277=>310|217=>263|225=>311|224=>312|267=>313|266=>280|314=>316|n=>n,fun|9=>9|3=>3|4=>4|72=>353|0=>0|76=>343|105=>355|21=>21|5=>5|70=>351|20=>20|37=>313|75=>342|127=>366|164=>373|46=>297|119=>376|139=>379|138=>378|146=>384|51=>330|80=>183|n=>n,fun|1=>1|3=>6|4=>7|n=>n⟩
set_option maxRecDepth 100000 in
theorem Tryz.lays154:Go.Proofs.Lays.n154 Tryz.prog lays154_ren:=⟨by kernel_rfl,ctZ9 func288 (by kernel_rfl),ctZ9 func290 (by kernel_rfl),ctZ9 func278 (by kernel_rfl),ctZ9 func289 (by kernel_rfl),ctZ9 func291 (by kernel_rfl),ctZ9 func293 (by kernel_rfl),ctZ9 func300 (by kernel_rfl),ctZ9 func292 (by kernel_rfl),ctZ9 func263 (by kernel_rfl),ctZ9 func301 (by kernel_rfl),ctZ9 func304 (by kernel_rfl),ctZ9 func312 (by kernel_rfl),ctZ9 func311 (by kernel_rfl),ctZ9 func302 (by kernel_rfl),ctZ9 func303 (by kernel_rfl),ctZ9 func305 (by kernel_rfl),ctZ9 func280 (by kernel_rfl),ctZ9 func313 (by kernel_rfl),ctZ9 func309 (by kernel_rfl),ctZ9 func310 (by kernel_rfl),ctZ9 func316 (by kernel_rfl),underlying0,isAgg0,sizeOf0,zeroValue0,underlying3,isAgg3,sizeOf3,zeroValue3,underlying4,isAgg4,sizeOf4,zeroValue4,underlying5,isAgg5,sizeOf5,zeroValue5,underlying9,isAgg9,sizeOf9,zeroValue9,underlying20,isAgg20,sizeOf20,zeroValue20,underlying21,isAgg21,sizeOf21,zeroValue21,underlying313,isAgg313,sizeOf313,zeroValue313,underlying297,isAgg297,sizeOf297,zeroValue297,underlying330,isAgg330,sizeOf330,zeroValue330,underlying351,isAgg351,sizeOf351,zeroValue351,underlying353,isAgg353,sizeOf353,zeroValue353,underlying342,isAgg342,sizeOf342,zeroValue342,underlying343,isAgg343,sizeOf343,zeroValue343,underlying355,isAgg355,sizeOf355,zeroValue355,underlying376,isAgg376,sizeOf376,underlying366,isAgg366,sizeOf366,zeroValue366,underlying378,isAgg378,sizeOf378,zeroValue378,underlying379,isAgg379,sizeOf379,zeroValue379,underlying384,isAgg384,sizeOf384,zeroValue384,underlying373,isAgg373,sizeOf373,zeroValue373,by kernel_rfl,by kernel_rfl,by kernel_rfl⟩
theorem Tryz.Builder_Extra_154:Builder.Extra Tryz.prog lays154_ren:={
 sizeBuilder:=by kernel_rfl
 liesBuilder:=by kernel_rfl
 t5:=underlying5
 a5:=isAgg5
 z5:=sizeOf5
 v5:=zeroValue5
 infoByte:=by kernel_rfl
 cellsByte:=by kernel_rfl
 sizeByte:=by kernel_rfl
 neB5:=by decide }
open Go.RowKit Go.Lib in
theorem Tryz.strings_Replace(s old new:ByteArray)(n:Int)(m:Int)(w:World)(hs:s.size<4294967281)(hm:w.cell? ⟨1,0,none⟩=some (.int .i64 m))(h1:1<=old.size)(hlen:s.size+Lib.countB s old*new.size<=140737488355328) :
 Calls Tryz.prog 278 #[.string s,.string old,.string new,.int .i64 n] w fun e w' =>
  e=.returned (.string ⟨(Lib.replace s.data.toList old.data.toList new.data.toList n).toArray⟩)/\Below w.heap.size w w':=Any.strings_Replace lays154 Tryz.Builder_Extra_154 s old new n m w hs hm h1 hlen
end Go.Proofs
