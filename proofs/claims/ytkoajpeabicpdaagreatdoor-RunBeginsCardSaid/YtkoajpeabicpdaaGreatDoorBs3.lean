/-
Contracts of the library at this program, by the library's theorems. No conditions.
-/
import Derived.Shelf.Small.Strs
import Derived.Shelf.Small.Wraps
import Derived.Shelf.Strconv.AtoiAll
import Derived.Shelf.Strconv.ErrVarAll
import Derived.Shelf.Strings.Search1
import Derived.Shelf.LaysM
import Derived.Shelf.Strconv.Itoa3
import Derived.Test.YtkoajpeabicpdaaGreatDoorBs2
import Derived.Lib.AtoiErrMem
import Derived.Shelf.Strings.Search2
import Derived.Test.YtkoajpeabicpdaaGreatDoorProg
import Derived.Test.YtkoajpeabicpdaaGreatDoorBs1
import Derived.WalkKit
import Derived.ProofKit
import Derived.WalkSpells
import Derived.Lib.Hide
import Derived.Outline
import Derived.BigQuiet
import Derived.Deep.QuietTactic
import Derived.Deep.Slices
import Derived.Shelf.Strings.Split
import Derived.Shelf.Strings.OnBuilder
import Derived.Lib.AppendIntMem
import Derived.WalkLawsBesides
set_option linter.unusedVariables false
set_option maxHeartbeats 8000000
namespace Go.Proofs.YtkoajpeabicpdaaGreatDoor
open Go Go.Proofs Go.Shelf Go.RowKit
def laysC172_ren:Go.Shelf.Ren:=⟨fun | 172=>77 | 244=>119 | 245=>120 | 247=>156 | 279=>157 | 280=>158 | 281=>159 | 282=>160 | 287=>198 | 316=>199 | 171=>31 | 205=>200 | 321=>225 | 322=>226 | 243=>78 | 246=>121 | 283=>161 | 284=>162 | 285=>163 | 286=>164 | 129=>180 | 317=>201 | 318=>202 | 319=>203 | 320=>204 | 337=>227 | 338=>228 | n=>n,fun | 9=>9 | 3=>3 | 75=>27 | 76=>43 | 4=>4 | 5=>5 | 167=>229 | 37=>38 | 0=>0 | 85=>230 | 2=>2 | 168=>232 | 53=>236 | 175=>276 | 46=>172 | 210=>279 | 127=>99 | 145=>308 | 143=>306 | 21=>21 | 171=>235 | 173=>239 | 212=>282 | 51=>224 | 20=>20 | 213=>283 | 232=>159 | 233=>316 | 80=>45 | n=>n,fun | 15=>2 | 16=>3 | 17=>4 | 18=>7 | 19=>8 | n=>n⟩
theorem laysC172:Go.Proofs.LaysC.n172 Tryz.prog laysC172_ren:={
 mixed:=by kernel_rfl
 f129:=Tryz.func180.trans (congrArg some (by kernel_rfl))
 f171:=Tryz.func31.trans (congrArg some (by kernel_rfl))
 f172:=Tryz.func77.trans (congrArg some (by kernel_rfl))
 f205:=Tryz.func200.trans (congrArg some (by kernel_rfl))
 f243:=Tryz.func78.trans (congrArg some (by kernel_rfl))
 f244:=Tryz.func119.trans (congrArg some (by kernel_rfl))
 f245:=Tryz.func120.trans (congrArg some (by kernel_rfl))
 f246:=Tryz.func121.trans (congrArg some (by kernel_rfl))
 f247:=Tryz.func156.trans (congrArg some (by kernel_rfl))
 f279:=Tryz.func157.trans (congrArg some (by kernel_rfl))
 f280:=Tryz.func158.trans (congrArg some (by kernel_rfl))
 f281:=Tryz.func159.trans (congrArg some (by kernel_rfl))
 f282:=Tryz.func160.trans (congrArg some (by kernel_rfl))
 f283:=Tryz.func161.trans (congrArg some (by kernel_rfl))
 f284:=Tryz.func162.trans (congrArg some (by kernel_rfl))
 f285:=Tryz.func163.trans (congrArg some (by kernel_rfl))
 f286:=Tryz.func164.trans (congrArg some (by kernel_rfl))
 f287:=Tryz.func198.trans (congrArg some (by kernel_rfl))
 f316:=Tryz.func199.trans (congrArg some (by kernel_rfl))
 f317:=Tryz.func201.trans (congrArg some (by kernel_rfl))
 f318:=Tryz.func202.trans (congrArg some (by kernel_rfl))
 f319:=Tryz.func203.trans (congrArg some (by kernel_rfl))
 f320:=Tryz.func204.trans (congrArg some (by kernel_rfl))
 f321:=Tryz.func225.trans (congrArg some (by kernel_rfl))
 f322:=Tryz.func226.trans (congrArg some (by kernel_rfl))
 f337:=Tryz.func227.trans (congrArg some (by kernel_rfl))
 f338:=Tryz.func228.trans (congrArg some (by kernel_rfl))
 t0:=Tryz.underlying0
 a0:=Tryz.isAgg0
 z0:=Tryz.sizeOf0
 v0:=Tryz.zeroValue0
 t2:=Tryz.underlying2
 a2:=Tryz.isAgg2
 z2:=Tryz.sizeOf2
 v2:=Tryz.zeroValue2
 t3:=Tryz.underlying3
 a3:=Tryz.isAgg3
 z3:=Tryz.sizeOf3
 v3:=Tryz.zeroValue3
 t4:=Tryz.underlying4
 a4:=Tryz.isAgg4
 z4:=Tryz.sizeOf4
 v4:=Tryz.zeroValue4
 t5:=Tryz.underlying5
 a5:=Tryz.isAgg5
 z5:=Tryz.sizeOf5
 v5:=Tryz.zeroValue5
 t9:=Tryz.underlying9
 a9:=Tryz.isAgg9
 z9:=Tryz.sizeOf9
 v9:=Tryz.zeroValue9
 t20:=Tryz.underlying20
 a20:=Tryz.isAgg20
 z20:=Tryz.sizeOf20
 v20:=Tryz.zeroValue20
 t21:=Tryz.underlying21
 a21:=Tryz.isAgg21
 z21:=Tryz.sizeOf21
 v21:=Tryz.zeroValue21
 t37:=Tryz.underlying38
 a37:=Tryz.isAgg38
 z37:=Tryz.sizeOf38
 v37:=Tryz.zeroValue38
 t46:=Tryz.underlying172
 a46:=Tryz.isAgg172
 z46:=Tryz.sizeOf172
 v46:=Tryz.zeroValue172
 t51:=Tryz.underlying224
 a51:=Tryz.isAgg224
 z51:=Tryz.sizeOf224
 v51:=Tryz.zeroValue224
 t53:=Tryz.underlying236
 a53:=Tryz.isAgg236
 z53:=Tryz.sizeOf236
 v53:=Tryz.zeroValue236
 t75:=Tryz.underlying27
 a75:=Tryz.isAgg27
 z75:=Tryz.sizeOf27
 v75:=Tryz.zeroValue27
 t76:=Tryz.underlying43
 a76:=Tryz.isAgg43
 z76:=Tryz.sizeOf43
 v76:=Tryz.zeroValue43
 t85:=Tryz.underlying230
 a85:=Tryz.isAgg230
 z85:=Tryz.sizeOf230
 v85:=Tryz.zeroValue230
 t127:=Tryz.underlying99
 a127:=Tryz.isAgg99
 z127:=Tryz.sizeOf99
 v127:=Tryz.zeroValue99
 t143:=Tryz.underlying306
 a143:=Tryz.isAgg306
 z143:=Tryz.sizeOf306
 v143:=Tryz.zeroValue306
 t145:=Tryz.underlying308
 a145:=Tryz.isAgg308
 z145:=Tryz.sizeOf308
 v145:=Tryz.zeroValue308
 t167:=Tryz.underlying229
 a167:=Tryz.isAgg229
 z167:=Tryz.sizeOf229
 v167:=Tryz.zeroValue229
 t168:=Tryz.underlying232
 a168:=Tryz.isAgg232
 z168:=Tryz.sizeOf232
 v168:=Tryz.zeroValue232
 t171:=Tryz.underlying235
 a171:=Tryz.isAgg235
 z171:=Tryz.sizeOf235
 v171:=Tryz.zeroValue235
 t173:=Tryz.underlying239
 a173:=Tryz.isAgg239
 z173:=Tryz.sizeOf239
 v173:=Tryz.zeroValue239
 t175:=Tryz.underlying276
 a175:=Tryz.isAgg276
 z175:=Tryz.sizeOf276
 v175:=Tryz.zeroValue276
 t210:=Tryz.underlying279
 a210:=Tryz.isAgg279
 z210:=Tryz.sizeOf279
 v210:=Tryz.zeroValue279
 t212:=Tryz.underlying282
 a212:=Tryz.isAgg282
 z212:=Tryz.sizeOf282
 v212:=Tryz.zeroValue282
 t213:=Tryz.underlying283
 a213:=Tryz.isAgg283
 z213:=Tryz.sizeOf283
 t232:=Tryz.underlying159
 a232:=Tryz.isAgg159
 z232:=Tryz.sizeOf159
 v232:=Tryz.zeroValue159
 t233:=Tryz.underlying316
 a233:=Tryz.isAgg316
 z233:=Tryz.sizeOf316
 v233:=Tryz.zeroValue316
 g15:=by kernel_rfl
 g16:=by kernel_rfl
 g17:=by kernel_rfl
 g18:=by kernel_rfl
 g19:=by kernel_rfl
 t80:=Tryz.underlying45
 a80:=Tryz.isAgg45
 z80:=Tryz.sizeOf45
 v80:=Tryz.zeroValue45
 i0:=by kernel_rfl
 i2:=by kernel_rfl
 i3:=by kernel_rfl
 i4:=by kernel_rfl
 i5:=by kernel_rfl
 i9:=by kernel_rfl
 i20:=by kernel_rfl
 i21:=by kernel_rfl
 i37:=by kernel_rfl
 i46:=by kernel_rfl
 i51:=by kernel_rfl
 i53:=by kernel_rfl
 i75:=by kernel_rfl
 i76:=by kernel_rfl
 i80:=by kernel_rfl
 i85:=by kernel_rfl
 i127:=by kernel_rfl
 i143:=by kernel_rfl
 i145:=by kernel_rfl
 i167:=by kernel_rfl
 i168:=by kernel_rfl
 i171:=by kernel_rfl
 i173:=by kernel_rfl
 i175:=by kernel_rfl
 i210:=by kernel_rfl
 i212:=by kernel_rfl
 i232:=by kernel_rfl
 i233:=by kernel_rfl
 m15:=by kernel_rfl
 m16:=by kernel_rfl
 m17:=by kernel_rfl
 m18:=by kernel_rfl
 m19:=by kernel_rfl
 c0:=by kernel_rfl
 c2:=by kernel_rfl
 c3:=by kernel_rfl
 c4:=by kernel_rfl
 c5:=by kernel_rfl
 c9:=by kernel_rfl
 c20:=by kernel_rfl
 c21:=by kernel_rfl
 c37:=by kernel_rfl
 c46:=by kernel_rfl
 c51:=by kernel_rfl
 c53:=by kernel_rfl
 c75:=by kernel_rfl
 c76:=by kernel_rfl
 c80:=by kernel_rfl
 c85:=by kernel_rfl
 c127:=by kernel_rfl
 c143:=by kernel_rfl
 c145:=by kernel_rfl
 c167:=by kernel_rfl
 c168:=by kernel_rfl
 c171:=by kernel_rfl
 c173:=by kernel_rfl
 c175:=by kernel_rfl
 c210:=by kernel_rfl
 c212:=by kernel_rfl
 c213:=by kernel_rfl
 c232:=by kernel_rfl
 c233:=by kernel_rfl }
def lays171_ren:Go.Shelf.Ren:=⟨fun | 171=>31 | 243=>78 | 246=>121 | 283=>161 | 284=>162 | 285=>163 | 286=>164 | 129=>180 | 317=>201 | 318=>202 | 319=>203 | 320=>204 | 337=>227 | 338=>228 | n=>n,fun | 3=>3 | 9=>9 | 2=>2 | 4=>4 | 171=>235 | 0=>0 | 53=>236 | 37=>38 | 5=>5 | 173=>239 | 212=>282 | 51=>224 | 20=>20 | 213=>283 | 46=>172 | 232=>159 | 233=>316 | n=>n,fun | 17=>4 | 18=>7 | 19=>8 | n=>n⟩
theorem lays171:Go.Proofs.Lays.n171 Tryz.prog lays171_ren:={
 mixed:=by kernel_rfl
 f129:=Tryz.func180.trans (congrArg some (by kernel_rfl))
 f171:=Tryz.func31.trans (congrArg some (by kernel_rfl))
 f243:=Tryz.func78.trans (congrArg some (by kernel_rfl))
 f246:=Tryz.func121.trans (congrArg some (by kernel_rfl))
 f283:=Tryz.func161.trans (congrArg some (by kernel_rfl))
 f284:=Tryz.func162.trans (congrArg some (by kernel_rfl))
 f285:=Tryz.func163.trans (congrArg some (by kernel_rfl))
 f286:=Tryz.func164.trans (congrArg some (by kernel_rfl))
 f317:=Tryz.func201.trans (congrArg some (by kernel_rfl))
 f318:=Tryz.func202.trans (congrArg some (by kernel_rfl))
 f319:=Tryz.func203.trans (congrArg some (by kernel_rfl))
 f320:=Tryz.func204.trans (congrArg some (by kernel_rfl))
 f337:=Tryz.func227.trans (congrArg some (by kernel_rfl))
 f338:=Tryz.func228.trans (congrArg some (by kernel_rfl))
 t0:=Tryz.underlying0
 a0:=Tryz.isAgg0
 z0:=Tryz.sizeOf0
 v0:=Tryz.zeroValue0
 t2:=Tryz.underlying2
 a2:=Tryz.isAgg2
 z2:=Tryz.sizeOf2
 v2:=Tryz.zeroValue2
 t3:=Tryz.underlying3
 a3:=Tryz.isAgg3
 z3:=Tryz.sizeOf3
 v3:=Tryz.zeroValue3
 t4:=Tryz.underlying4
 a4:=Tryz.isAgg4
 z4:=Tryz.sizeOf4
 v4:=Tryz.zeroValue4
 t5:=Tryz.underlying5
 a5:=Tryz.isAgg5
 z5:=Tryz.sizeOf5
 v5:=Tryz.zeroValue5
 t9:=Tryz.underlying9
 a9:=Tryz.isAgg9
 z9:=Tryz.sizeOf9
 v9:=Tryz.zeroValue9
 t20:=Tryz.underlying20
 a20:=Tryz.isAgg20
 z20:=Tryz.sizeOf20
 v20:=Tryz.zeroValue20
 t37:=Tryz.underlying38
 a37:=Tryz.isAgg38
 z37:=Tryz.sizeOf38
 v37:=Tryz.zeroValue38
 t46:=Tryz.underlying172
 a46:=Tryz.isAgg172
 z46:=Tryz.sizeOf172
 v46:=Tryz.zeroValue172
 t51:=Tryz.underlying224
 a51:=Tryz.isAgg224
 z51:=Tryz.sizeOf224
 v51:=Tryz.zeroValue224
 t53:=Tryz.underlying236
 a53:=Tryz.isAgg236
 z53:=Tryz.sizeOf236
 v53:=Tryz.zeroValue236
 t171:=Tryz.underlying235
 a171:=Tryz.isAgg235
 z171:=Tryz.sizeOf235
 v171:=Tryz.zeroValue235
 t173:=Tryz.underlying239
 a173:=Tryz.isAgg239
 z173:=Tryz.sizeOf239
 v173:=Tryz.zeroValue239
 t212:=Tryz.underlying282
 a212:=Tryz.isAgg282
 z212:=Tryz.sizeOf282
 v212:=Tryz.zeroValue282
 t213:=Tryz.underlying283
 a213:=Tryz.isAgg283
 z213:=Tryz.sizeOf283
 t232:=Tryz.underlying159
 a232:=Tryz.isAgg159
 z232:=Tryz.sizeOf159
 v232:=Tryz.zeroValue159
 t233:=Tryz.underlying316
 a233:=Tryz.isAgg316
 z233:=Tryz.sizeOf316
 v233:=Tryz.zeroValue316
 g17:=by kernel_rfl
 g18:=by kernel_rfl
 g19:=by kernel_rfl }
theorem sh_strconv_Itoa_small (i:Nat) (hi:i < 100) (w:World):
  Calls Tryz.prog 31 #[.int .i64 i] w fun e w'=>e=.returned (.string ⟨(Lib.decDigits i).toArray⟩)∧w'=w:=Any.strconv_Itoa_small lays171 i hi w
def lays137_ren:Go.Shelf.Ren:=⟨fun | 137=>113 | 217=>108 | 266=>145 | n=>n,fun | 9=>9 | 5=>5 | 3=>3 | n=>n,fun | n=>n⟩
theorem lays137:Go.Proofs.Lays.n137 Tryz.prog lays137_ren:={
 mixed:=by kernel_rfl
 f137:=Tryz.func113.trans (congrArg some (by kernel_rfl))
 f217:=Tryz.func108.trans (congrArg some (by kernel_rfl))
 f266:=Tryz.func145.trans (congrArg some (by kernel_rfl))
 t3:=Tryz.underlying3
 a3:=Tryz.isAgg3
 z3:=Tryz.sizeOf3
 v3:=Tryz.zeroValue3
 t5:=Tryz.underlying5
 a5:=Tryz.isAgg5
 z5:=Tryz.sizeOf5
 v5:=Tryz.zeroValue5
 t9:=Tryz.underlying9
 a9:=Tryz.isAgg9
 z9:=Tryz.sizeOf9
 v9:=Tryz.zeroValue9 }
theorem sh_strings_IndexByte (s:ByteArray) (c:Int) (w:World):
  Calls Tryz.prog 113 #[.string s,.int .u8 c] w fun e w'=>e=.returned (.int .i64 (Lib.indexByte s.data.toList c.toNat.toUInt8))∧w'=w:=Any.strings_IndexByte lays137 s c w
def lays219_ren:Go.Shelf.Ren:=⟨fun | 219=>69 | 217=>108 | 225=>109 | 224=>110 | 267=>111 | 266=>145 | 314=>146 | n=>n,fun | 9=>9 | 3=>3 | 4=>4 | 5=>5 | 46=>172 | 146=>225 | 51=>224 | n=>n,fun | 1=>0 | n=>n⟩
theorem lays219:Go.Proofs.Lays.n219 Tryz.prog lays219_ren:={
 mixed:=by kernel_rfl
 f217:=Tryz.func108.trans (congrArg some (by kernel_rfl))
 f219:=Tryz.func69.trans (congrArg some (by kernel_rfl))
 f224:=Tryz.func110.trans (congrArg some (by kernel_rfl))
 f225:=Tryz.func109.trans (congrArg some (by kernel_rfl))
 f266:=Tryz.func145.trans (congrArg some (by kernel_rfl))
 f267:=Tryz.func111.trans (congrArg some (by kernel_rfl))
 f314:=Tryz.func146.trans (congrArg some (by kernel_rfl))
 t3:=Tryz.underlying3
 a3:=Tryz.isAgg3
 z3:=Tryz.sizeOf3
 v3:=Tryz.zeroValue3
 t4:=Tryz.underlying4
 a4:=Tryz.isAgg4
 z4:=Tryz.sizeOf4
 v4:=Tryz.zeroValue4
 t5:=Tryz.underlying5
 a5:=Tryz.isAgg5
 z5:=Tryz.sizeOf5
 v5:=Tryz.zeroValue5
 t9:=Tryz.underlying9
 a9:=Tryz.isAgg9
 z9:=Tryz.sizeOf9
 v9:=Tryz.zeroValue9
 t46:=Tryz.underlying172
 a46:=Tryz.isAgg172
 z46:=Tryz.sizeOf172
 v46:=Tryz.zeroValue172
 t51:=Tryz.underlying224
 a51:=Tryz.isAgg224
 z51:=Tryz.sizeOf224
 v51:=Tryz.zeroValue224
 t146:=Tryz.underlying225
 a146:=Tryz.isAgg225
 z146:=Tryz.sizeOf225
 v146:=Tryz.zeroValue225
 g1:=by kernel_rfl }
theorem sh_stringslite_Index_one (s:ByteArray) (c:UInt8) (w:World):
  Calls Tryz.prog 69 #[.string s,.string ⟨#[c]⟩] w fun e w'=>e=.returned (.int .i64 (Lib.indexByte s.data.toList c))∧w'=w:=Any.stringslite_Index_one lays219 s c w
def AtPost (s:ByteArray) (w:World) (e:Ending) (w':World):Prop:=Ext w w'∧((∃ v,Lib.atoiAll s.data.toList=.ok v∧e=.returned (.tuple #[.int .i64 v,.nilIface]))∨((∀ v,Lib.atoiAll s.data.toList≠.ok v)∧∃ x p,e=.returned (.tuple #[.int .i64 x,.iface 232 (.pointer (some p))])))
structure Errs (w:World):Prop where
 syn:∃ tp p,w.cell? ⟨2,0,none⟩=some (.iface tp p)
 rng:∃ tp p,w.cell? ⟨3,0,none⟩=some (.iface tp p)
theorem Errs.ext {w w':World} (h:Errs w) (hx:Ext w w'):Errs w':=by
 obtain ⟨⟨a,b,h1⟩,⟨c,d,h2⟩⟩:=h
 exact ⟨⟨a,b,(hx.cell (World.block_lt_of_cell? w _ h1)).trans h1⟩,⟨c,d,(hx.cell (World.block_lt_of_cell? w _ h2)).trans h2⟩⟩
theorem atoi_any (s:ByteArray) (hlim:s.size≤281474976710656) (w:World) (he:Errs w):Calls Tryz.prog 77 #[.string s] w (AtPost s w):=by
 obtain ⟨⟨tp,p,h1⟩,⟨tq,q,h2⟩⟩:=he
 rcases hx:Lib.atoiAll s.data.toList with v | _ | _
 ·refine (Any.strconv_Atoi_ok laysC172 s (by omega) v hx w).mono ?_
  rintro e w' ⟨rfl,hw⟩
  refine ⟨?_,.inl ⟨v,hx,rfl⟩⟩
  rcases hw with rfl | ⟨t,rfl⟩
  ·exact Below.refl _ _
  ·exact Lib.bytesWorld_below _ _ _
 ·refine (Any.strconv_Atoi_syntax laysC172 s hlim hx _ w h1 (.inr ⟨_,_,rfl⟩)).mono ?_
  rintro e w' ⟨N,rfl,_,_,hb⟩
  exact ⟨hb,.inr ⟨(fun v h=>by rw [hx] at h;cases h),_,_,rfl⟩⟩
 ·refine (Any.strconv_Atoi_range laysC172 s hlim hx _ w h2 (.inr ⟨_,_,rfl⟩)).mono ?_
  rintro e w' ⟨N,rfl,_,_,hb⟩
  exact ⟨hb,.inr ⟨(fun v h=>by rw [hx] at h;cases h),_,_,rfl⟩⟩
end Go.Proofs.YtkoajpeabicpdaaGreatDoor
namespace Go.Proofs.YtkoajpeabicpdaaGreatDoor
open Go Go.RowKit
def CtPost (s:ByteArray) (w:World) (e:Ending) (w':World):Prop:=∃ a b f,e=.returned (.tuple #[.string a,.string b,.bool f])∧a.data.toList=NT.cutA s.data.toList∧b.data.toList=NT.cutB s.data.toList∧Ext w w'
theorem str_take (s:ByteArray) (k:Nat) (h:k≤s.size):(s.extract 0 k).data.toList=s.data.toList.take k:=by
 simp [ByteArray.data_extract,Array.toList_extract]
theorem str_drop (s:ByteArray) (k:Nat) (h:k≤s.size):(s.extract k s.size).data.toList=s.data.toList.drop k:=by
 have e:s.size=s.data.toList.length:=by rw [Array.length_toList];rfl
 simp only [ByteArray.data_extract,Array.toList_extract,List.extract_eq_take_drop]
 rw [List.take_of_length_le]
 rw [List.length_drop,←e]
 exact Nat.le_refl _
theorem lcut_any (s:ByteArray) (hs:s.size≤4611686018427387904) (w:World):Calls Tryz.prog 23 #[.string s,.string ⟨#[32]⟩] w (CtPost s w):=by
 have hI:=sh_stringslite_Index_one s 32 w
 have e0:s.size=s.data.toList.length:=by rw [Array.length_toList];rfl
 obtain ⟨k1,k2⟩:=NT.idx_cut s.data.toList
 have hge:=Lib.indexByte_ge s.data.toList 32
 obtain ⟨i,hi⟩:∃ i,Lib.indexByte s.data.toList 32=i:=⟨_,rfl⟩
 rw [hi] at hI k1 k2 hge
 have HI:=Lib.hid hI
 clear hI hi
 by_cases h:0≤i
 ·obtain ⟨k,rfl⟩:=Int.eq_ofNat_of_zero_le h
  obtain ⟨h1,h2,h3⟩:=k2 h
  simp only [Int.toNat_natCast] at h1 h2 h3
  have hks:k < s.size:=by omega
  have HP:Hid (CtPost s w (.returned (.tuple #[.string (s.extract 0 k),.string (s.extract (k+1) s.size),.bool true])) w∧∀ q,CtPost s w (.returned (.tuple #[.string (s.extract 0 k),.string (s.extract (k+1) s.size),.bool true])) (w.drewN q)):=
   ⟨⟨_,_,_,rfl,by rw [str_take _ _ (by omega),h2],by rw [str_drop _ _ (by omega),h3],Ext.refl _⟩,fun q=>⟨_,_,_,rfl,by rw [str_take _ _ (by omega),h2],by rw [str_drop _ _ (by omega),h3],Ext.drewN _ _⟩⟩
  have g1:(k:Int)≤(s.size:Int):=by omega
  have g2:(k:Int)+1≤(s.size:Int):=by omega
  have g3:(0:Int)≤(k:Int):=by omega
  have g4:((k:Int)+1).toNat=k+1:=by omega
  have g5:((1:Nat):Int)=1:=rfl
  have g6:(⟨#[32]⟩:ByteArray).size=1:=rfl
  clear k1 k2 h1 h2 h3 e0
  go_enter Tryz.func23,Tryz.ntmps23
  go_wp2_with fail
  refine HI.out.mono ?_
  rintro e w' ⟨rfl,rfl⟩
  go_wp2
  go_quiet (fail)
  go_wp2
  go_ret3
  exact HP.out.2 _
 ·have hi1:i=-1:=by omega
  obtain ⟨h1,h2⟩:=k1 hi1
  have HP:Hid (CtPost s w (.returned (.tuple #[.string s,.string ⟨#[]⟩,.bool false])) w):=⟨_,_,_,rfl,h1.symm,by rw [h2],Ext.refl _⟩
  subst hi1
  clear k1 k2 h1 h2 e0 hge
  go_enter Tryz.func23,Tryz.ntmps23
  go_wp2_with fail
  refine HI.out.mono ?_
  rintro e w' ⟨rfl,rfl⟩
  go_wp2
  go_ret3
  exact HP.out
theorem cut_any (s:ByteArray) (hs:s.size≤4611686018427387904) (w:World):Calls Tryz.prog 10 #[.string s,.string ⟨#[32]⟩] w (CtPost s w):=by
 go_enter Tryz.func10,Tryz.ntmps10
 go_wp2_with fail
 refine (lcut_any s hs w).mono ?_
 rintro e w' ⟨a,b,f,rfl,h1,h2,h3⟩
 have HP:Hid (CtPost s w (.returned (.tuple #[.string a,.string b,.bool f])) w'):=⟨a,b,f,rfl,h1,h2,h3⟩
 clear h1 h2 h3
 go_wp2
 go_ret3
 exact HP.out
theorem txt_str {c:UInt8} {la lb:List UInt8} {x:ByteArray} (hx:x.data.toList=[c]):x++⟨la.toArray⟩++⟨#[32]⟩++⟨lb.toArray⟩=(⟨(c::(la++32::lb)).toArray⟩:ByteArray):=by
 apply ByteArray.ext
 apply Array.toList_inj.1
 simp [hx]
def evBad (W A B:Int):Bool:=decide (W < 1∨3 < W∨A < 0∨60≤A∨B < 0∨60≤B)
def TxPost (W A B:Int) (w:World) (e:Ending) (w':World):Prop:=Ext w w'∧((evBad W A B=true∧e=.returned (.tuple #[.string ⟨#[]⟩,.iface 52 (.int .i64 1)]))∨(evBad W A B=false∧∃ W' A' B':Nat,W=W'∧A=A'∧B=B'∧NT.Vd W' A' B'∧e=.returned (.tuple #[.string ⟨(NT.txt W' A' B').toArray⟩,.nilIface])))
theorem text_bad (W A B:Int) (h:evBad W A B=true) (w:World):Calls Tryz.prog 114 #[.agg #[.int .i64 W,.int .i64 A,.int .i64 B]] w (TxPost W A B w):=by
 have HP:Hid (∀ w',Ext w w'→TxPost W A B w (.returned (.tuple #[.string ⟨#[]⟩,.iface 52 (.int .i64 1)])) w'):=fun w' hx=>⟨hx,.inl ⟨h,rfl⟩⟩
 have h':W < 1∨3 < W∨A < 0∨60≤A∨B < 0∨60≤B:=by simpa [evBad] using h
 clear h
 by_cases c1:W < 1
 ·clear h'
  go_enter Tryz.func114,Tryz.ntmps114
  go_wp2
  go_ret2
  exact HP.out _ (Ext.alloc _ _)
 by_cases c2:3 < W
 ·clear h'
  go_enter Tryz.func114,Tryz.ntmps114
  go_wp2
  go_ret2
  exact HP.out _ (Ext.alloc _ _)
 by_cases c3:A < 0
 ·clear h'
  go_enter Tryz.func114,Tryz.ntmps114
  go_wp2
  go_ret2
  exact HP.out _ (Ext.alloc _ _)
 by_cases c4:60≤A
 ·clear h'
  go_enter Tryz.func114,Tryz.ntmps114
  go_wp2
  go_ret2
  exact HP.out _ (Ext.alloc _ _)
 by_cases c5:B < 0
 ·clear h'
  go_enter Tryz.func114,Tryz.ntmps114
  go_wp2
  go_ret2
  exact HP.out _ (Ext.alloc _ _)
 have c6:60≤B:=by omega
 clear h'
 go_enter Tryz.func114,Tryz.ntmps114
 go_wp2
 go_ret2
 exact HP.out _ (Ext.alloc _ _)
theorem text_ok (W A B:Nat) (h:NT.Vd W A B) (w:World):Calls Tryz.prog 114 #[.agg #[.int .i64 W,.int .i64 A,.int .i64 B]] w fun e w'=>e=.returned (.tuple #[.string ⟨(NT.txt W A B).toArray⟩,.nilIface])∧Ext w w':=by
 have ha:=h.a
 have hb:=h.b
 obtain ⟨la,hla⟩:∃ t,Lib.decDigits A=t:=⟨_,rfl⟩
 obtain ⟨lb,hlb⟩:∃ t,Lib.decDigits B=t:=⟨_,rfl⟩
 have sa:la.length≤2:=by rw [←hla];exact (NT.dec_all A ha).2.2
 have sb:lb.length≤2:=by rw [←hlb];exact (NT.dec_all B hb).2.2
 have HA:Hid (∀ w,Calls Tryz.prog 31 #[.int .i64 (A:Int)] w fun e w'=>e=.returned (.string ⟨la.toArray⟩)∧w'=w):=fun w=>by rw [←hla];exact sh_strconv_Itoa_small A (by omega) w
 have HB:Hid (∀ w,Calls Tryz.prog 31 #[.int .i64 (B:Int)] w fun e w'=>e=.returned (.string ⟨lb.toArray⟩)∧w'=w):=fun w=>by rw [←hlb];exact sh_strconv_Itoa_small B (by omega) w
 have HE:Hid (NT.txt W A B=NT.sg W::(la++32::lb)):=by rw [Hid,NT.txt,hla,hlb]
 have w1:=h.w1
 have w3:=h.w3
 have hW:W=1∨W=2∨W=3:=by omega
 have sa':(⟨la.toArray⟩:ByteArray).size=la.length:=by simp [ByteArray.size]
 have sb':(⟨lb.toArray⟩:ByteArray).size=lb.length:=by simp [ByteArray.size]
 clear h hla hlb w1 w3
 rcases hW with rfl | rfl | rfl
 all_goals
  go_enter Tryz.func114,Tryz.ntmps114
  go_wp2
  go_quiet (first
   | ((go_at_call 31;with_reducible exact Calls.quiet_of_same (HA.out _)))
   | ((go_at_call 31;with_reducible exact Calls.quiet_of_same (HB.out _))))
  go_wp2
  go_ret2
  refine ⟨congrArg (fun z=>Ending.returned (.tuple #[.string z,.nilIface])) ?_,Ext.trans (Ext.alloc _ _) (Ext.drewN _ _)⟩
  rw [HE.out]
  exact txt_str (by decide)
theorem results_ev {fn:Func} {c u:Tmp} (h:fn.results=#[.cell c 128,.tmp u]) (tmps:Array Value) (w:World) (g:Nat) (hp:tmps.getD c undef=.pointer (some ⟨g,0,none⟩)) {a b d:Value} (h0:w.cell? ⟨g,0,none⟩=some a) (h1:w.cell? ⟨g,1,none⟩=some b) (h2:w.cell? ⟨g,2,none⟩=some d):
  (results fn tmps).run Tryz.prog w=.ok (.tuple #[.agg #[a,b,d],tmps.getD u undef]) w:=by
 have hl:(loadCells ⟨g,0,none⟩ 3).run Tryz.prog w=.ok #[a,b,d] w:=by
  have:=run_loadCells_list (P:=Tryz.prog) w ⟨g,0,none⟩ [a,b,d] (fun j v hj=>by
   match j,hj with
   | 0,hj=>simp at hj;subst hj;simpa [Addr.add] using h0
   | 1,hj=>simp at hj;subst hj;simpa [Addr.add] using h1
   | 2,hj=>simp at hj;subst hj;simpa [Addr.add] using h2)
  simpa using this
 have a1:=Tryz.isAgg128
 have z1:=Tryz.sizeOf128
 have hp':tmps[c]?.getD undef=.pointer (some ⟨g,0,none⟩):=by simpa using hp
 simp [results,h,hp',loadVar,asAddr,a1,z1,hl]
def IsTxt (s:ByteArray) (W A B:Nat):Prop:=NT.Vd W A B∧s.data.toList=NT.txt W A B
def PsPost (s:ByteArray) (w:World) (e:Ending) (w':World):Prop:=Ext w w'∧((∃ W A B:Nat,IsTxt s W A B∧e=.returned (.tuple #[.agg #[.int .i64 (W:Int),.int .i64 (A:Int),.int .i64 (B:Int)],.nilIface]))∨
 ((∀ W A B:Nat,¬ IsTxt s W A B)∧e=.returned (.tuple #[.agg #[.int .i64 0,.int .i64 0,.int .i64 0],.iface 52 (.int .i64 5)])))
theorem str_eq {s:ByteArray} {l:List UInt8} (h:s.data.toList=l):(⟨l.toArray⟩:ByteArray)=s:=by
 apply ByteArray.ext
 apply Array.toList_inj.1
 simp [h]
def w3c (W:World) (R:Nat) (a b d:Value):World:=((W.setCell ⟨R,0,none⟩ a).setCell ⟨R,1,none⟩ b).setCell ⟨R,2,none⟩ d
theorem w3c_blk {W:World} {R:Nat} {x y z:Value} (h:Blk W R 128 #[x,y,z]) (a b d:Value):Blk (w3c W R a b d) R 128 #[a,b,d]:=by
 have:=((h.set_ 0 a).set_ 1 b).set_ 2 d
 simpa [w3c] using this
theorem w3c_ext {w W:World} (h:Ext w W) (a b d:Value):Ext w (w3c W w.heap.size a b d):=
 ((((Chg.of_below h).setCell (p:=⟨w.heap.size,0,none⟩) (fun _=>Nat.le_refl _) a).setCell (p:=⟨w.heap.size,1,none⟩) (fun _=>Nat.le_refl _) b).setCell (p:=⟨w.heap.size,2,none⟩) (fun _=>Nat.le_refl _) d).below (Nat.le_refl _) (fun _ _ h=>h)
theorem ps_no {s:ByteArray} {w W:World} {tmps:Array Value} {x y z:Value} (hb:Blk W w.heap.size 128 #[x,y,z]) (hx:Ext w W) (hn:∀ W A B:Nat,¬ IsTxt s W A B) (hp:tmps.getD 2 undef=.pointer (some ⟨w.heap.size,0,none⟩)) (he:tmps.getD 3 undef=.iface 52 (.int .i64 5)):
  bodyPost Tryz.prog Tryz.f72 (PsPost s w) .ret ⟨tmps,[]⟩ (((W.setCell ⟨w.heap.size,0,none⟩ (.int .i64 0)).setCell ⟨w.heap.size,1,none⟩ (.int .i64 0)).setCell ⟨w.heap.size,2,none⟩ (.int .i64 0)):=by
 have h:=w3c_blk hb (.int .i64 0) (.int .i64 0) (.int .i64 0)
 refine bodyPost_ret (results_ev rfl _ _ w.heap.size hp (h.cell 0) (h.cell 1) (h.cell 2)) rfl ?_
 exact ⟨w3c_ext hx _ _ _,.inr ⟨hn,congrArg (fun z=>Ending.returned (.tuple #[.agg #[.int .i64 0,.int .i64 0,.int .i64 0],z])) he⟩⟩
theorem ps_yes {s:ByteArray} {w W0:World} {tmps:Array Value} {x y z:Value} {W A B:Nat} (hb:Blk W0 w.heap.size 128 #[x,y,z]) (hx:Ext w W0) (ht:IsTxt s W A B) (hp:tmps.getD 2 undef=.pointer (some ⟨w.heap.size,0,none⟩)) (he:tmps.getD 3 undef=.nilIface):
  bodyPost Tryz.prog Tryz.f72 (PsPost s w) .ret ⟨tmps,[]⟩ (((W0.setCell ⟨w.heap.size,0,none⟩ (.int .i64 (W:Int))).setCell ⟨w.heap.size,1,none⟩ (.int .i64 (A:Int))).setCell ⟨w.heap.size,2,none⟩ (.int .i64 (B:Int))):=by
 have h:=w3c_blk hb (.int .i64 (W:Int)) (.int .i64 (A:Int)) (.int .i64 (B:Int))
 refine bodyPost_ret (results_ev rfl _ _ w.heap.size hp (h.cell 0) (h.cell 1) (h.cell 2)) rfl ?_
 exact ⟨w3c_ext hx _ _ _,.inl ⟨W,A,B,ht,congrArg (fun z=>Ending.returned (.tuple #[.agg #[.int .i64 (W:Int),.int .i64 (A:Int),.int .i64 (B:Int)],z])) he⟩⟩
set_option maxRecDepth 100000 in
theorem parse_any (s:ByteArray) (hs:s.size≤140737488355328) (w:World) (he:Errs w):Calls Tryz.prog 72 #[.string s] w (PsPost s w):=by
 have HER:=Lib.hid he
 clear he
 have e0:s.size=s.data.toList.length:=by rw [Array.length_toList];rfl
 rcases hl:s.data.toList with _ | ⟨ch,r⟩
 ·have hsz:s.size=0:=by rw [e0,hl];rfl
  have HN:Hid (∀ W A B:Nat,¬ IsTxt s W A B):=fun W A B h=>by have:=h.2;rw [hl] at this;simp [NT.txt] at this
  have hse:s=⟨#[]⟩:=(str_eq (l:=[]) hl).symm
  subst hse
  clear hl e0 hsz hs
  go_enter Tryz.func72,Tryz.ntmps72
  go_wp2
  refine bodyPost_ret (results_ev rfl _ _ w.heap.size rfl ((Blk.new w 128 _).cell 0) ((Blk.new w 128 _).cell 1) ((Blk.new w 128 _).cell 2)) rfl ?_
  exact ⟨Ext.alloc _ _,.inr ⟨HN.out,rfl⟩⟩
 ·have hsz:1≤s.size:=by rw [e0,hl];simp
  have z1:s.toList.isEmpty=false:=by rw [ByteArray.toList_eq,hl];rfl
  have z2:(1:Int)≤(s.size:Int):=by omega
  have hcl:(s.extract 1 s.size).data.toList=r:=by rw [str_drop _ _ hsz,hl];rfl
  have hrl:r.length≤140737488355328:=by
   rw [e0,hl] at hs
   simp at hs;omega
  have hcs:(s.extract 1 s.size).size≤4611686018427387904:=by
   have:(s.extract 1 s.size).size=(s.extract 1 s.size).data.toList.length:=by rw [Array.length_toList];rfl
   rw [this,hcl]
   omega
  have hch:s[0]'hsz=ch:=by
   have:s.data.toList[0]'(by rw [hl];simp)=ch:=by simp [hl]
   rw [←this];rfl
  have hb:Blk (w.alloc (.cells #[.int .i64 0,.int .i64 0,.int .i64 0] 128)) w.heap.size 128 #[.int .i64 0,.int .i64 0,.int .i64 0]:=Blk.new _ _ _
  have HB:=Lib.hid hb
  have HRL:=Lib.hid hrl
  have HCS:=Lib.hid hcs
  have HCL:=Lib.hid hcl
  have HL:=Lib.hid hl
  obtain ⟨ix,hix⟩:∃ t,Lib.indexByte NT.sgs ch=t:=⟨_,rfl⟩
  have HIX:Hid (∀ w,Calls Tryz.prog 113 #[.string ⟨#[43,45,63]⟩,.int .u8 ((s[0]'hsz).toNat:Int)] w fun e w'=>e=.returned (.int .i64 ix)∧w'=w):=fun w=>by
   have:=sh_strings_IndexByte ⟨#[43,45,63]⟩ ((s[0]'hsz).toNat:Int) w
   rw [hch] at this ⊢
   have e2:Lib.indexByte (⟨#[43,45,63]⟩:ByteArray).data.toList ((ch.toNat:Int)).toNat.toUInt8=ix:=by
    rw [←hix,Int.toNat_natCast]
    congr 1
    exact UInt8.ofNat_toNat
   rwa [e2] at this
  have hix2:=NT.idx_le ch
  rw [hix] at hix2
  obtain ⟨i1,i2⟩:=hix2
  have HIXE:=Lib.hid hix
  clear hs hcs hcl hl e0 hrl hch hb hix
  go_enter Tryz.func72,Tryz.ntmps72
  go_wp2_with fail
  refine (cut_any (s.extract 1 s.size) HCS.out _).mono ?_
  rintro e w1 ⟨a,b,fnd,rfl,ha,hb,hx1⟩
  rw [HCL.out] at ha hb
  have HX1:Hid (Ext w w1):=Ext.trans (Ext.alloc _ _) hx1
  have HB1:=Lib.hid (HB.out.chg (Chg.of_below hx1) (by have:=HB.out.lt;omega))
  have HA:=Lib.hid ha
  have HBB:=Lib.hid hb
  have HAS:Hid (a.size≤281474976710656):=by
   have:a.size=a.data.toList.length:=by rw [Array.length_toList];rfl
   rw [Hid,this,ha]
   have:(NT.cutA r).length≤r.length:=(List.takeWhile_prefix _).sublist.length_le
   have:=HRL.out
   omega
  have HBS:Hid (b.size≤281474976710656):=by
   have:b.size=b.data.toList.length:=by rw [Array.length_toList];rfl
   rw [Hid,this,hb]
   have:(NT.cutB r).length≤r.length:=((List.drop_sublist _ _).trans (List.dropWhile_sublist _)).length_le
   have:=HRL.out
   omega
  clear hx1 ha hb HB HCS
  go_wp2_with fail
  refine (atoi_any a HAS.out w1 (HER.out.ext HX1.out)).mono ?_
  intro e w2 hp
  obtain ⟨hx2,hp⟩:=hp
  have HX2:Hid (Ext w w2):=Ext.trans HX1.out hx2
  have HB2:=Lib.hid (HB1.out.chg (Chg.of_below hx2) (by have:=HB1.out.lt;omega))
  clear hx2 HX1 HB1
  have bad:Hid ((∀ v,Lib.atoiAll a.data.toList≠.ok v)∨(∀ v,Lib.atoiAll b.data.toList≠.ok v)→∀ W A B:Nat,¬ IsTxt s W A B):=fun h W A B ht=>by
   obtain ⟨_,h1,h2⟩:=NT.txt_read ht.1 (HL.out.symm.trans ht.2)
   rw [←HA.out] at h1
   rw [←HBB.out] at h2
   rcases h with h | h
   ·exact h _ h1
   ·exact h _ h2
  have BAD:∀ (tp:Value) (w5:World),True:=fun _ _=>trivial
  clear BAD
  rcases hp with ⟨x,hxa,rfl⟩ | ⟨hna,x,p,rfl⟩
  ·have HXA:=Lib.hid hxa
   clear hxa
   go_wp2_with fail
   refine (atoi_any b HBS.out w2 (HER.out.ext HX2.out)).mono ?_
   intro e w3 hp
   obtain ⟨hx3,hp⟩:=hp
   have HX3:Hid (Ext w w3):=Ext.trans HX2.out hx3
   have HB3:=Lib.hid (HB2.out.chg (Chg.of_below hx3) (by have:=HB2.out.lt;omega))
   clear hx3 HX2 HB2
   rcases hp with ⟨y,hyb,rfl⟩ | ⟨hnb,y,p,rfl⟩
   ·have HYB:=Lib.hid hyb
    clear hyb
    go_wp2_with fail
    refine (HIX.out w3).mono ?_
    rintro e w4 ⟨rfl,rfl⟩
    obtain ⟨w5,hw5⟩:∃ w5,w4.alloc (.cells #[.int .i64 (ix+1),.int .i64 x,.int .i64 y] 128)=w5:=⟨_,rfl⟩
    have HB5:Hid (Blk w5 w.heap.size 128 #[.int .i64 0,.int .i64 0,.int .i64 0]):=by rw [Hid,←hw5];exact HB3.out.alloc _
    have HE5:Hid (Blk w5 w4.heap.size 128 #[.int .i64 (ix+1),.int .i64 x,.int .i64 y]):=by rw [Hid,←hw5];exact Blk.new _ _ _
    have HX5:Hid (Ext w w5):=by rw [Hid,←hw5];exact Ext.trans HX3.out (Ext.alloc _ _)
    have e0:w5.cell? ⟨w4.heap.size,0,none⟩=some (.int .i64 (ix+1)):=HE5.out.cell 0
    have e1:w5.cell? ⟨w4.heap.size,1,none⟩=some (.int .i64 x):=HE5.out.cell 1
    have e2:w5.cell? ⟨w4.heap.size,2,none⟩=some (.int .i64 y):=HE5.out.cell 2
    have HRD:Hid (∀ W A B:Nat,IsTxt s W A B→ix+1=(W:Int)∧x=(A:Int)∧y=(B:Int)):=fun W A B ht=>by
     obtain ⟨h0,h1,h2⟩:=NT.txt_read ht.1 (HL.out.symm.trans ht.2)
     rw [←HA.out,HXA.out] at h1
     rw [←HBB.out,HYB.out] at h2
     injection h1 with h1
     injection h2 with h2
     exact ⟨by rw [←HIXE.out];exact h0,h1,h2⟩
    by_cases hbad:evBad (ix+1) x y=true
    ·have HN:Hid (∀ W A B:Nat,¬ IsTxt s W A B):=fun W A B ht=>by
      obtain ⟨h0,h1,h2⟩:=HRD.out W A B ht
      have:=ht.1
      have:=this.w1;have:=ht.1.w3;have:=ht.1.a;have:=ht.1.b
      simp [evBad] at hbad
      omega
     have HT:=Lib.hid (text_bad (ix+1) x y hbad w5)
     have HBAD:=Lib.hid hbad
     clear hbad
     go_wp2_with fail
     refine HT.out.mono ?_
     intro e w6 hp
     obtain ⟨hx6,⟨_,rfl⟩ | ⟨h,_,_,_,_,_,_,_,rfl⟩⟩:=hp
     case inr=>rw [HBAD.out] at h;cases h
     have HB6:=Lib.hid (HB5.out.chg (Chg.of_below hx6) (by have:=HB5.out.lt;omega))
     have HX6:Hid (Ext w w6):=Ext.trans HX5.out hx6
     have c0:w6.cell? ⟨w.heap.size,0,none⟩=some (.int .i64 0):=HB6.out.cell 0
     have c1:w6.cell? ⟨w.heap.size,1,none⟩=some (.int .i64 0):=HB6.out.cell 1
     have c2:w6.cell? ⟨w.heap.size,2,none⟩=some (.int .i64 0):=HB6.out.cell 2
     have f0:=HB6.out.frozen 0
     have f1:=HB6.out.frozen 1
     have f2:=HB6.out.frozen 2
     clear hx6 hw5 e0 e1 e2 HT
     go_wp2
     exact ps_no HB6.out HX6.out HN.out rfl rfl
    ·have hv:1≤ix+1∧ix+1≤3∧0≤x∧x < 60∧0≤y∧y < 60:=by simp [evBad] at hbad;omega
     obtain ⟨W,hW⟩:=Int.eq_ofNat_of_zero_le (show 0≤ix+1 by omega)
     obtain ⟨A,rfl⟩:=Int.eq_ofNat_of_zero_le (show 0≤x by omega)
     obtain ⟨B,rfl⟩:=Int.eq_ofNat_of_zero_le (show 0≤y by omega)
     have hvd:NT.Vd W A B:=⟨by omega,by omega,by omega,by omega⟩
     have HVD:=Lib.hid hvd
     rw [hW] at e0 hw5 HE5
     have HT:=Lib.hid (text_ok W A B hvd w5)
     obtain ⟨t,ht⟩:∃ t:ByteArray,(⟨(NT.txt W A B).toArray⟩:ByteArray)=t:=⟨_,rfl⟩
     rw [ht] at HT
     have htl:t.data.toList=NT.txt W A B:=by rw [←ht]
     have HTL:=Lib.hid htl
     have HWE:=Lib.hid hW
     clear hbad hv hvd ht htl
     go_wp2_with fail
     refine HT.out.mono ?_
     rintro e w6 ⟨rfl,hx6⟩
     have HB6:=Lib.hid (HB5.out.chg (Chg.of_below hx6) (by have:=HB5.out.lt;omega))
     have HE6:=Lib.hid (HE5.out.chg (Chg.of_below hx6) (by have:=HE5.out.lt;omega))
     have HX6:Hid (Ext w w6):=Ext.trans HX5.out hx6
     have c0:w6.cell? ⟨w.heap.size,0,none⟩=some (.int .i64 0):=HB6.out.cell 0
     have c1:w6.cell? ⟨w.heap.size,1,none⟩=some (.int .i64 0):=HB6.out.cell 1
     have c2:w6.cell? ⟨w.heap.size,2,none⟩=some (.int .i64 0):=HB6.out.cell 2
     have f0:=HB6.out.frozen 0
     have f1:=HB6.out.frozen 1
     have f2:=HB6.out.frozen 2
     have d0:w6.cell? ⟨w4.heap.size,0,none⟩=some (.int .i64 (W:Int)):=HE6.out.cell 0
     have d1:w6.cell? ⟨w4.heap.size,1,none⟩=some (.int .i64 (A:Int)):=HE6.out.cell 1
     have d2:w6.cell? ⟨w4.heap.size,2,none⟩=some (.int .i64 (B:Int)):=HE6.out.cell 2
     clear hx6 hw5 e0 e1 e2 HT hW
     by_cases hts:t=s
     ·subst hts
      have HI:Hid (IsTxt t W A B):=⟨HVD.out,HTL.out⟩
      go_wp2
      exact ps_yes HB6.out HX6.out HI.out rfl rfl
     ·have HN:Hid (∀ W A B:Nat,¬ IsTxt s W A B):=fun W' A' B' hi=>by
       obtain ⟨h0,h1,h2⟩:=HRD.out W' A' B' hi
       have h3:=HWE.out
       obtain rfl:W=W':=by omega
       obtain rfl:A=A':=by omega
       obtain rfl:B=B':=by omega
       refine hts ?_
       apply ByteArray.ext
       apply Array.toList_inj.1
       rw [HTL.out,hi.2]
      have q0:(t.toList == s.toList)=false:=by
       rw [beq_eq_false_iff_ne]
       intro h
       refine hts ?_
       apply ByteArray.ext
       apply Array.toList_inj.1
       rw [ByteArray.toList_eq,ByteArray.toList_eq] at h
       exact h
      have q1:(!t.toList == s.toList)=true:=by rw [q0];rfl
      go_wp2
      exact ps_no HB6.out HX6.out HN.out rfl rfl
   ·have HN:=Lib.hid (bad.out (.inr hnb))
    clear hnb
    go_wp2_with fail
    refine (HIX.out w3).mono ?_
    rintro e w4 ⟨rfl,rfl⟩
    have c0:∀ o,(w4.alloc o).cell? ⟨w.heap.size,0,none⟩=some (.int .i64 0):=fun o=>(HB3.out.alloc o).cell 0
    have c1:∀ o,(w4.alloc o).cell? ⟨w.heap.size,1,none⟩=some (.int .i64 0):=fun o=>(HB3.out.alloc o).cell 1
    have c2:∀ o,(w4.alloc o).cell? ⟨w.heap.size,2,none⟩=some (.int .i64 0):=fun o=>(HB3.out.alloc o).cell 2
    have f0:∀ o,(w4.alloc o).frozen? ⟨w.heap.size,0,none⟩=false:=fun o=>(HB3.out.alloc o).frozen 0
    have f1:∀ o,(w4.alloc o).frozen? ⟨w.heap.size,1,none⟩=false:=fun o=>(HB3.out.alloc o).frozen 1
    have f2:∀ o,(w4.alloc o).frozen? ⟨w.heap.size,2,none⟩=false:=fun o=>(HB3.out.alloc o).frozen 2
    go_wp2
    exact ps_no (HB3.out.alloc _) (Ext.trans HX3.out (Ext.alloc _ _)) HN.out rfl rfl
  ·have HN:=Lib.hid (bad.out (.inl hna))
   clear hna
   go_wp2_with fail
   refine (atoi_any b HBS.out w2 (HER.out.ext HX2.out)).mono ?_
   intro e w3 hp
   obtain ⟨hx3,hp⟩:=hp
   have HX3:Hid (Ext w w3):=Ext.trans HX2.out hx3
   have HB3:=Lib.hid (HB2.out.chg (Chg.of_below hx3) (by have:=HB2.out.lt;omega))
   clear hx3 HX2 HB2
   rcases hp with ⟨y,_,rfl⟩ | ⟨_,y,p,rfl⟩
   ·go_wp2_with fail
    refine (HIX.out w3).mono ?_
    rintro e w4 ⟨rfl,rfl⟩
    have c0:∀ o,(w4.alloc o).cell? ⟨w.heap.size,0,none⟩=some (.int .i64 0):=fun o=>(HB3.out.alloc o).cell 0
    have c1:∀ o,(w4.alloc o).cell? ⟨w.heap.size,1,none⟩=some (.int .i64 0):=fun o=>(HB3.out.alloc o).cell 1
    have c2:∀ o,(w4.alloc o).cell? ⟨w.heap.size,2,none⟩=some (.int .i64 0):=fun o=>(HB3.out.alloc o).cell 2
    have f0:∀ o,(w4.alloc o).frozen? ⟨w.heap.size,0,none⟩=false:=fun o=>(HB3.out.alloc o).frozen 0
    have f1:∀ o,(w4.alloc o).frozen? ⟨w.heap.size,1,none⟩=false:=fun o=>(HB3.out.alloc o).frozen 1
    have f2:∀ o,(w4.alloc o).frozen? ⟨w.heap.size,2,none⟩=false:=fun o=>(HB3.out.alloc o).frozen 2
    go_wp2
    exact ps_no (HB3.out.alloc _) (Ext.trans HX3.out (Ext.alloc _ _)) HN.out rfl rfl
   ·go_wp2_with fail
    refine (HIX.out w3).mono ?_
    rintro e w4 ⟨rfl,rfl⟩
    have c0:∀ o,(w4.alloc o).cell? ⟨w.heap.size,0,none⟩=some (.int .i64 0):=fun o=>(HB3.out.alloc o).cell 0
    have c1:∀ o,(w4.alloc o).cell? ⟨w.heap.size,1,none⟩=some (.int .i64 0):=fun o=>(HB3.out.alloc o).cell 1
    have c2:∀ o,(w4.alloc o).cell? ⟨w.heap.size,2,none⟩=some (.int .i64 0):=fun o=>(HB3.out.alloc o).cell 2
    have f0:∀ o,(w4.alloc o).frozen? ⟨w.heap.size,0,none⟩=false:=fun o=>(HB3.out.alloc o).frozen 0
    have f1:∀ o,(w4.alloc o).frozen? ⟨w.heap.size,1,none⟩=false:=fun o=>(HB3.out.alloc o).frozen 1
    have f2:∀ o,(w4.alloc o).frozen? ⟨w.heap.size,2,none⟩=false:=fun o=>(HB3.out.alloc o).frozen 2
    go_wp2
    exact ps_no (HB3.out.alloc _) (Ext.trans HX3.out (Ext.alloc _ _)) HN.out rfl rfl
open Go.Proofs Go.Shelf
def lays146_ren:Go.Shelf.Ren:=⟨fun | 138=>117 | 143=>118 | 146=>28 | 195=>153 | 197=>154 | 217=>108 | 218=>155 | 219=>69 | 221=>76 | 224=>110 | 225=>109 | 260=>197 | 266=>145 | 267=>111 | 268=>116 | 314=>146 | n=>n,fun | 0=>0 | 3=>3 | 4=>4 | 5=>5 | 9=>9 | 21=>21 | 31=>50 | 46=>172 | 51=>224 | 105=>227 | 119=>301 | 138=>303 | 139=>304 | 146=>225 | n=>n,fun | 1=>0 | 3=>5 | 4=>6 | n=>n⟩
theorem lays146:Go.Proofs.Lays.n146 Tryz.prog lays146_ren:={
 mixed:=by kernel_rfl,
 f138:=Tryz.func117.trans (congrArg some (by kernel_rfl)),
 f143:=Tryz.func118.trans (congrArg some (by kernel_rfl)),
 f146:=Tryz.func28.trans (congrArg some (by kernel_rfl)),
 f195:=Tryz.func153.trans (congrArg some (by kernel_rfl)),
 f197:=Tryz.func154.trans (congrArg some (by kernel_rfl)),
 f217:=Tryz.func108.trans (congrArg some (by kernel_rfl)),
 f218:=Tryz.func155.trans (congrArg some (by kernel_rfl)),
 f219:=Tryz.func69.trans (congrArg some (by kernel_rfl)),
 f221:=Tryz.func76.trans (congrArg some (by kernel_rfl)),
 f224:=Tryz.func110.trans (congrArg some (by kernel_rfl)),
 f225:=Tryz.func109.trans (congrArg some (by kernel_rfl)),
 f260:=Tryz.func197.trans (congrArg some (by kernel_rfl)),
 f266:=Tryz.func145.trans (congrArg some (by kernel_rfl)),
 f267:=Tryz.func111.trans (congrArg some (by kernel_rfl)),
 f268:=Tryz.func116.trans (congrArg some (by kernel_rfl)),
 f314:=Tryz.func146.trans (congrArg some (by kernel_rfl)),
 t0:=Tryz.underlying0,
 a0:=Tryz.isAgg0,
 z0:=Tryz.sizeOf0,
 v0:=Tryz.zeroValue0,
 t3:=Tryz.underlying3,
 a3:=Tryz.isAgg3,
 z3:=Tryz.sizeOf3,
 v3:=Tryz.zeroValue3,
 t4:=Tryz.underlying4,
 a4:=Tryz.isAgg4,
 z4:=Tryz.sizeOf4,
 v4:=Tryz.zeroValue4,
 t5:=Tryz.underlying5,
 a5:=Tryz.isAgg5,
 z5:=Tryz.sizeOf5,
 v5:=Tryz.zeroValue5,
 t9:=Tryz.underlying9,
 a9:=Tryz.isAgg9,
 z9:=Tryz.sizeOf9,
 v9:=Tryz.zeroValue9,
 t21:=Tryz.underlying21,
 a21:=Tryz.isAgg21,
 z21:=Tryz.sizeOf21,
 v21:=Tryz.zeroValue21,
 t31:=Tryz.underlying50,
 a31:=Tryz.isAgg50,
 z31:=Tryz.sizeOf50,
 v31:=Tryz.zeroValue50,
 t46:=Tryz.underlying172,
 a46:=Tryz.isAgg172,
 z46:=Tryz.sizeOf172,
 v46:=Tryz.zeroValue172,
 t51:=Tryz.underlying224,
 a51:=Tryz.isAgg224,
 z51:=Tryz.sizeOf224,
 v51:=Tryz.zeroValue224,
 t105:=Tryz.underlying227,
 a105:=Tryz.isAgg227,
 z105:=Tryz.sizeOf227,
 v105:=Tryz.zeroValue227,
 t119:=Tryz.underlying301,
 a119:=Tryz.isAgg301,
 z119:=Tryz.sizeOf301,
 t138:=Tryz.underlying303,
 a138:=Tryz.isAgg303,
 z138:=Tryz.sizeOf303,
 v138:=Tryz.zeroValue303,
 t139:=Tryz.underlying304,
 a139:=Tryz.isAgg304,
 z139:=Tryz.sizeOf304,
 v139:=Tryz.zeroValue304,
 t146:=Tryz.underlying225,
 a146:=Tryz.isAgg225,
 z146:=Tryz.sizeOf225,
 v146:=Tryz.zeroValue225,
 g1:=by kernel_rfl,
 g3:=by kernel_rfl,
 g4:=by kernel_rfl }
def lays103_ren:Go.Shelf.Ren:=⟨fun | 103=>26 | 206=>112 | 210=>71 | n=>n,fun | 3=>3 | 4=>4 | 9=>9 | 24=>75 | n=>n,fun | n=>n⟩
theorem lays103:Go.Proofs.Lays.n103 Tryz.prog lays103_ren:={
 mixed:=by kernel_rfl,
 f103:=Tryz.func26.trans (congrArg some (by kernel_rfl)),
 f206:=Tryz.func112.trans (congrArg some (by kernel_rfl)),
 f210:=Tryz.func71.trans (congrArg some (by kernel_rfl)),
 t3:=Tryz.underlying3,
 a3:=Tryz.isAgg3,
 z3:=Tryz.sizeOf3,
 v3:=Tryz.zeroValue3,
 t4:=Tryz.underlying4,
 a4:=Tryz.isAgg4,
 z4:=Tryz.sizeOf4,
 v4:=Tryz.zeroValue4,
 t9:=Tryz.underlying9,
 a9:=Tryz.isAgg9,
 z9:=Tryz.sizeOf9,
 v9:=Tryz.zeroValue9,
 t24:=Tryz.underlying75,
 a24:=Tryz.isAgg75,
 z24:=Tryz.sizeOf75,
 v24:=Tryz.zeroValue75 }
def lays156_ren:Go.Shelf.Ren:=⟨fun | 156=>88 | 165=>129 | 166=>11 | 169=>13 | 240=>24 | 241=>170 | 276=>70 | 277=>207 | n=>n,fun | 0=>0 | 3=>3 | 4=>4 | 5=>5 | 9=>9 | 20=>20 | 31=>50 | 37=>38 | 70=>37 | 72=>40 | 75=>27 | 76=>43 | 80=>45 | 127=>99 | 164=>124 | n=>n,fun | n=>n⟩
theorem lays156:Go.Proofs.Lays.n156 Tryz.prog lays156_ren:={
 mixed:=by kernel_rfl,
 f156:=Tryz.func88.trans (congrArg some (by kernel_rfl)),
 f165:=Tryz.func129.trans (congrArg some (by kernel_rfl)),
 f166:=Tryz.func11.trans (congrArg some (by kernel_rfl)),
 f169:=Tryz.func13.trans (congrArg some (by kernel_rfl)),
 f240:=Tryz.func24.trans (congrArg some (by kernel_rfl)),
 f241:=Tryz.func170.trans (congrArg some (by kernel_rfl)),
 f276:=Tryz.func70.trans (congrArg some (by kernel_rfl)),
 f277:=Tryz.func207.trans (congrArg some (by kernel_rfl)),
 t0:=Tryz.underlying0,
 a0:=Tryz.isAgg0,
 z0:=Tryz.sizeOf0,
 v0:=Tryz.zeroValue0,
 t3:=Tryz.underlying3,
 a3:=Tryz.isAgg3,
 z3:=Tryz.sizeOf3,
 v3:=Tryz.zeroValue3,
 t4:=Tryz.underlying4,
 a4:=Tryz.isAgg4,
 z4:=Tryz.sizeOf4,
 v4:=Tryz.zeroValue4,
 t9:=Tryz.underlying9,
 a9:=Tryz.isAgg9,
 z9:=Tryz.sizeOf9,
 v9:=Tryz.zeroValue9,
 t20:=Tryz.underlying20,
 a20:=Tryz.isAgg20,
 z20:=Tryz.sizeOf20,
 v20:=Tryz.zeroValue20,
 t31:=Tryz.underlying50,
 a31:=Tryz.isAgg50,
 z31:=Tryz.sizeOf50,
 v31:=Tryz.zeroValue50,
 t37:=Tryz.underlying38,
 a37:=Tryz.isAgg38,
 z37:=Tryz.sizeOf38,
 v37:=Tryz.zeroValue38,
 t70:=Tryz.underlying37,
 a70:=Tryz.isAgg37,
 z70:=Tryz.sizeOf37,
 v70:=Tryz.zeroValue37,
 t72:=Tryz.underlying40,
 a72:=Tryz.isAgg40,
 z72:=Tryz.sizeOf40,
 v72:=Tryz.zeroValue40,
 t75:=Tryz.underlying27,
 a75:=Tryz.isAgg27,
 z75:=Tryz.sizeOf27,
 v75:=Tryz.zeroValue27,
 t76:=Tryz.underlying43,
 a76:=Tryz.isAgg43,
 z76:=Tryz.sizeOf43,
 v76:=Tryz.zeroValue43,
 t127:=Tryz.underlying99,
 a127:=Tryz.isAgg99,
 z127:=Tryz.sizeOf99,
 v127:=Tryz.zeroValue99,
 t164:=Tryz.underlying124,
 a164:=Tryz.isAgg124,
 z164:=Tryz.sizeOf124,
 v164:=Tryz.zeroValue124 }
def lays171x_ren:Go.Shelf.Ren:=⟨fun | 129=>180 | 171=>31 | 243=>78 | 246=>121 | 283=>161 | 284=>162 | 285=>163 | 286=>164 | 317=>201 | 318=>202 | 319=>203 | 320=>204 | 337=>227 | 338=>228 | n=>n,fun | 0=>0 | 2=>2 | 3=>3 | 4=>4 | 5=>5 | 9=>9 | 20=>20 | 37=>38 | 46=>172 | 51=>224 | 53=>236 | 171=>235 | 173=>239 | 212=>282 | 213=>283 | 232=>159 | 233=>316 | n=>n,fun | 17=>4 | 18=>7 | 19=>8 | n=>n⟩
theorem lays171x:Go.Proofs.Lays.n171 Tryz.prog lays171x_ren:={
 mixed:=by kernel_rfl,
 f129:=Tryz.func180.trans (congrArg some (by kernel_rfl)),
 f171:=Tryz.func31.trans (congrArg some (by kernel_rfl)),
 f243:=Tryz.func78.trans (congrArg some (by kernel_rfl)),
 f246:=Tryz.func121.trans (congrArg some (by kernel_rfl)),
 f283:=Tryz.func161.trans (congrArg some (by kernel_rfl)),
 f284:=Tryz.func162.trans (congrArg some (by kernel_rfl)),
 f285:=Tryz.func163.trans (congrArg some (by kernel_rfl)),
 f286:=Tryz.func164.trans (congrArg some (by kernel_rfl)),
 f317:=Tryz.func201.trans (congrArg some (by kernel_rfl)),
 f318:=Tryz.func202.trans (congrArg some (by kernel_rfl)),
 f319:=Tryz.func203.trans (congrArg some (by kernel_rfl)),
 f320:=Tryz.func204.trans (congrArg some (by kernel_rfl)),
 f337:=Tryz.func227.trans (congrArg some (by kernel_rfl)),
 f338:=Tryz.func228.trans (congrArg some (by kernel_rfl)),
 t0:=Tryz.underlying0,
 a0:=Tryz.isAgg0,
 z0:=Tryz.sizeOf0,
 v0:=Tryz.zeroValue0,
 t2:=Tryz.underlying2,
 a2:=Tryz.isAgg2,
 z2:=Tryz.sizeOf2,
 v2:=Tryz.zeroValue2,
 t3:=Tryz.underlying3,
 a3:=Tryz.isAgg3,
 z3:=Tryz.sizeOf3,
 v3:=Tryz.zeroValue3,
 t4:=Tryz.underlying4,
 a4:=Tryz.isAgg4,
 z4:=Tryz.sizeOf4,
 v4:=Tryz.zeroValue4,
 t5:=Tryz.underlying5,
 a5:=Tryz.isAgg5,
 z5:=Tryz.sizeOf5,
 v5:=Tryz.zeroValue5,
 t9:=Tryz.underlying9,
 a9:=Tryz.isAgg9,
 z9:=Tryz.sizeOf9,
 v9:=Tryz.zeroValue9,
 t20:=Tryz.underlying20,
 a20:=Tryz.isAgg20,
 z20:=Tryz.sizeOf20,
 v20:=Tryz.zeroValue20,
 t37:=Tryz.underlying38,
 a37:=Tryz.isAgg38,
 z37:=Tryz.sizeOf38,
 v37:=Tryz.zeroValue38,
 t46:=Tryz.underlying172,
 a46:=Tryz.isAgg172,
 z46:=Tryz.sizeOf172,
 v46:=Tryz.zeroValue172,
 t51:=Tryz.underlying224,
 a51:=Tryz.isAgg224,
 z51:=Tryz.sizeOf224,
 v51:=Tryz.zeroValue224,
 t53:=Tryz.underlying236,
 a53:=Tryz.isAgg236,
 z53:=Tryz.sizeOf236,
 v53:=Tryz.zeroValue236,
 t171:=Tryz.underlying235,
 a171:=Tryz.isAgg235,
 z171:=Tryz.sizeOf235,
 v171:=Tryz.zeroValue235,
 t173:=Tryz.underlying239,
 a173:=Tryz.isAgg239,
 z173:=Tryz.sizeOf239,
 v173:=Tryz.zeroValue239,
 t212:=Tryz.underlying282,
 a212:=Tryz.isAgg282,
 z212:=Tryz.sizeOf282,
 v212:=Tryz.zeroValue282,
 t213:=Tryz.underlying283,
 a213:=Tryz.isAgg283,
 z213:=Tryz.sizeOf283,
 t232:=Tryz.underlying159,
 a232:=Tryz.isAgg159,
 z232:=Tryz.sizeOf159,
 v232:=Tryz.zeroValue159,
 t233:=Tryz.underlying316,
 a233:=Tryz.isAgg316,
 z233:=Tryz.sizeOf316,
 v233:=Tryz.zeroValue316,
 g17:=by kernel_rfl,
 g18:=by kernel_rfl,
 g19:=by kernel_rfl }
theorem lays171m:Go.Proofs.LaysM.n171 Tryz.prog lays171x_ren:={ lays171x with
 i0:=by kernel_rfl,
 i2:=by kernel_rfl,
 i3:=by kernel_rfl,
 i4:=by kernel_rfl,
 i5:=by kernel_rfl,
 i9:=by kernel_rfl,
 i20:=by kernel_rfl,
 i37:=by kernel_rfl,
 i46:=by kernel_rfl,
 i51:=by kernel_rfl,
 i53:=by kernel_rfl,
 i171:=by kernel_rfl,
 i173:=by kernel_rfl,
 i212:=by kernel_rfl,
 i232:=by kernel_rfl,
 i233:=by kernel_rfl,
 m17:=by kernel_rfl,
 m18:=by kernel_rfl,
 m19:=by kernel_rfl }
theorem builderX:Builder.Extra Tryz.prog lays156_ren:={
 sizeBuilder:=by kernel_rfl,
 liesBuilder:=by kernel_rfl,
 t5:=Tryz.underlying5,
 a5:=Tryz.isAgg5,
 z5:=Tryz.sizeOf5,
 v5:=Tryz.zeroValue5,
 infoByte:=by kernel_rfl,
 cellsByte:=by kernel_rfl,
 sizeByte:=by kernel_rfl,
 neB5:=by decide }
theorem psplit_any (s:ByteArray) (c:UInt8) (hs:s.size≤1000000) (w:World):
  Calls Tryz.prog 28 #[.string s,.string ⟨#[c]⟩] w fun e w'=>∃ ts:List ByteArray,ts.map (fun t=>t.data.toList)=RN.spc c [] s.data.toList∧e=.returned (.slice (some ⟨w.heap.size,0,none⟩) ts.length ts.length)∧w'=w.alloc (.cells (ts.map Value.string).toArray 9):=by
 have hlen:=Lib.splitB_all ⟨#[c]⟩ (Nat.le_refl 1) 0 _ s rfl
 have hi9:(Tryz.prog.info? 9).map (fun i=>(i.zero,i.size,i.bytes))=some (some (.string ByteArray.empty),1,16):=by kernel_rfl
 have core:=Any.strings_genSplit_core (P:=Tryz.prog) (ρ:=lays146_ren) { lays146 with } hi9 s ⟨#[c]⟩ 0 (-1) (Lib.countB s ⟨#[c]⟩+1) w (by omega) (Nat.le_refl 1) (Nat.zero_le _)
  (fun x cs hx=>by
   refine (Any.strings_Index_one { lays146 with } x c _).mono ?_
   rintro e w' ⟨he,hw⟩
   refine ⟨?_,hw⟩
   rw [he]
   unfold Lib.indexB
   rw [Lib.index_one])
  (by
   refine (Any.strings_Count_one { lays146 with } s c w).mono ?_
   rintro e w' ⟨he,hw⟩
   refine ⟨?_,hw⟩
   rw [he]
   show _=Ending.returned (Value.int .i64 ((Lib.count s.data.toList [c]:Nat):Int))
   rw [Lib.count_one]
   rfl)
  (by decide) (by decide) (by
   have:=Lib.countB_le ⟨#[c]⟩ (Nat.le_refl 1) s.size s (Nat.le_refl _)
   rw [if_pos (by decide)];omega)
 rw [Nat.add_sub_cancel,hlen] at core
 have e2:Lib.cellsOf (Lib.splitB ⟨#[c]⟩ 0 (Lib.countB s ⟨#[c]⟩) s) (Lib.countB s ⟨#[c]⟩+1)=((Lib.splitB ⟨#[c]⟩ 0 (Lib.countB s ⟨#[c]⟩) s).map Value.string).toArray:=by rw [←hlen];exact Lib.cellsOf_full _
 rw [e2] at core
 obtain ⟨ts,hts⟩:∃ ts,Lib.splitB ⟨#[c]⟩ 0 (Lib.countB s ⟨#[c]⟩) s=ts:=⟨_,rfl⟩
 rw [hts] at hlen core
 have hp:ts.map (fun t=>t.data.toList)=RN.spc c [] s.data.toList:=by
  have h1:=Lib.splitB_data ⟨#[c]⟩ 0 (Lib.countB s ⟨#[c]⟩) s
  rw [hts] at h1
  exact h1.trans (RN.splitK_spc c _ _ rfl)
 rw [←hlen] at core
 have HC:=Lib.hid core
 have HP:=Lib.hid hp
 clear core hp hts hlen e2
 go_enter Tryz.func28,Tryz.ntmps28
 go_wp2_with fail
 refine HC.out.mono ?_
 rintro e w' ⟨rfl,rfl⟩
 go_wp2
 go_ret
 exact ⟨ts,HP.out,rfl,rfl⟩
theorem pcutp_any (s p:ByteArray) (w:World):Calls Tryz.prog 26 #[.string s,.string p] w fun e w'=>e=.returned (.tuple #[.string ⟨(Lib.trimPrefix s.data.toList p.data.toList).toArray⟩,.bool (Lib.hasPrefix s.data.toList p.data.toList)])∧w'=w:=
 Any.strings_CutPrefix lays103 s p w
theorem pjoin_any (bk c:Nat) (xs:List ByteArray) (w:World) (hcells:∀ (j:Nat) x,xs[j]?=some x→w.cell? ⟨bk,j,none⟩=some (.string x)) (hbk:bk < w.heap.size) (hN:xs.length≤1000000) (hcap:xs.length≤c)
  (hlen:(Lib.join (xs.map (fun t=>t.data.toList)) [32]).length≤140737488355328):
  Calls Tryz.prog 88 #[.slice (some ⟨bk,0,none⟩) xs.length c,.string ⟨#[32]⟩] w fun e w'=>e=.returned (.string ⟨(Lib.join (xs.map (fun t=>t.data.toList)) [32]).toArray⟩)∧Ext w w':=
 Any.strings_Join lays156 builderX bk 0 c xs ⟨#[32]⟩ w (fun j x h=>by rw [Nat.zero_add];exact hcells j x h) hbk (by omega) hcap hlen
theorem bstring_any (B b:Nat) (l:List UInt8) (w:World) (h:Lib.IsBuilder 40 5 B b (Lib.byteCells l) w) (hBw:B≤w.heap.size):
  Calls Tryz.prog 13 #[.pointer (some ⟨b,0,none⟩)] w fun e w'=>e=.returned (.string ⟨l.toArray⟩)∧Below B w w':=
 Any.Builder_String_any (ρ:=lays156_ren) { lays156 with } builderX B b l w h hBw
theorem pitoa_any (n:Int) (h0:-9223372036854775808≤n) (h1:n≤9223372036854775807) (w:World) (htab:Lib.TabIs Tryz.prog w "internal/strconv.uint64pow10" .u64 Lib.pow10Tab):
  Calls Tryz.prog 31 #[.int .i64 n] w fun e w'=>e=.returned (.string ⟨(Lib.itoa n).toArray⟩)∧Ext w w':=by
 refine (Any.strconv_Itoa lays171m n h0 h1 w htab).mono ?_
 rintro e w' ⟨he,k,os,hw⟩
 refine ⟨he,?_⟩
 rw [hw]
 exact Lib.below_grow _ w (Nat.le_refl _) k os
end Go.Proofs.YtkoajpeabicpdaaGreatDoor
namespace Go.Proofs.YtkoajpeabicpdaaGreatDoor
open Go Go.RowKit
theorem nat_le8 {k:Nat} (h:k≤8):k=0∨k=1∨k=2∨k=3∨k=4∨k=5∨k=6∨k=7∨k=8:=by omega
theorem name_any (k:Nat) (h:k≤8) (w:World):Calls Tryz.prog 82 #[.int .i64 (k:Int)] w fun e w'=>e=.returned (.string ⟨(RN.nameOf k).toArray⟩)∧w'=w:=by
 rcases nat_le8 h with rfl | rfl | rfl | rfl | rfl | rfl | rfl | rfl | rfl
 all_goals
  go_enter Tryz.func82,Tryz.ntmps82
  go_wp2
  go_ret
  exact ⟨rfl,rfl⟩
theorem as_nil (w:World) (x:Value):Calls Tryz.prog 81 #[.nilIface,x] w fun e w'=>e=.returned (.bool false)∧w'=w:=by
 go_enter Tryz.func81,Tryz.ntmps81
 go_wp2
 go_ret
 exact ⟨rfl,rfl⟩
theorem answer_ok (s:ByteArray) (w:World):Calls Tryz.prog 34 #[.string s,.nilIface] w fun e w'=>e=.returned (.string s)∧Ext w w':=by
 go_enter Tryz.func34,Tryz.ntmps34
 go_wp2_with fail
 refine (as_nil _ _).mono ?_
 rintro e w' ⟨rfl,rfl⟩
 go_wp2
 go_ret
 exact ⟨rfl,Ext.alloc _ _⟩
theorem ext_al {w w':World} (h:Ext w w') (o:Obj):Ext w (w'.alloc o):=Below.alloc h h.size o
theorem answer_err (s:ByteArray) (k:Nat) (hk:k≤8) (w:World) (hg:Td.Door w):Calls Tryz.prog 34 #[.string s,.iface 52 (.int .i64 (k:Int))] w fun e w'=>e=.returned (.string ⟨(RN.nameOf k).toArray⟩)∧Ext w w':=by
 have HG:Hid (Td.Door (w.alloc (.cells #[.int .i64 0] 52))):=hg.new ((Below.refl _ _).alloc (Nat.le_refl _) _)
 clear hg
 go_enter Tryz.func34,Tryz.ntmps34
 go_wp2_with fail
 refine (Td.as_hit k ⟨w.heap.size,0,none⟩ (.int .i64 0) _ HG.out (by simp) (by simp)).mono ?_
 rintro e w' ⟨rfl,rfl⟩
 go_wp2_with fail
 refine (name_any k hk _).mono ?_
 rintro e w' ⟨rfl,rfl⟩
 go_wp2
 go_ret
 exact ⟨rfl,ext_al (ext_al (ext_al (ext_al (Ext.alloc w _) _) _) _) _⟩
theorem str_of {s:ByteArray} {l:List UInt8} (h:s.data.toList=l):s=⟨l.toArray⟩:=by
 apply ByteArray.ext
 apply Array.toList_inj.1
 rw [h]
theorem str_inj {a b:ByteArray} (h:a.toList=b.toList):a=b:=by
 rw [ByteArray.toList_eq,ByteArray.toList_eq] at h
 exact ByteArray.ext (Array.toList_inj.1 h)
def thrown:List PanicEntry:=[{ v:=.iface 73 (.agg #[]),recovered:=false }]
theorem sz_len (s:ByteArray):s.size=s.data.toList.length:=by rw [Array.length_toList];rfl
theorem itoa_nat (A:Nat):Lib.itoa (A:Int)=Lib.decDigits A:=by
 unfold Lib.itoa
 rw [if_neg (by omega)];simp
theorem number_ok (s:ByteArray) (A:Nat) (h:NT.numF s.data.toList=(A:Int)) (w:World) (he:Errs w) (ht:∀ w',Ext w w'→Lib.TabIs Tryz.prog w' "internal/strconv.uint64pow10" .u64 Lib.pow10Tab):
  Calls Tryz.prog 29 #[.string s] w fun e w'=>e=.returned (.int .i64 (A:Int))∧Ext w w':=by
 obtain ⟨h1,h2⟩:=RN.num_back h
 have hA:=RN.num_small h
 have hsz:=sz_len s
 have hat:Lib.atoiAll s.data.toList=.ok (A:Int):=by rw [h1];exact RN.atoi_dec (by rw [←h1];exact h2)
 have hit:(⟨(Lib.itoa (A:Int)).toArray⟩:ByteArray)=s:=by rw [itoa_nat];exact str_eq h1
 have z0:¬ ((A:Int) < 0):=by omega
 have z1:¬ (9:Int) < (s.size:Int):=by omega
 have HAT:=Lib.hid hat
 have HIT:=Lib.hid hit
 have HE:=Lib.hid he
 have HT:=Lib.hid ht
 have HS:Hid (s.size≤9∧A < 1000000000):=⟨by omega,hA⟩
 clear h h1 h2 hat hit he ht hsz hA
 go_enter Tryz.func29,Tryz.ntmps29
 go_wp2_with fail
 refine (atoi_any s (by have:=HS.out;omega) _ HE.out).mono ?_
 rintro e w1 ⟨hx,⟨v,hv,rfl⟩ | ⟨hn,_⟩⟩
 ·rw [HAT.out] at hv
  obtain rfl:(A:Int)=v:=by injection hv
  have HX:=Lib.hid hx
  clear hv hx
  go_wp2_with fail
  refine (pitoa_any (A:Int) (by omega) (by have:=HS.out;omega) _ (HT.out _ HX.out)).mono ?_
  rintro e w2 ⟨rfl,hx2⟩
  rw [HIT.out]
  have HX2:=Lib.hid hx2
  clear hx2
  go_wp2
  go_ret
  exact ⟨rfl,Ext.trans HX.out HX2.out⟩
 ·exact absurd HAT.out (hn _)
theorem number_bad (s:ByteArray) (hs:s.size≤1000000) (h:NT.numF s.data.toList=-1) (w:World) (he:Errs w) (ht:∀ w',Ext w w'→Lib.TabIs Tryz.prog w' "internal/strconv.uint64pow10" .u64 Lib.pow10Tab):
  Calls Tryz.prog 29 #[.string s] w fun e w'=>e=.panicked thrown∧Ext w w':=by
 have hsz:=sz_len s
 have hno:∀ A:Nat,s.data.toList=Lib.decDigits A→9 < s.size:=fun A hA=>by
  rcases Nat.lt_or_ge 9 s.size with q | q
  ·exact q
  ·rw [hA,RN.num_dec (by rw [←hA];omega)] at h;omega
 have HNO:=Lib.hid hno
 have HE:=Lib.hid he
 have HT:=Lib.hid ht
 have HS:=Lib.hid hs
 clear h he ht hsz hno hs
 go_enter Tryz.func29,Tryz.ntmps29
 go_wp2_with fail
 refine (atoi_any s (by have:=HS.out;omega) _ HE.out).mono ?_
 rintro e w1 ⟨hx,⟨v,hv,rfl⟩ | ⟨hn,x,p,rfl⟩⟩
 ·have HX:=Lib.hid hx
  have HV:Hid (-9223372036854775808≤v∧v≤9223372036854775807):=Lib.atoiAll_bounds hv
  clear hv hx
  by_cases h0:v < 0
  ·go_wp2
   exact ⟨rfl,rfl,HX.out⟩
  ·by_cases h9:(9:Int) < (s.size:Int)
   ·go_wp2
    exact ⟨rfl,rfl,HX.out⟩
   ·have hne:(⟨(Lib.itoa v).toArray⟩:ByteArray)≠s:=fun e=>by
     have h1:=HNO.out v.toNat (by rw [←e];unfold Lib.itoa;rw [if_neg h0])
     omega
    have HNE:=Lib.hid hne
    clear hne
    go_wp2_with fail
    refine (pitoa_any v HV.out.1 HV.out.2 _ (HT.out _ HX.out)).mono ?_
    rintro e w2 ⟨rfl,hx2⟩
    have HX2:=Lib.hid hx2
    clear hx2
    have hn:=HNE.out
    generalize (⟨(Lib.itoa v).toArray⟩:ByteArray)=y at hn ⊢
    have hb:(y.toList == s.toList)=false:=by rw [beq_eq_false_iff_ne];exact fun e=>hn (str_inj e)
    clear hn
    go_wp2
    exact ⟨rfl,rfl,Ext.trans HX.out HX2.out⟩
 ·have HX:=Lib.hid hx
  clear hx hn
  go_wp2
  exact ⟨rfl,rfl,HX.out⟩
end Go.Proofs.YtkoajpeabicpdaaGreatDoor
