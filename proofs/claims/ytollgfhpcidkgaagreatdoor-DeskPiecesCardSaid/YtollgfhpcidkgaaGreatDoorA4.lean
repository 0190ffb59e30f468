/- Texts that belong together; the first of them:  -/
import Derived.Shelf.Strings.Builder1
import Derived.Shelf.Strconv.Atoi
import Derived.Shelf.LaysM
import Derived.Shelf.Strconv.Itoa3
import Derived.Shelf.LaysC
import Derived.Shelf.Strconv.AtoiAll
import Derived.Shelf.Strings.FieldsFuncAny
import Derived.Shelf.Strings.FieldsFuncGrows
import Derived.Test.YtollgfhpcidkgaaGreatDoorProg
import Derived.Test.YtollgfhpcidkgaaGreatDoorA3
import Derived.Lib.AtoiAll
import Derived.Lib.ItoaNum
import Derived.Lib.Bytealg

section
namespace Go.Proofs
open Go.Shelf
def Tryz.lays172_ren:Go.Shelf.Ren:=⟨fun | 172=>165 | 244=>206 | 245=>207 | 247=>247 | 279=>248 | 280=>249 | 281=>250 | 282=>251 | 287=>271 | 316=>272 | 171=>51 | 205=>273 | 321=>280 | 322=>281 | 243=>103 | 246=>160 | 283=>201 | 284=>202 | 285=>203 | 286=>204 | 129=>241 | 317=>240 | 318=>242 | 319=>243 | 320=>244 | 337=>269 | 338=>270 | n=>n,fun | 9=>9 | 3=>3 | 75=>30 | 76=>64 | 4=>4 | 5=>5 | 167=>299 | 37=>39 | 0=>0 | 85=>300 | 2=>2 | 168=>302 | 53=>74 | 175=>187 | 46=>81 | 210=>316 | 127=>119 | 145=>326 | 143=>324 | 21=>21 | 171=>262 | 173=>265 | 212=>294 | 51=>77 | 20=>20 | 213=>295 | 232=>321 | 233=>322 | 80=>66 | n=>n,fun | 15=>6 | 16=>7 | 17=>5 | 18=>8 | 19=>9 | n=>n⟩
theorem Tryz.lays172:Go.Proofs.Lays.n172 Tryz.prog Tryz.lays172_ren:={
 mixed:=by kernel_rfl
 f129:=Tryz.func241.trans (congrArg some (by kernel_rfl))
 f171:=Tryz.func51.trans (congrArg some (by kernel_rfl))
 f172:=Tryz.func165.trans (congrArg some (by kernel_rfl))
 f205:=Tryz.func273.trans (congrArg some (by kernel_rfl))
 f243:=Tryz.func103.trans (congrArg some (by kernel_rfl))
 f244:=Tryz.func206.trans (congrArg some (by kernel_rfl))
 f245:=Tryz.func207.trans (congrArg some (by kernel_rfl))
 f246:=Tryz.func160.trans (congrArg some (by kernel_rfl))
 f247:=Tryz.func247.trans (congrArg some (by kernel_rfl))
 f279:=Tryz.func248.trans (congrArg some (by kernel_rfl))
 f280:=Tryz.func249.trans (congrArg some (by kernel_rfl))
 f281:=Tryz.func250.trans (congrArg some (by kernel_rfl))
 f282:=Tryz.func251.trans (congrArg some (by kernel_rfl))
 f283:=Tryz.func201.trans (congrArg some (by kernel_rfl))
 f284:=Tryz.func202.trans (congrArg some (by kernel_rfl))
 f285:=Tryz.func203.trans (congrArg some (by kernel_rfl))
 f286:=Tryz.func204.trans (congrArg some (by kernel_rfl))
 f287:=Tryz.func271.trans (congrArg some (by kernel_rfl))
 f316:=Tryz.func272.trans (congrArg some (by kernel_rfl))
 f317:=Tryz.func240.trans (congrArg some (by kernel_rfl))
 f318:=Tryz.func242.trans (congrArg some (by kernel_rfl))
 f319:=Tryz.func243.trans (congrArg some (by kernel_rfl))
 f320:=Tryz.func244.trans (congrArg some (by kernel_rfl))
 f321:=Tryz.func280.trans (congrArg some (by kernel_rfl))
 f322:=Tryz.func281.trans (congrArg some (by kernel_rfl))
 f337:=Tryz.func269.trans (congrArg some (by kernel_rfl))
 f338:=Tryz.func270.trans (congrArg some (by kernel_rfl))
 t0:=Tryz.underlying0
 a0:=Tryz.isAgg0
 z0:=Tryz.sizeOf0
 v0:=Tryz.zeroValue0
 t2:=Tryz.underlying2
 a2:=Tryz.isAgg2
 z2:=Tryz.sizeOf2
 v2:=Tryz.zeroValue2
 t3:=Tryz.underlying3
 a3:=Tryz.isAgg3
 z3:=Tryz.sizeOf3
 v3:=Tryz.zeroValue3
 t4:=Tryz.underlying4
 a4:=Tryz.isAgg4
 z4:=Tryz.sizeOf4
 v4:=Tryz.zeroValue4
 t5:=Tryz.underlying5
 a5:=Tryz.isAgg5
 z5:=Tryz.sizeOf5
 v5:=Tryz.zeroValue5
 t9:=Tryz.underlying9
 a9:=Tryz.isAgg9
 z9:=Tryz.sizeOf9
 v9:=Tryz.zeroValue9
 t20:=Tryz.underlying20
 a20:=Tryz.isAgg20
 z20:=Tryz.sizeOf20
 v20:=Tryz.zeroValue20
 t21:=Tryz.underlying21
 a21:=Tryz.isAgg21
 z21:=Tryz.sizeOf21
 v21:=Tryz.zeroValue21
 t37:=Tryz.underlying39
 a37:=Tryz.isAgg39
 z37:=Tryz.sizeOf39
 v37:=Tryz.zeroValue39
 t46:=Tryz.underlying81
 a46:=Tryz.isAgg81
 z46:=Tryz.sizeOf81
 v46:=Tryz.zeroValue81
 t51:=Tryz.underlying77
 a51:=Tryz.isAgg77
 z51:=Tryz.sizeOf77
 v51:=Tryz.zeroValue77
 t53:=Tryz.underlying74
 a53:=Tryz.isAgg74
 z53:=Tryz.sizeOf74
 v53:=Tryz.zeroValue74
 t75:=Tryz.underlying30
 a75:=Tryz.isAgg30
 z75:=Tryz.sizeOf30
 v75:=Tryz.zeroValue30
 t76:=Tryz.underlying64
 a76:=Tryz.isAgg64
 z76:=Tryz.sizeOf64
 v76:=Tryz.zeroValue64
 t85:=Tryz.underlying300
 a85:=Tryz.isAgg300
 z85:=Tryz.sizeOf300
 v85:=Tryz.zeroValue300
 t127:=Tryz.underlying119
 a127:=Tryz.isAgg119
 z127:=Tryz.sizeOf119
 v127:=Tryz.zeroValue119
 t143:=Tryz.underlying324
 a143:=Tryz.isAgg324
 z143:=Tryz.sizeOf324
 v143:=Tryz.zeroValue324
 t145:=Tryz.underlying326
 a145:=Tryz.isAgg326
 z145:=Tryz.sizeOf326
 v145:=Tryz.zeroValue326
 t167:=Tryz.underlying299
 a167:=Tryz.isAgg299
 z167:=Tryz.sizeOf299
 v167:=Tryz.zeroValue299
 t168:=Tryz.underlying302
 a168:=Tryz.isAgg302
 z168:=Tryz.sizeOf302
 v168:=Tryz.zeroValue302
 t171:=Tryz.underlying262
 a171:=Tryz.isAgg262
 z171:=Tryz.sizeOf262
 v171:=Tryz.zeroValue262
 t173:=Tryz.underlying265
 a173:=Tryz.isAgg265
 z173:=Tryz.sizeOf265
 v173:=Tryz.zeroValue265
 t175:=Tryz.underlying187
 a175:=Tryz.isAgg187
 z175:=Tryz.sizeOf187
 v175:=Tryz.zeroValue187
 t210:=Tryz.underlying316
 a210:=Tryz.isAgg316
 z210:=Tryz.sizeOf316
 v210:=Tryz.zeroValue316
 t212:=Tryz.underlying294
 a212:=Tryz.isAgg294
 z212:=Tryz.sizeOf294
 v212:=Tryz.zeroValue294
 t213:=Tryz.underlying295
 a213:=Tryz.isAgg295
 z213:=Tryz.sizeOf295
 t232:=Tryz.underlying321
 a232:=Tryz.isAgg321
 z232:=Tryz.sizeOf321
 v232:=Tryz.zeroValue321
 t233:=Tryz.underlying322
 a233:=Tryz.isAgg322
 z233:=Tryz.sizeOf322
 v233:=Tryz.zeroValue322
 g15:=by kernel_rfl
 g16:=by kernel_rfl
 g17:=by kernel_rfl
 g18:=by kernel_rfl
 g19:=by kernel_rfl }
open Go.RowKit in
theorem Tryz.strconv_Atoi (s:ByteArray) (n:Int) (hl:s.size≤18) (h:Lib.atoi s.data.toList=some n) (w:World) :
 Calls Tryz.prog 165 #[.string s] w fun e w'=>e=.returned (.tuple #[.int .i64 n,.nilIface])∧∃ t,w'=Lib.bytesWorld w 5 t:=Any.strconv_Atoi Tryz.lays172 s n hl h w
def Tryz.laysM171_ren:Go.Shelf.Ren:=⟨fun | 171=>51 | 243=>103 | 246=>160 | 283=>201 | 284=>202 | 285=>203 | 286=>204 | 129=>241 | 317=>240 | 318=>242 | 319=>243 | 320=>244 | 337=>269 | 338=>270 | n=>n,fun | 3=>3 | 9=>9 | 2=>2 | 4=>4 | 171=>262 | 0=>0 | 53=>74 | 37=>39 | 5=>5 | 173=>265 | 212=>294 | 51=>77 | 20=>20 | 213=>295 | 46=>81 | 232=>321 | 233=>322 | n=>n,fun | 17=>5 | 18=>8 | 19=>9 | n=>n⟩
theorem Tryz.laysM171:Go.Proofs.LaysM.n171 Tryz.prog Tryz.laysM171_ren:={
 mixed:=by kernel_rfl
 f129:=Tryz.func241.trans (congrArg some (by kernel_rfl))
 f171:=Tryz.func51.trans (congrArg some (by kernel_rfl))
 f243:=Tryz.func103.trans (congrArg some (by kernel_rfl))
 f246:=Tryz.func160.trans (congrArg some (by kernel_rfl))
 f283:=Tryz.func201.trans (congrArg some (by kernel_rfl))
 f284:=Tryz.func202.trans (congrArg some (by kernel_rfl))
 f285:=Tryz.func203.trans (congrArg some (by kernel_rfl))
 f286:=Tryz.func204.trans (congrArg some (by kernel_rfl))
 f317:=Tryz.func240.trans (congrArg some (by kernel_rfl))
 f318:=Tryz.func242.trans (congrArg some (by kernel_rfl))
 f319:=Tryz.func243.trans (congrArg some (by kernel_rfl))
 f320:=Tryz.func244.trans (congrArg some (by kernel_rfl))
 f337:=Tryz.func269.trans (congrArg some (by kernel_rfl))
 f338:=Tryz.func270.trans (congrArg some (by kernel_rfl))
 t0:=Tryz.underlying0
 a0:=Tryz.isAgg0
 z0:=Tryz.sizeOf0
 v0:=Tryz.zeroValue0
 t2:=Tryz.underlying2
 a2:=Tryz.isAgg2
 z2:=Tryz.sizeOf2
 v2:=Tryz.zeroValue2
 t3:=Tryz.underlying3
 a3:=Tryz.isAgg3
 z3:=Tryz.sizeOf3
 v3:=Tryz.zeroValue3
 t4:=Tryz.underlying4
 a4:=Tryz.isAgg4
 z4:=Tryz.sizeOf4
 v4:=Tryz.zeroValue4
 t5:=Tryz.underlying5
 a5:=Tryz.isAgg5
 z5:=Tryz.sizeOf5
 v5:=Tryz.zeroValue5
 t9:=Tryz.underlying9
 a9:=Tryz.isAgg9
 z9:=Tryz.sizeOf9
 v9:=Tryz.zeroValue9
 t20:=Tryz.underlying20
 a20:=Tryz.isAgg20
 z20:=Tryz.sizeOf20
 v20:=Tryz.zeroValue20
 t37:=Tryz.underlying39
 a37:=Tryz.isAgg39
 z37:=Tryz.sizeOf39
 v37:=Tryz.zeroValue39
 t46:=Tryz.underlying81
 a46:=Tryz.isAgg81
 z46:=Tryz.sizeOf81
 v46:=Tryz.zeroValue81
 t51:=Tryz.underlying77
 a51:=Tryz.isAgg77
 z51:=Tryz.sizeOf77
 v51:=Tryz.zeroValue77
 t53:=Tryz.underlying74
 a53:=Tryz.isAgg74
 z53:=Tryz.sizeOf74
 v53:=Tryz.zeroValue74
 t171:=Tryz.underlying262
 a171:=Tryz.isAgg262
 z171:=Tryz.sizeOf262
 v171:=Tryz.zeroValue262
 t173:=Tryz.underlying265
 a173:=Tryz.isAgg265
 z173:=Tryz.sizeOf265
 v173:=Tryz.zeroValue265
 t212:=Tryz.underlying294
 a212:=Tryz.isAgg294
 z212:=Tryz.sizeOf294
 v212:=Tryz.zeroValue294
 t213:=Tryz.underlying295
 a213:=Tryz.isAgg295
 z213:=Tryz.sizeOf295
 t232:=Tryz.underlying321
 a232:=Tryz.isAgg321
 z232:=Tryz.sizeOf321
 v232:=Tryz.zeroValue321
 t233:=Tryz.underlying322
 a233:=Tryz.isAgg322
 z233:=Tryz.sizeOf322
 v233:=Tryz.zeroValue322
 g17:=by kernel_rfl
 g18:=by kernel_rfl
 g19:=by kernel_rfl
 i0:=by kernel_rfl
 i2:=by kernel_rfl
 i3:=by kernel_rfl
 i4:=by kernel_rfl
 i5:=by kernel_rfl
 i9:=by kernel_rfl
 i20:=by kernel_rfl
 i37:=by kernel_rfl
 i46:=by kernel_rfl
 i51:=by kernel_rfl
 i53:=by kernel_rfl
 i171:=by kernel_rfl
 i173:=by kernel_rfl
 i212:=by kernel_rfl
 i232:=by kernel_rfl
 i233:=by kernel_rfl
 m17:=by kernel_rfl
 m18:=by kernel_rfl
 m19:=by kernel_rfl }
open Go.RowKit Go.Sort Go.Lib in
theorem Tryz.strconv_Itoa (n:Int) (h0 : -9223372036854775808≤n) (h1:n≤9223372036854775807) (w:World) (htab:Lib.TabIs Tryz.prog w "internal/strconv.uint64pow10" .u64 Lib.pow10Tab) :
 Calls Tryz.prog 51 #[.int .i64 n] w fun e w'=>e=.returned (.string ⟨(Lib.itoa n).toArray⟩)∧∃ k os,w'=grow (w.drewN k) os:=Any.strconv_Itoa Tryz.laysM171 n h0 h1 w htab
def Tryz.laysC172_ren:Go.Shelf.Ren:=⟨fun | 172=>165 | 244=>206 | 245=>207 | 247=>247 | 279=>248 | 280=>249 | 281=>250 | 282=>251 | 287=>271 | 316=>272 | 171=>51 | 205=>273 | 321=>280 | 322=>281 | 243=>103 | 246=>160 | 283=>201 | 284=>202 | 285=>203 | 286=>204 | 129=>241 | 317=>240 | 318=>242 | 319=>243 | 320=>244 | 337=>269 | 338=>270 | n=>n,fun | 9=>9 | 3=>3 | 75=>30 | 76=>64 | 4=>4 | 5=>5 | 167=>299 | 37=>39 | 0=>0 | 85=>300 | 2=>2 | 168=>302 | 53=>74 | 175=>187 | 46=>81 | 210=>316 | 127=>119 | 145=>326 | 143=>324 | 21=>21 | 171=>262 | 173=>265 | 212=>294 | 51=>77 | 20=>20 | 213=>295 | 232=>321 | 233=>322 | 80=>66 | n=>n,fun | 15=>6 | 16=>7 | 17=>5 | 18=>8 | 19=>9 | n=>n⟩
theorem Tryz.laysC172:Go.Proofs.LaysC.n172 Tryz.prog Tryz.laysC172_ren:={
 mixed:=by kernel_rfl
 f129:=Tryz.func241.trans (congrArg some (by kernel_rfl))
 f171:=Tryz.func51.trans (congrArg some (by kernel_rfl))
 f172:=Tryz.func165.trans (congrArg some (by kernel_rfl))
 f205:=Tryz.func273.trans (congrArg some (by kernel_rfl))
 f243:=Tryz.func103.trans (congrArg some (by kernel_rfl))
 f244:=Tryz.func206.trans (congrArg some (by kernel_rfl))
 f245:=Tryz.func207.trans (congrArg some (by kernel_rfl))
 f246:=Tryz.func160.trans (congrArg some (by kernel_rfl))
 f247:=Tryz.func247.trans (congrArg some (by kernel_rfl))
 f279:=Tryz.func248.trans (congrArg some (by kernel_rfl))
 f280:=Tryz.func249.trans (congrArg some (by kernel_rfl))
 f281:=Tryz.func250.trans (congrArg some (by kernel_rfl))
 f282:=Tryz.func251.trans (congrArg some (by kernel_rfl))
 f283:=Tryz.func201.trans (congrArg some (by kernel_rfl))
 f284:=Tryz.func202.trans (congrArg some (by kernel_rfl))
 f285:=Tryz.func203.trans (congrArg some (by kernel_rfl))
 f286:=Tryz.func204.trans (congrArg some (by kernel_rfl))
 f287:=Tryz.func271.trans (congrArg some (by kernel_rfl))
 f316:=Tryz.func272.trans (congrArg some (by kernel_rfl))
 f317:=Tryz.func240.trans (congrArg some (by kernel_rfl))
 f318:=Tryz.func242.trans (congrArg some (by kernel_rfl))
 f319:=Tryz.func243.trans (congrArg some (by kernel_rfl))
 f320:=Tryz.func244.trans (congrArg some (by kernel_rfl))
 f321:=Tryz.func280.trans (congrArg some (by kernel_rfl))
 f322:=Tryz.func281.trans (congrArg some (by kernel_rfl))
 f337:=Tryz.func269.trans (congrArg some (by kernel_rfl))
 f338:=Tryz.func270.trans (congrArg some (by kernel_rfl))
 t0:=Tryz.underlying0
 a0:=Tryz.isAgg0
 z0:=Tryz.sizeOf0
 v0:=Tryz.zeroValue0
 t2:=Tryz.underlying2
 a2:=Tryz.isAgg2
 z2:=Tryz.sizeOf2
 v2:=Tryz.zeroValue2
 t3:=Tryz.underlying3
 a3:=Tryz.isAgg3
 z3:=Tryz.sizeOf3
 v3:=Tryz.zeroValue3
 t4:=Tryz.underlying4
 a4:=Tryz.isAgg4
 z4:=Tryz.sizeOf4
 v4:=Tryz.zeroValue4
 t5:=Tryz.underlying5
 a5:=Tryz.isAgg5
 z5:=Tryz.sizeOf5
 v5:=Tryz.zeroValue5
 t9:=Tryz.underlying9
 a9:=Tryz.isAgg9
 z9:=Tryz.sizeOf9
 v9:=Tryz.zeroValue9
 t20:=Tryz.underlying20
 a20:=Tryz.isAgg20
 z20:=Tryz.sizeOf20
 v20:=Tryz.zeroValue20
 t21:=Tryz.underlying21
 a21:=Tryz.isAgg21
 z21:=Tryz.sizeOf21
 v21:=Tryz.zeroValue21
 t37:=Tryz.underlying39
 a37:=Tryz.isAgg39
 z37:=Tryz.sizeOf39
 v37:=Tryz.zeroValue39
 t46:=Tryz.underlying81
 a46:=Tryz.isAgg81
 z46:=Tryz.sizeOf81
 v46:=Tryz.zeroValue81
 t51:=Tryz.underlying77
 a51:=Tryz.isAgg77
 z51:=Tryz.sizeOf77
 v51:=Tryz.zeroValue77
 t53:=Tryz.underlying74
 a53:=Tryz.isAgg74
 z53:=Tryz.sizeOf74
 v53:=Tryz.zeroValue74
 t75:=Tryz.underlying30
 a75:=Tryz.isAgg30
 z75:=Tryz.sizeOf30
 v75:=Tryz.zeroValue30
 t76:=Tryz.underlying64
 a76:=Tryz.isAgg64
 z76:=Tryz.sizeOf64
 v76:=Tryz.zeroValue64
 t85:=Tryz.underlying300
 a85:=Tryz.isAgg300
 z85:=Tryz.sizeOf300
 v85:=Tryz.zeroValue300
 t127:=Tryz.underlying119
 a127:=Tryz.isAgg119
 z127:=Tryz.sizeOf119
 v127:=Tryz.zeroValue119
 t143:=Tryz.underlying324
 a143:=Tryz.isAgg324
 z143:=Tryz.sizeOf324
 v143:=Tryz.zeroValue324
 t145:=Tryz.underlying326
 a145:=Tryz.isAgg326
 z145:=Tryz.sizeOf326
 v145:=Tryz.zeroValue326
 t167:=Tryz.underlying299
 a167:=Tryz.isAgg299
 z167:=Tryz.sizeOf299
 v167:=Tryz.zeroValue299
 t168:=Tryz.underlying302
 a168:=Tryz.isAgg302
 z168:=Tryz.sizeOf302
 v168:=Tryz.zeroValue302
 t171:=Tryz.underlying262
 a171:=Tryz.isAgg262
 z171:=Tryz.sizeOf262
 v171:=Tryz.zeroValue262
 t173:=Tryz.underlying265
 a173:=Tryz.isAgg265
 z173:=Tryz.sizeOf265
 v173:=Tryz.zeroValue265
 t175:=Tryz.underlying187
 a175:=Tryz.isAgg187
 z175:=Tryz.sizeOf187
 v175:=Tryz.zeroValue187
 t210:=Tryz.underlying316
 a210:=Tryz.isAgg316
 z210:=Tryz.sizeOf316
 v210:=Tryz.zeroValue316
 t212:=Tryz.underlying294
 a212:=Tryz.isAgg294
 z212:=Tryz.sizeOf294
 v212:=Tryz.zeroValue294
 t213:=Tryz.underlying295
 a213:=Tryz.isAgg295
 z213:=Tryz.sizeOf295
 t232:=Tryz.underlying321
 a232:=Tryz.isAgg321
 z232:=Tryz.sizeOf321
 v232:=Tryz.zeroValue321
 t233:=Tryz.underlying322
 a233:=Tryz.isAgg322
 z233:=Tryz.sizeOf322
 v233:=Tryz.zeroValue322
 g15:=by kernel_rfl
 g16:=by kernel_rfl
 g17:=by kernel_rfl
 g18:=by kernel_rfl
 g19:=by kernel_rfl
 t80:=Tryz.underlying66
 a80:=Tryz.isAgg66
 z80:=Tryz.sizeOf66
 v80:=Tryz.zeroValue66
 i0:=by kernel_rfl
 i2:=by kernel_rfl
 i3:=by kernel_rfl
 i4:=by kernel_rfl
 i5:=by kernel_rfl
 i9:=by kernel_rfl
 i20:=by kernel_rfl
 i21:=by kernel_rfl
 i37:=by kernel_rfl
 i46:=by kernel_rfl
 i51:=by kernel_rfl
 i53:=by kernel_rfl
 i75:=by kernel_rfl
 i76:=by kernel_rfl
 i80:=by kernel_rfl
 i85:=by kernel_rfl
 i127:=by kernel_rfl
 i143:=by kernel_rfl
 i145:=by kernel_rfl
 i167:=by kernel_rfl
 i168:=by kernel_rfl
 i171:=by kernel_rfl
 i173:=by kernel_rfl
 i175:=by kernel_rfl
 i210:=by kernel_rfl
 i212:=by kernel_rfl
 i232:=by kernel_rfl
 i233:=by kernel_rfl
 m15:=by kernel_rfl
 m16:=by kernel_rfl
 m17:=by kernel_rfl
 m18:=by kernel_rfl
 m19:=by kernel_rfl
 c0:=by kernel_rfl
 c2:=by kernel_rfl
 c3:=by kernel_rfl
 c4:=by kernel_rfl
 c5:=by kernel_rfl
 c9:=by kernel_rfl
 c20:=by kernel_rfl
 c21:=by kernel_rfl
 c37:=by kernel_rfl
 c46:=by kernel_rfl
 c51:=by kernel_rfl
 c53:=by kernel_rfl
 c75:=by kernel_rfl
 c76:=by kernel_rfl
 c80:=by kernel_rfl
 c85:=by kernel_rfl
 c127:=by kernel_rfl
 c143:=by kernel_rfl
 c145:=by kernel_rfl
 c167:=by kernel_rfl
 c168:=by kernel_rfl
 c171:=by kernel_rfl
 c173:=by kernel_rfl
 c175:=by kernel_rfl
 c210:=by kernel_rfl
 c212:=by kernel_rfl
 c213:=by kernel_rfl
 c232:=by kernel_rfl
 c233:=by kernel_rfl }
open Go.RowKit in
theorem Tryz.strconv_Atoi_ok (s:ByteArray) (hmax:s.size≤9223372036854775806) (v:Int) (h:Lib.atoiAll s.data.toList=.ok v) (w:World) :
 Calls Tryz.prog 165 #[.string s] w fun e w'=>e=.returned (.tuple #[.int .i64 v,.nilIface])∧(w'=w∨∃ t,w'=Lib.bytesWorld w 5 t):=Any.strconv_Atoi_ok Tryz.laysC172 s hmax v h w
def Tryz.lays229_ren:Go.Shelf.Ren:=⟨fun | 229=>53 | n=>n,fun | 9=>9 | 40=>114 | 31=>27 | 152=>161 | 3=>3 | 0=>0 | 4=>4 | 21=>21 | 154=>163 | n=>n,fun | n=>n⟩
theorem Tryz.lays229:Go.Proofs.Lays.n229 Tryz.prog Tryz.lays229_ren:={
 mixed:=by kernel_rfl
 f229:=Tryz.func53.trans (congrArg some (by kernel_rfl))
 t0:=Tryz.underlying0
 a0:=Tryz.isAgg0
 z0:=Tryz.sizeOf0
 v0:=Tryz.zeroValue0
 t3:=Tryz.underlying3
 a3:=Tryz.isAgg3
 z3:=Tryz.sizeOf3
 v3:=Tryz.zeroValue3
 t4:=Tryz.underlying4
 a4:=Tryz.isAgg4
 z4:=Tryz.sizeOf4
 v4:=Tryz.zeroValue4
 t9:=Tryz.underlying9
 a9:=Tryz.isAgg9
 z9:=Tryz.sizeOf9
 v9:=Tryz.zeroValue9
 t21:=Tryz.underlying21
 a21:=Tryz.isAgg21
 z21:=Tryz.sizeOf21
 v21:=Tryz.zeroValue21
 t31:=Tryz.underlying27
 a31:=Tryz.isAgg27
 z31:=Tryz.sizeOf27
 v31:=Tryz.zeroValue27
 t40:=Tryz.underlying114
 a40:=Tryz.isAgg114
 z40:=Tryz.sizeOf114
 v40:=Tryz.zeroValue114
 t152:=Tryz.underlying161
 a152:=Tryz.isAgg161
 z152:=Tryz.sizeOf161
 v152:=Tryz.zeroValue161
 t154:=Tryz.underlying163
 a154:=Tryz.isAgg163
 z154:=Tryz.sizeOf163
 v154:=Tryz.zeroValue163 }
open Go.RowKit Go.Lib in
theorem Tryz.strings_FieldsFunc_runes (g:Nat) (lb:Array Value) (eg:∀ args w,(callFunc g args).run Tryz.prog w=.ok (.enter g args) w) (p:Nat→Bool) (s:ByteArray) (w:World) (hs:s.size≤4294967296) (hp:PredAtRunes Tryz.prog g lb p w) :
 Calls Tryz.prog 53 #[.string s,.func (.func g) #[] lb] w fun e w'=>∃ A,e=.returned (.slice (some ⟨A,0,none⟩) (Lib.goFieldsP p s).length (Lib.goFieldsP p s).length)∧w.heap.size≤A ∧
  w'.ownsRow w.heap.size 9 1 (.slice (some ⟨A,0,none⟩) (Lib.goFieldsP p s).length (Lib.goFieldsP p s).length) (Lib.goFieldsP p s).length ((Lib.goFieldsP p s).map Value.string)∧Below w.heap.size w w':=Any.strings_FieldsFunc_runes Tryz.lays229 g lb eg p s w hs hp (by kernel_rfl) (by kernel_rfl)
open Go.RowKit Go.Lib in
theorem Tryz.strings_FieldsFunc (g:Nat) (lb:Array Value) (eg:∀ args w,(callFunc g args).run Tryz.prog w=.ok (.enter g args) w) (p:Nat→Bool) (s:ByteArray) (w:World) (hs:s.size≤4294967296) (hp:PredAt Tryz.prog g lb encR p w) :
 Calls Tryz.prog 53 #[.string s,.func (.func g) #[] lb] w fun e w'=>∃ A,e=.returned (.slice (some ⟨A,0,none⟩) (Lib.goFieldsP p s).length (Lib.goFieldsP p s).length)∧w.heap.size≤A ∧
  w'.ownsRow w.heap.size 9 1 (.slice (some ⟨A,0,none⟩) (Lib.goFieldsP p s).length (Lib.goFieldsP p s).length) (Lib.goFieldsP p s).length ((Lib.goFieldsP p s).map Value.string)∧Below w.heap.size w w':=Any.strings_FieldsFunc Tryz.lays229 g lb eg p s w hs hp (by kernel_rfl) (by kernel_rfl)
open Go.RowKit Go.Lib in
theorem Tryz.strings_FieldsFunc_grows (g:Nat) (lb:Array Value) (eg:∀ args w,(callFunc g args).run Tryz.prog w=.ok (.enter g args) w) (p:Nat→Bool) (s:ByteArray) (w:World) (hs:s.size≤4294967296) (hp:PredGrows Tryz.prog g lb p w) :
 Calls Tryz.prog 53 #[.string s,.func (.func g) #[] lb] w fun e w'=>∃ A,e=.returned (.slice (some ⟨A,0,none⟩) (Lib.goFieldsP p s).length (Lib.goFieldsP p s).length)∧w.heap.size≤A ∧
  w'.ownsRow w.heap.size 9 1 (.slice (some ⟨A,0,none⟩) (Lib.goFieldsP p s).length (Lib.goFieldsP p s).length) (Lib.goFieldsP p s).length ((Lib.goFieldsP p s).map Value.string)∧Below w.heap.size w w':=Any.strings_FieldsFunc_grows Tryz.lays229 g lb eg p s w hs hp (by kernel_rfl) (by kernel_rfl)

end Go.Proofs
end

section
open Go Go.Proofs Go.Mac
set_option maxRecDepth 100000
namespace Go.Mac
section
abbrev rowStr (s:List UInt8):List FC:=[.str s]

section

variable {K:KP}

theorem litCut {s:List UInt8} {c:UInt8} {i:Nat} (hi:Lib.indexByte s c=i) (hl:i+1≤s.length) (hs:s.length≤1000) (h:K (.tup [.c (.f (.str (s.take i))),.c (.f (.str (s.drop (i+1)))),.c (.f (.bool true))]) [] []) :
 Does Tryz.prog 262 [st s,st [c]] [] K:=by
 refine does Tryz.func262 rfl (by decide) ?_
 change Does Tryz.prog 154 _ _ _
 refine strIndex s c ?_
 rw [hi]
 refine SS.drawR follows (by decide) ?_
 have wi:IntKind.i64.wrap ((i:Int)+([c].length:Nat))=((i+1:Nat):Int):=wrap_i64 _ (by simp;omega) (by simp;omega)
 refine at2 (by omega) (by omega) ?_
 refine at2 (by rw [wi];omega) (by rw [wi];omega) ?_
 have e1:List.take ((i:Int).toNat-0) (List.drop 0 s)=s.take i:=by simp
 have e2:List.take (s.length-(IntKind.i64.wrap ((i:Int)+([c].length:Nat))).toNat) (List.drop (IntKind.i64.wrap ((i:Int)+([c].length:Nat))).toNat s)=s.drop (i+1):=by rw [wi,Int.toNat_natCast,List.take_of_length_le];simp
 have w0:(0:Int)≤IntKind.i64.wrap ((i:Int)+([c].length:Nat)):=by rw [wi];omega
 have w1:IntKind.i64.wrap ((i:Int)+([c].length:Nat))≤(s.length:Int):=by rw [wi];omega
 rw [←e1,←e2] at h
 repeat' (first | refine And.intro rfl ?_ | refine And.intro (And.intro w0 (And.intro w1 rfl)) ?_ | fail)
 exact h

theorem cut {s:List UInt8} {c:UInt8} {i:Nat} (hi:Lib.indexByte s c=i) (hl:i+1≤s.length) (hs:s.length≤1000) (h:K (.tup [.c (.f (.str (s.take i))),.c (.f (.str (s.drop (i+1)))),.c (.f (.bool true))]) [] []) :
 Does Tryz.prog 223 [st s,st [c]] [] K:=by
 refine does Tryz.func223 rfl (by decide) ?_
 change Does Tryz.prog 262 _ _ _
 refine litCut hi hl hs ?_
 exact h

theorem index1 (s:List UInt8) (c:UInt8) (h:K (i64 (Lib.indexByte s c)) [] []):Does Tryz.prog 95 [st s,st [c]] [] K:=by
 refine does Tryz.func95 rfl (by decide) ?_
 change Does Tryz.prog 154 _ _ _
 refine strIndex s c ?_
 exact h

theorem Rel.grow8 {B R:Nat→Prop} {w0:World} {L:Nat→Loc} {H:List PO} {w w':World} (h:Rel B R w0 L H w) (hb:Bel (fun k=>k<w.heap.size) w w'):Rel B R w0 L H w':=by
 have hB:∀ b,B b→w'.heap[b]? = w.heap[b]?:=fun b hb'=>hb.block b (h.size b hb')
 refine ⟨h.below.trans ⟨hb.os,hb.tape,hb.output,hb.size,hB⟩,h.start,fun i o hi=>?_,fun i o b hi ho=>?_,h.ro,h.sub⟩
 · have:=(h.obj i o hi).mono (M:=[]) (w':=w') (Nat.le_refl _) (Agree.refl _ _ _) fun b hob=>by
    rcases hob with ho | hr
    · exact hb.block b (h.own i o b hi ho).2.1
    · exact hB b (h.sub b (h.ro i o b hi hr))
   rwa [killO_nil] at this
 · obtain ⟨h1,h2,h3⟩:=h.own i o b hi ho
   exact ⟨h1,Nat.lt_of_lt_of_le h2 hb.size,h3⟩

theorem bytes_grown (w:World) (e:TypeId) (s:ByteArray):Bel (fun k=>k<w.heap.size) w (Lib.bytesWorld w e s):=by
 refine ⟨rfl,rfl,rfl,by rw [Lib.bytesWorld_size];omega,fun k hk=>Lib.bytesWorld_at_old w e s k hk⟩

theorem drewN_grown (w:World) (k:Nat) (os:Array Obj):Bel (fun k=>k<w.heap.size) w (Go.Sort.grow (w.drewN k) os):=by
 refine ⟨rfl,rfl,rfl,?_,fun j hj=>?_⟩
 · show w.heap.size≤(w.heap++os).size
   rw [Array.size_append];omega
 · show (w.heap++os)[j]? = w.heap[j]?
   rw [Array.getElem?_append_left hj]

abbrev powH:PO:=.tab 5 (Lib.pow10Tab.map fun z=>.int .u64 z)

theorem pow_named:Tryz.prog.globalNamed "internal/strconv.uint64pow10" = some 5:=by kernel_rfl

theorem strItoa (n:Int) (h0 : -9223372036854775808≤n) (h1:n≤9223372036854775807) (h:K (st (Lib.itoa n)) [] [powH]):Does Tryz.prog 51 [i64 n] [powH] K:=by
 refine ⟨⟨_,Tryz.func51,by decide,rfl⟩,fun B R w0 L w vs hrel hvs=>?_⟩
 obtain ⟨_,_,rfl,rfl,rfl⟩:=hvs
 obtain ⟨t,fr,hg⟩:=hrel.obj 0 _ rfl
 have htab:Lib.TabIs Tryz.prog w "internal/strconv.uint64pow10" .u64 Lib.pow10Tab:=by
  unfold Lib.TabIs World.var?
  rw [pow_named]
  show (match w.heap[_]? with | some (Obj.cells cs _ _)=>some cs | _=>none)=_
  rw [hg,List.map_map]
  rfl
 refine (Go.Proofs.Tryz.strconv_Itoa n h0 h1 w htab).mono ?_
 rintro e w' ⟨rfl,k,os,rfl⟩
 exact ⟨_,rfl,L,st (Lib.itoa n),[],[powH],Agree.refl _ _ _,Nat.le_refl 1,rfl,hrel.grow8 (drewN_grown _ _ _),h⟩

end
end
section
structure PartsS (c:UInt8) (n:Nat) (ps rs:List (List UInt8)):Prop where
 ln:ps.length=n+1
 step:∀ i,i<n→∃ r p r',rs[i]? = some r∧ps[i]? = some p∧rs[i+1]? = some r'∧Lib.indexByte r c=p.length∧p.length+1≤r.length∧r.length≤1000∧r.take p.length=p∧r.drop (p.length+1)=r'
 last:rs[n]? = ps[n]?

section

variable {K:KP}

end
end
end Go.Mac
end
section
namespace Go.Mac
open Go

theorem atoi_range {l:List UInt8} {v:Int} (h:Lib.atoiAll l=.ok v) : -9223372036854775808≤v∧v≤9223372036854775807:=by
 unfold Lib.atoiAll at h
 split at h
 · cases h
 · dsimp only at h
   split at h
   · cases h
   · cases h
   · rename_i u _
     split at h
     · cases h
     · split at h
       · cases h
       · injection h with h
         subst h
         split <;> omega

def tokV (t:List UInt8):Option Int :=
 match Lib.atoiAll t with
 | .ok v=>if Lib.itoa v=t then some v else none
 | _=>none

theorem decDigits_len:∀ (k u:Nat),u<10 ^ (k+1)→(Lib.decDigits u).length≤k+1
 | 0,u,h=>by
   rw [Lib.decDigits,dif_pos (by simpa using h)];simp
 | k+1,u,h=>by
   rw [Lib.decDigits]
   split
   · simp
   · rw [List.length_append]
     have:=decDigits_len k (u / 10) (by rw [Nat.pow_succ] at h;omega)
     simp;omega

theorem itoa_len {n:Int} (h0 : -9223372036854775808≤n) (h1:n≤9223372036854775807):(Lib.itoa n).length≤20:=by
 unfold Lib.itoa
 split
 · have:=decDigits_len 18 n.natAbs (by rw [show (10:Nat) ^ (18+1)=10000000000000000000 from rfl];omega)
   simp;omega
 · have:=decDigits_len 18 n.toNat (by rw [show (10:Nat) ^ (18+1)=10000000000000000000 from rfl];omega)
   omega

end Go.Mac
end

section
namespace Go.Mac
open Go

def splitB (c:UInt8):List UInt8→List (List UInt8)
 | []=>[[]]
 | b::s=>if b=c then []::splitB c s else match splitB c s with
   | p::ps=>(b::p)::ps
   | []=>[[b]]

def joinB (c:UInt8):List (List UInt8)→List UInt8
 | []=>[]
 | [p]=>p
 | p::q::ps=>p++c::joinB c (q::ps)

theorem split_ne (c:UInt8):∀ s,splitB c s≠[]
 | []=>by simp [splitB]
 | b::s=>by
   unfold splitB
   split
   · simp
   · split <;> simp

theorem joinB_cons {c:UInt8} {p:List UInt8} {ps:List (List UInt8)} (h:ps≠[]):joinB c (p::ps)=p++c::joinB c ps:=by
 cases ps with
 | nil=>exact absurd rfl h
 | cons q qs=>rfl

theorem joinB_one {c:UInt8} {p:List UInt8}:joinB c [p]=p:=rfl

theorem join_split (c:UInt8):∀ s,joinB c (splitB c s)=s
 | []=>rfl
 | b::s=>by
   have ih:=join_split c s
   have hne:=split_ne c s
   unfold splitB
   split
   · rename_i hb
     rw [joinB_cons hne,ih,hb]
     rfl
   · split
     · rename_i p ps hp
       rw [hp] at ih
       cases ps with
       | nil=>rw [joinB_one] at ih ⊢;rw [ih]
       | cons q qs =>
         rw [joinB_cons (by simp)] at ih ⊢
         rw [List.cons_append,ih]
     · rename_i hp
       exact absurd hp hne

theorem split_free (c:UInt8):∀ s,∀ p∈splitB c s,c∉p
 | [],p,hp=>by
   rw [splitB,List.mem_singleton] at hp
   subst hp;simp
 | b::s,p,hp=>by
   have ih:=split_free c s
   unfold splitB at hp
   split at hp
   · rcases List.mem_cons.1 hp with rfl | hp
     · simp
     · exact ih p hp
   · rename_i hb
     split at hp
     · rename_i q qs hq
       rw [hq] at ih
       rcases List.mem_cons.1 hp with rfl | hp
       · intro hm
         rcases List.mem_cons.1 hm with e | hm
         · exact hb e.symm
         · exact ih q (by simp) hm
       · exact ih p (by simp [hp])
     · rename_i hq
       exact absurd hq (split_ne c s)

theorem split_mem_len {c:UInt8}:∀ (s p:List UInt8),p∈splitB c s→p.length≤s.length
 | [],p,hp=>by
   rw [splitB,List.mem_singleton] at hp
   subst hp;simp
 | b::s,p,hp=>by
   have ih:=split_mem_len (c:=c) s
   unfold splitB at hp
   split at hp
   · rcases List.mem_cons.1 hp with rfl | hp
     · simp
     · have:=ih p hp
       simp;omega
   · split at hp
     · rename_i q qs hq
       rw [hq] at ih
       rcases List.mem_cons.1 hp with rfl | hp
       · have:=ih q (by simp)
         simp;omega
       · have:=ih p (by simp [hp])
         simp;omega
     · rw [List.mem_singleton] at hp
       subst hp
       simp

theorem split_app {c:UInt8} {r:List UInt8}:∀ {p:List UInt8},c∉p→splitB c (p++c::r)=p::splitB c r
 | [],_=>by
   rw [List.nil_append,splitB,if_pos rfl]
 | b::p,h=>by
   simp only [List.mem_cons,not_or] at h
   rw [List.cons_append,splitB,if_neg (fun e=>h.1 e.symm),split_app h.2]

theorem split_one {c:UInt8}:∀ {p:List UInt8},c∉p→splitB c p=[p]
 | [],_=>rfl
 | b::p,h=>by
   simp only [List.mem_cons,not_or] at h
   rw [splitB,if_neg (fun e=>h.1 e.symm),split_one h.2]

theorem count_free {c:UInt8} {p:List UInt8} (h:c∉p):Lib.countByte p c=0:=List.count_eq_zero.2 h

theorem count_join {c:UInt8}:∀ {ps:List (List UInt8)},ps≠[]→(∀ p∈ps,c∉p)→Lib.countByte (joinB c ps) c+1=ps.length
 | [],h,_=>absurd rfl h
 | [p],_,h=>by rw [joinB_one,count_free (h p (by simp))];rfl
 | p::q::ps,_,h=>by
   have ih:=count_join (c:=c) (ps:=q::ps) (by simp) (fun x hx=>h x (by simp [hx]))
   have h0:=count_free (h p (by simp))
   rw [joinB_cons (by simp)]
   unfold Lib.countByte at ih h0 ⊢
   rw [List.count_append,h0,List.count_cons_self]
   simp only [List.length_cons] at ih ⊢
   omega

theorem split_len (c:UInt8) (s:List UInt8):(splitB c s).length=Lib.countByte s c+1:=by
 rw [←count_join (split_ne c s) (split_free c s),join_split]

theorem index_app {c:UInt8} {r:List UInt8}:∀ {p:List UInt8},c∉p→Lib.indexByte (p++c::r) c=p.length
 | [],_=>by
   show Lib.indexByte (c::r) c=_
   rw [Lib.indexByte,if_pos (by simp)]
   rfl
 | b::p,h=>by
   simp only [List.mem_cons,not_or] at h
   rw [List.cons_append,Lib.indexByte,if_neg (by simpa using fun e:b=c=>h.1 e.symm),index_app h.2,if_neg (by simp)]
   simp

theorem index_free {c:UInt8}:∀ {p:List UInt8},c∉p→Lib.indexByte p c = -1
 | [],_=>rfl
 | b::p,h=>by
   simp only [List.mem_cons,not_or] at h
   rw [Lib.indexByte,if_neg (by simpa using fun e:b=c=>h.1 e.symm),index_free h.2]
   rfl

def cutB (c:UInt8):List UInt8→Option (List UInt8×List UInt8)
 | []=>none
 | b::s=>if b=c then some ([],s) else (cutB c s).map fun x=>(b::x.1,x.2)

theorem cut_some {c:UInt8}:∀ {s p r:List UInt8},cutB c s=some (p,r)→s=p++c::r∧c∉p
 | [],_,_,h=>by cases h
 | b::s,p,r,h=>by
   unfold cutB at h
   split at h
   · rename_i hb
     cases h
     exact ⟨by rw [hb];rfl,by simp⟩
   · rename_i hb
     rw [Option.map_eq_some_iff] at h
     obtain ⟨⟨p',r'⟩,h1,h2⟩:=h
     cases h2
     obtain ⟨h3,h4⟩:=cut_some h1
     refine ⟨by rw [h3];rfl,fun hm=>?_⟩
     rcases List.mem_cons.1 hm with e | hm
     · exact hb e.symm
     · exact h4 hm

theorem cut_none {c:UInt8}:∀ {s:List UInt8},cutB c s=none→c∉s
 | [],_=>by simp
 | b::s,h=>by
   unfold cutB at h
   split at h
   · cases h
   · rename_i hb
     rw [Option.map_eq_none_iff] at h
     intro hm
     rcases List.mem_cons.1 hm with e | hm
     · exact hb e.symm
     · exact cut_none h hm

end Go.Mac
end

section
open Go Go.Proofs Go.Mac
set_option maxRecDepth 100000
namespace Go.Mac
section
structure PartsG (c:UInt8) (n:Nat) (ps rs:List (List UInt8)):Prop where
 ln:ps.length=n+1
 step:∀ i,i<n→∃ r p r',rs[i]? = some r∧ps[i]? = some p∧rs[i+1]? = some r'∧Lib.indexByte r c=p.length∧p.length+1≤r.length∧r.length≤1000000000∧r.take p.length=p∧r.drop (p.length+1)=r'
 last:rs[n]? = ps[n]?

theorem count_len {c:UInt8} (s:List UInt8):Lib.countByte s c≤s.length:=List.count_le_length

section

variable {K:KP}

theorem litCutG {s:List UInt8} {c:UInt8} {i:Nat} (hi:Lib.indexByte s c=i) (hl:i+1≤s.length) (hs:s.length≤1000000000) (h:K (.tup [.c (.f (.str (s.take i))),.c (.f (.str (s.drop (i+1)))),.c (.f (.bool true))]) [] []) :
 Does Tryz.prog 262 [st s,st [c]] [] K:=by
 refine does Tryz.func262 rfl (by decide) ?_
 change Does Tryz.prog 154 _ _ _
 refine strIndex s c ?_
 rw [hi]
 refine SS.drawR follows (by decide) ?_
 have wi:IntKind.i64.wrap ((i:Int)+([c].length:Nat))=((i+1:Nat):Int):=wrap_i64 _ (by simp;omega) (by simp;omega)
 refine at2 (by omega) (by omega) ?_
 refine at2 (by rw [wi];omega) (by rw [wi];omega) ?_
 have e1:List.take ((i:Int).toNat-0) (List.drop 0 s)=s.take i:=by simp
 have e2:List.take (s.length-(IntKind.i64.wrap ((i:Int)+([c].length:Nat))).toNat) (List.drop (IntKind.i64.wrap ((i:Int)+([c].length:Nat))).toNat s)=s.drop (i+1):=by rw [wi,Int.toNat_natCast,List.take_of_length_le];simp
 have w0:(0:Int)≤IntKind.i64.wrap ((i:Int)+([c].length:Nat)):=by rw [wi];omega
 have w1:IntKind.i64.wrap ((i:Int)+([c].length:Nat))≤(s.length:Int):=by rw [wi];omega
 rw [←e1,←e2] at h
 repeat' (first | refine And.intro rfl ?_ | refine And.intro (And.intro w0 (And.intro w1 rfl)) ?_ | fail)
 exact h

theorem cutG {s:List UInt8} {c:UInt8} {i:Nat} (hi:Lib.indexByte s c=i) (hl:i+1≤s.length) (hs:s.length≤1000000000) (h:K (.tup [.c (.f (.str (s.take i))),.c (.f (.str (s.drop (i+1)))),.c (.f (.bool true))]) [] []) :
 Does Tryz.prog 223 [st s,st [c]] [] K:=by
 refine does Tryz.func223 rfl (by decide) ?_
 change Does Tryz.prog 262 _ _ _
 refine litCutG hi hl hs ?_
 exact h

theorem litCutNo {s:List UInt8} {c:UInt8} (hi:Lib.indexByte s c = -1) (h:K (.tup [.c (.f (.str s)),.c (.f (.str [])),.c (.f (.bool false))]) [] []) :
 Does Tryz.prog 262 [st s,st [c]] [] K:=by
 refine does Tryz.func262 rfl (by decide) ?_
 change Does Tryz.prog 154 _ _ _
 refine strIndex s c ?_
 rw [hi]
 exact h

theorem cutAll {s:List UInt8} {c:UInt8} (hs:s.length≤1000000000) (h1:∀ l r,cutB c s=some (l,r)→K (.tup [.c (.f (.str l)),.c (.f (.str r)),.c (.f (.bool true))]) [] [])
 (h0:cutB c s=none→K (.tup [.c (.f (.str s)),.c (.f (.str [])),.c (.f (.bool false))]) [] []):Does Tryz.prog 223 [st s,st [c]] [] K:=by
 cases hc:cutB c s with
 | none =>
   refine does Tryz.func223 rfl (by decide) ?_
   change Does Tryz.prog 262 _ _ _
   refine litCutNo (index_free (cut_none hc)) ?_
   exact h0 hc
 | some x =>
   obtain ⟨l,r⟩:=x
   obtain ⟨e1,e2⟩:=cut_some hc
   refine cutG (i:=l.length) (by rw [e1];exact index_app e2) (by rw [e1];simp) hs ?_
   have h:=h1 l r hc
   rw [e1,show (l++c::r).take l.length=l from by simp,show (l++c::r).drop (l.length+1)=r from by rw [List.drop_append];simp]
   exact h

end

section

variable {K:KP}

end

abbrev errS:PO:=.errv 6
abbrev errR:PO:=.errv 7

theorem Rel.below8 {B R:Nat→Prop} {w0:World} {L:Nat→Loc} {H:List PO} {w w':World} (h:Rel B R w0 L H w) (hb:Go.RowKit.Below w.heap.size w w'):Rel B R w0 L H w':=h.grow8 ⟨hb.os,hb.tape,hb.output,hb.size,hb.block⟩

section

variable {K:KP}

theorem atoiText (s:List UInt8) (hl:s.length≤1000000000) (h1:∀ v,Lib.atoiAll s=.ok v→K (.tup [.c (.f (.int .i64 v)),.c .niliface]) [] [errS,errR])
 (h0:(∀ v,Lib.atoiAll s≠.ok v)→∀ n:Int,K (.tup [.c (.f (.int .i64 n)),.c (.iface 302 .junk)]) [] [errS,errR]):Does Tryz.prog 165 [st s] [errS,errR] K:=by
 refine ⟨⟨_,Tryz.func165,by decide,rfl⟩,fun B R w0 L w vs hrel hvs=>?_⟩
 obtain ⟨_,_,rfl,rfl,rfl⟩:=hvs
 obtain ⟨tS,pS,hS⟩:=hrel.obj 0 _ rfl
 obtain ⟨tR,pR,hR⟩:=hrel.obj 1 _ rfl
 have hsz:(ByteArray.mk s.toArray).size=s.length:=rfl
 rcases ha:Lib.atoiAll s with v | _ | _
 · refine (Go.Proofs.Tryz.strconv_Atoi_ok ⟨s.toArray⟩ (by rw [hsz];omega) v ha w).mono ?_
   rintro e w' ⟨rfl,hw⟩
   refine ⟨_,rfl,L,.tup [.c (.f (.int .i64 v)),.c .niliface],[],[errS,errR],Agree.refl _ _ _,Nat.le_refl _,⟨_,rfl,_,_,rfl,rfl,_,_,rfl,rfl,rfl⟩,?_,h1 v ha⟩
   rcases hw with rfl | ⟨t,rfl⟩
   · exact hrel
   · exact hrel.grow8 (bytes_grown _ _ _)
 · refine (Go.Proofs.Any.strconv_Atoi_syntax Go.Proofs.Tryz.laysC172 ⟨s.toArray⟩ (by rw [hsz];omega) ha _ w hS (.inr ⟨_,_,rfl⟩)).mono ?_
   rintro e w' ⟨N,rfl,_,_,hw⟩
   exact ⟨_,rfl,L,.tup [.c (.f (.int .i64 _)),.c (.iface 302 .junk)],[],[errS,errR],Agree.refl _ _ _,Nat.le_refl _,⟨_,rfl,_,_,rfl,rfl,_,_,rfl,⟨_,rfl,rfl⟩,rfl⟩,hrel.below8 hw,h0 (fun v hv=>by rw [ha] at hv;cases hv) _⟩
 · refine (Go.Proofs.Any.strconv_Atoi_range Go.Proofs.Tryz.laysC172 ⟨s.toArray⟩ (by rw [hsz];omega) ha _ w hR (.inr ⟨_,_,rfl⟩)).mono ?_
   rintro e w' ⟨N,rfl,_,_,hw⟩
   exact ⟨_,rfl,L,.tup [.c (.f (.int .i64 _)),.c (.iface 302 .junk)],[],[errS,errR],Agree.refl _ _ _,Nat.le_refl _,⟨_,rfl,_,_,rfl,rfl,_,_,rfl,⟨_,rfl,rfl⟩,rfl⟩,hrel.below8 hw,h0 (fun v hv=>by rw [ha] at hv;cases hv) _⟩

end
end
end Go.Mac
end
