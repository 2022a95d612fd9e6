/- strconv.Atoi: the library's contract, laid at this program. (Printed by wip/tools/gen_desk.py for one seat: the numbers are that seat's.) -/
import Derived.Shelf.Strconv.Atoi
import Derived.Test.YtmgfbmkfomebcaaGreatDoorRows
import Derived.Shelf.Strconv.Itoa3
import Derived.Shelf.Strings.Split
import Derived.Shelf.Strings.SlTrimAscii
import Derived.Shelf.Strings.FieldsFuncAny
import Derived.Test.YtmgfbmkfomebcaaGreatDoorDkM29
import Derived.Test.YtmgfbmkfomebcaaGreatDoorDkM7
import Derived.WalkSmall
import Derived.Lib.SmallJoins
import Derived.WalkLawsBesides
set_option linter.unusedVariables false
set_option linter.unusedSimpArgs false
set_option maxHeartbeats 1000000
namespace Go.Proofs.YtmgfbmkfomebcaaGreatDoor
open Go.Shelf Go.RowKit
def JK:Go.Shelf.Ren:=⟨fun|172=>41|244=>73|245=>74|247=>104|279=>105|280=>106|281=>107|282=>108|287=>137|316=>138|171=>16|205=>139|321=>158|322=>159|243=>31|246=>57|283=>88|284=>89|285=>90|286=>91|129=>122|317=>121|318=>123|319=>124|320=>125|337=>147|338=>148|n=>n,fun|9=>9|3=>3|75=>97|76=>98|4=>4|5=>5|167=>154|37=>113|0=>0|85=>155|2=>2|168=>157|53=>144|175=>195|46=>123|210=>198|127=>219|145=>222|143=>220|21=>21|171=>143|173=>147|212=>181|51=>163|20=>20|213=>182|232=>229|233=>230|80=>208|n=>n,fun|15=>4|16=>5|17=>3|18=>6|19=>7|n=>n⟩
theorem zeV:Go.Proofs.Lays.n172 Tryz.prog JK:={
 mixed:=by kernel_rfl
 f129:=Tryz.func122.trans (congrArg some (by kernel_rfl))
 f171:=Tryz.func16.trans (congrArg some (by kernel_rfl))
 f172:=Tryz.func41.trans (congrArg some (by kernel_rfl))
 f205:=Tryz.func139.trans (congrArg some (by kernel_rfl))
 f243:=Tryz.func31.trans (congrArg some (by kernel_rfl))
 f244:=Tryz.func73.trans (congrArg some (by kernel_rfl))
 f245:=Tryz.func74.trans (congrArg some (by kernel_rfl))
 f246:=Tryz.func57.trans (congrArg some (by kernel_rfl))
 f247:=Tryz.func104.trans (congrArg some (by kernel_rfl))
 f279:=Tryz.func105.trans (congrArg some (by kernel_rfl))
 f280:=Tryz.func106.trans (congrArg some (by kernel_rfl))
 f281:=Tryz.func107.trans (congrArg some (by kernel_rfl))
 f282:=Tryz.func108.trans (congrArg some (by kernel_rfl))
 f283:=Tryz.func88.trans (congrArg some (by kernel_rfl))
 f284:=Tryz.func89.trans (congrArg some (by kernel_rfl))
 f285:=Tryz.func90.trans (congrArg some (by kernel_rfl))
 f286:=Tryz.func91.trans (congrArg some (by kernel_rfl))
 f287:=Tryz.func137.trans (congrArg some (by kernel_rfl))
 f316:=Tryz.func138.trans (congrArg some (by kernel_rfl))
 f317:=Tryz.func121.trans (congrArg some (by kernel_rfl))
 f318:=Tryz.func123.trans (congrArg some (by kernel_rfl))
 f319:=Tryz.func124.trans (congrArg some (by kernel_rfl))
 f320:=Tryz.func125.trans (congrArg some (by kernel_rfl))
 f321:=Tryz.func158.trans (congrArg some (by kernel_rfl))
 f322:=Tryz.func159.trans (congrArg some (by kernel_rfl))
 f337:=Tryz.func147.trans (congrArg some (by kernel_rfl))
 f338:=Tryz.func148.trans (congrArg some (by kernel_rfl))
 t0:=Tryz.underlying0
 a0:=Tryz.isAgg0
 z0:=Tryz.sizeOf0
 v0:=Tryz.zeroValue0
 t2:=Tryz.underlying2
 a2:=Tryz.isAgg2
 z2:=Tryz.sizeOf2
 v2:=Tryz.zeroValue2
 t3:=Tryz.underlying3
 a3:=Tryz.isAgg3
 z3:=Tryz.sizeOf3
 v3:=Tryz.zeroValue3
 t4:=Tryz.underlying4
 a4:=Tryz.isAgg4
 z4:=Tryz.sizeOf4
 v4:=Tryz.zeroValue4
 t5:=Tryz.underlying5
 a5:=Tryz.isAgg5
 z5:=Tryz.sizeOf5
 v5:=Tryz.zeroValue5
 t9:=Tryz.underlying9
 a9:=Tryz.isAgg9
 z9:=Tryz.sizeOf9
 v9:=Tryz.zeroValue9
 t20:=Tryz.underlying20
 a20:=Tryz.isAgg20
 z20:=Tryz.sizeOf20
 v20:=Tryz.zeroValue20
 t21:=Tryz.underlying21
 a21:=Tryz.isAgg21
 z21:=Tryz.sizeOf21
 v21:=Tryz.zeroValue21
 t37:=Tryz.underlying113
 a37:=Tryz.isAgg113
 z37:=Tryz.sizeOf113
 v37:=Tryz.zeroValue113
 t46:=Tryz.underlying123
 a46:=Tryz.isAgg123
 z46:=Tryz.sizeOf123
 v46:=Tryz.zeroValue123
 t51:=Tryz.underlying163
 a51:=Tryz.isAgg163
 z51:=Tryz.sizeOf163
 v51:=Tryz.zeroValue163
 t53:=Tryz.underlying144
 a53:=Tryz.isAgg144
 z53:=Tryz.sizeOf144
 v53:=Tryz.zeroValue144
 t75:=Tryz.underlying97
 a75:=Tryz.isAgg97
 z75:=Tryz.sizeOf97
 v75:=Tryz.zeroValue97
 t76:=Tryz.underlying98
 a76:=Tryz.isAgg98
 z76:=Tryz.sizeOf98
 v76:=Tryz.zeroValue98
 t85:=Tryz.underlying155
 a85:=Tryz.isAgg155
 z85:=Tryz.sizeOf155
 v85:=Tryz.zeroValue155
 t127:=Tryz.underlying219
 a127:=Tryz.isAgg219
 z127:=Tryz.sizeOf219
 v127:=Tryz.zeroValue219
 t143:=Tryz.underlying220
 a143:=Tryz.isAgg220
 z143:=Tryz.sizeOf220
 v143:=Tryz.zeroValue220
 t145:=Tryz.underlying222
 a145:=Tryz.isAgg222
 z145:=Tryz.sizeOf222
 v145:=Tryz.zeroValue222
 t167:=Tryz.underlying154
 a167:=Tryz.isAgg154
 z167:=Tryz.sizeOf154
 v167:=Tryz.zeroValue154
 t168:=Tryz.underlying157
 a168:=Tryz.isAgg157
 z168:=Tryz.sizeOf157
 v168:=Tryz.zeroValue157
 t171:=Tryz.underlying143
 a171:=Tryz.isAgg143
 z171:=Tryz.sizeOf143
 v171:=Tryz.zeroValue143
 t173:=Tryz.underlying147
 a173:=Tryz.isAgg147
 z173:=Tryz.sizeOf147
 v173:=Tryz.zeroValue147
 t175:=Tryz.underlying195
 a175:=Tryz.isAgg195
 z175:=Tryz.sizeOf195
 v175:=Tryz.zeroValue195
 t210:=Tryz.underlying198
 a210:=Tryz.isAgg198
 z210:=Tryz.sizeOf198
 v210:=Tryz.zeroValue198
 t212:=Tryz.underlying181
 a212:=Tryz.isAgg181
 z212:=Tryz.sizeOf181
 v212:=Tryz.zeroValue181
 t213:=Tryz.underlying182
 a213:=Tryz.isAgg182
 z213:=Tryz.sizeOf182
 t232:=Tryz.underlying229
 a232:=Tryz.isAgg229
 z232:=Tryz.sizeOf229
 v232:=Tryz.zeroValue229
 t233:=Tryz.underlying230
 a233:=Tryz.isAgg230
 z233:=Tryz.sizeOf230
 v233:=Tryz.zeroValue230
 g15:=by kernel_rfl
 g16:=by kernel_rfl
 g17:=by kernel_rfl
 g18:=by kernel_rfl
 g19:=by kernel_rfl}
theorem zeW(s:ByteArray)(n:Int)(hl:s.size<=18)(h:Lib.atoi s.data.toList=some n)(w:World):
 Calls Tryz.prog 41 #[.string s] w fun e w'=>e=.returned (.tuple #[.int .i64 n,.nilIface])/\∃t,w'=Lib.bytesWorld w 5 t:=
 Any.strconv_Atoi zeV s n hl h w
def JD:Go.Shelf.Ren:=⟨fun|171=>16|243=>31|246=>57|283=>88|284=>89|285=>90|286=>91|129=>122|317=>121|318=>123|319=>124|320=>125|337=>147|338=>148|n=>n,fun|3=>3|9=>9|2=>2|4=>4|171=>143|0=>0|53=>144|37=>113|5=>5|173=>147|212=>181|51=>163|20=>20|213=>182|46=>123|232=>229|233=>230|n=>n,fun|17=>3|18=>6|19=>7|n=>n⟩
theorem zeN:Go.Proofs.LaysM.n171 Tryz.prog JD:={
 mixed:=by kernel_rfl
 f129:=Tryz.func122.trans (congrArg some (by kernel_rfl))
 f171:=Tryz.func16.trans (congrArg some (by kernel_rfl))
 f243:=Tryz.func31.trans (congrArg some (by kernel_rfl))
 f246:=Tryz.func57.trans (congrArg some (by kernel_rfl))
 f283:=Tryz.func88.trans (congrArg some (by kernel_rfl))
 f284:=Tryz.func89.trans (congrArg some (by kernel_rfl))
 f285:=Tryz.func90.trans (congrArg some (by kernel_rfl))
 f286:=Tryz.func91.trans (congrArg some (by kernel_rfl))
 f317:=Tryz.func121.trans (congrArg some (by kernel_rfl))
 f318:=Tryz.func123.trans (congrArg some (by kernel_rfl))
 f319:=Tryz.func124.trans (congrArg some (by kernel_rfl))
 f320:=Tryz.func125.trans (congrArg some (by kernel_rfl))
 f337:=Tryz.func147.trans (congrArg some (by kernel_rfl))
 f338:=Tryz.func148.trans (congrArg some (by kernel_rfl))
 t0:=Tryz.underlying0
 a0:=Tryz.isAgg0
 z0:=Tryz.sizeOf0
 v0:=Tryz.zeroValue0
 t2:=Tryz.underlying2
 a2:=Tryz.isAgg2
 z2:=Tryz.sizeOf2
 v2:=Tryz.zeroValue2
 t3:=Tryz.underlying3
 a3:=Tryz.isAgg3
 z3:=Tryz.sizeOf3
 v3:=Tryz.zeroValue3
 t4:=Tryz.underlying4
 a4:=Tryz.isAgg4
 z4:=Tryz.sizeOf4
 v4:=Tryz.zeroValue4
 t5:=Tryz.underlying5
 a5:=Tryz.isAgg5
 z5:=Tryz.sizeOf5
 v5:=Tryz.zeroValue5
 t9:=Tryz.underlying9
 a9:=Tryz.isAgg9
 z9:=Tryz.sizeOf9
 v9:=Tryz.zeroValue9
 t20:=Tryz.underlying20
 a20:=Tryz.isAgg20
 z20:=Tryz.sizeOf20
 v20:=Tryz.zeroValue20
 t37:=Tryz.underlying113
 a37:=Tryz.isAgg113
 z37:=Tryz.sizeOf113
 v37:=Tryz.zeroValue113
 t46:=Tryz.underlying123
 a46:=Tryz.isAgg123
 z46:=Tryz.sizeOf123
 v46:=Tryz.zeroValue123
 t51:=Tryz.underlying163
 a51:=Tryz.isAgg163
 z51:=Tryz.sizeOf163
 v51:=Tryz.zeroValue163
 t53:=Tryz.underlying144
 a53:=Tryz.isAgg144
 z53:=Tryz.sizeOf144
 v53:=Tryz.zeroValue144
 t171:=Tryz.underlying143
 a171:=Tryz.isAgg143
 z171:=Tryz.sizeOf143
 v171:=Tryz.zeroValue143
 t173:=Tryz.underlying147
 a173:=Tryz.isAgg147
 z173:=Tryz.sizeOf147
 v173:=Tryz.zeroValue147
 t212:=Tryz.underlying181
 a212:=Tryz.isAgg181
 z212:=Tryz.sizeOf181
 v212:=Tryz.zeroValue181
 t213:=Tryz.underlying182
 a213:=Tryz.isAgg182
 z213:=Tryz.sizeOf182
 t232:=Tryz.underlying229
 a232:=Tryz.isAgg229
 z232:=Tryz.sizeOf229
 v232:=Tryz.zeroValue229
 t233:=Tryz.underlying230
 a233:=Tryz.isAgg230
 z233:=Tryz.sizeOf230
 v233:=Tryz.zeroValue230
 g17:=by kernel_rfl
 g18:=by kernel_rfl
 g19:=by kernel_rfl
 i0:=by kernel_rfl
 i2:=by kernel_rfl
 i3:=by kernel_rfl
 i4:=by kernel_rfl
 i5:=by kernel_rfl
 i9:=by kernel_rfl
 i20:=by kernel_rfl
 i37:=by kernel_rfl
 i46:=by kernel_rfl
 i51:=by kernel_rfl
 i53:=by kernel_rfl
 i171:=by kernel_rfl
 i173:=by kernel_rfl
 i212:=by kernel_rfl
 i232:=by kernel_rfl
 i233:=by kernel_rfl
 m17:=by kernel_rfl
 m18:=by kernel_rfl
 m19:=by kernel_rfl}
theorem zeO(n:Int)(h0: -9223372036854775808<=n)(h1:n<=9223372036854775807)(w:World)(htab:Lib.TabIs Tryz.prog w "internal/strconv.uint64pow10" .u64 Lib.pow10Tab):
 Calls Tryz.prog 16 #[.int .i64 n] w fun e w'=>e=.returned (.string ⟨(Lib.itoa n).toArray⟩)/\∃k os,w'=Go.Sort.grow (w.drewN k) os:=
 Any.strconv_Itoa zeN n h0 h1 w htab
def KI:Go.Shelf.Ren:=⟨fun|146=>7|221=>13|268=>27|138=>28|143=>29|195=>53|197=>54|218=>55|219=>56|260=>83|217=>84|225=>85|224=>86|267=>87|266=>119|314=>120|n=>n,fun|9=>9|31=>22|3=>3|4=>4|0=>0|105=>115|21=>21|5=>5|46=>123|119=>174|139=>177|138=>176|146=>178|51=>163|n=>n,fun|1=>0|3=>1|4=>2|n=>n⟩
theorem zdU:Go.Proofs.Lays.n146 Tryz.prog KI:={
 mixed:=by kernel_rfl
 f138:=Tryz.func28.trans (congrArg some (by kernel_rfl))
 f143:=Tryz.func29.trans (congrArg some (by kernel_rfl))
 f146:=Tryz.func7.trans (congrArg some (by kernel_rfl))
 f195:=Tryz.func53.trans (congrArg some (by kernel_rfl))
 f197:=Tryz.func54.trans (congrArg some (by kernel_rfl))
 f217:=Tryz.func84.trans (congrArg some (by kernel_rfl))
 f218:=Tryz.func55.trans (congrArg some (by kernel_rfl))
 f219:=Tryz.func56.trans (congrArg some (by kernel_rfl))
 f221:=Tryz.func13.trans (congrArg some (by kernel_rfl))
 f224:=Tryz.func86.trans (congrArg some (by kernel_rfl))
 f225:=Tryz.func85.trans (congrArg some (by kernel_rfl))
 f260:=Tryz.func83.trans (congrArg some (by kernel_rfl))
 f266:=Tryz.func119.trans (congrArg some (by kernel_rfl))
 f267:=Tryz.func87.trans (congrArg some (by kernel_rfl))
 f268:=Tryz.func27.trans (congrArg some (by kernel_rfl))
 f314:=Tryz.func120.trans (congrArg some (by kernel_rfl))
 t0:=Tryz.underlying0
 a0:=Tryz.isAgg0
 z0:=Tryz.sizeOf0
 v0:=Tryz.zeroValue0
 t3:=Tryz.underlying3
 a3:=Tryz.isAgg3
 z3:=Tryz.sizeOf3
 v3:=Tryz.zeroValue3
 t4:=Tryz.underlying4
 a4:=Tryz.isAgg4
 z4:=Tryz.sizeOf4
 v4:=Tryz.zeroValue4
 t5:=Tryz.underlying5
 a5:=Tryz.isAgg5
 z5:=Tryz.sizeOf5
 v5:=Tryz.zeroValue5
 t9:=Tryz.underlying9
 a9:=Tryz.isAgg9
 z9:=Tryz.sizeOf9
 v9:=Tryz.zeroValue9
 t21:=Tryz.underlying21
 a21:=Tryz.isAgg21
 z21:=Tryz.sizeOf21
 v21:=Tryz.zeroValue21
 t31:=Tryz.underlying22
 a31:=Tryz.isAgg22
 z31:=Tryz.sizeOf22
 v31:=Tryz.zeroValue22
 t46:=Tryz.underlying123
 a46:=Tryz.isAgg123
 z46:=Tryz.sizeOf123
 v46:=Tryz.zeroValue123
 t51:=Tryz.underlying163
 a51:=Tryz.isAgg163
 z51:=Tryz.sizeOf163
 v51:=Tryz.zeroValue163
 t105:=Tryz.underlying115
 a105:=Tryz.isAgg115
 z105:=Tryz.sizeOf115
 v105:=Tryz.zeroValue115
 t119:=Tryz.underlying174
 a119:=Tryz.isAgg174
 z119:=Tryz.sizeOf174
 t138:=Tryz.underlying176
 a138:=Tryz.isAgg176
 z138:=Tryz.sizeOf176
 v138:=Tryz.zeroValue176
 t139:=Tryz.underlying177
 a139:=Tryz.isAgg177
 z139:=Tryz.sizeOf177
 v139:=Tryz.zeroValue177
 t146:=Tryz.underlying178
 a146:=Tryz.isAgg178
 z146:=Tryz.sizeOf178
 v146:=Tryz.zeroValue178
 g1:=by kernel_rfl
 g3:=by kernel_rfl
 g4:=by kernel_rfl}
abbrev dkNl:ByteArray:=⟨#[10]⟩
theorem QL(s:ByteArray)(m:Int)(w:World)(hs:s.size<4294967281)(hm:w.cell? ⟨0,0,none⟩=some (.int .i64 m)):
 Calls Tryz.prog 7 #[.string s,.string ⟨#[10]⟩] w fun e w'=>
  e=.returned (.slice (some ⟨w.heap.size,0,none⟩) (Lib.countB s dkNl+1) (Lib.countB s dkNl+1))/\w'=w.alloc (.cells ((Lib.splitB dkNl 0 (Lib.countB s dkNl) s).map Value.string).toArray 9):=
 Any.strings_Split zdU (by kernel_rfl) s ⟨#[10]⟩ m w hs hm (by decide)
def Jv:Go.Shelf.Ren:=⟨fun|160=>40|232=>67|231=>66|227=>68|234=>70|233=>69|236=>72|235=>71|228=>101|271=>103|151=>102|197=>54|120=>136|152=>135|260=>83|137=>156|119=>157|224=>86|225=>85|217=>84|266=>119|n=>n,fun|9=>9|4=>4|3=>3|5=>5|117=>128|116=>127|0=>0|124=>131|21=>21|105=>115|46=>123|119=>174|139=>177|138=>176|n=>n,fun|3=>1|4=>2|n=>n⟩
theorem zeI:Go.Proofs.Lays.n160 Tryz.prog Jv:={
 mixed:=by kernel_rfl
 f119:=Tryz.func157.trans (congrArg some (by kernel_rfl))
 f120:=Tryz.func136.trans (congrArg some (by kernel_rfl))
 f137:=Tryz.func156.trans (congrArg some (by kernel_rfl))
 f151:=Tryz.func102.trans (congrArg some (by kernel_rfl))
 f152:=Tryz.func135.trans (congrArg some (by kernel_rfl))
 f160:=Tryz.func40.trans (congrArg some (by kernel_rfl))
 f197:=Tryz.func54.trans (congrArg some (by kernel_rfl))
 f217:=Tryz.func84.trans (congrArg some (by kernel_rfl))
 f224:=Tryz.func86.trans (congrArg some (by kernel_rfl))
 f225:=Tryz.func85.trans (congrArg some (by kernel_rfl))
 f227:=Tryz.func68.trans (congrArg some (by kernel_rfl))
 f228:=Tryz.func101.trans (congrArg some (by kernel_rfl))
 f231:=Tryz.func66.trans (congrArg some (by kernel_rfl))
 f232:=Tryz.func67.trans (congrArg some (by kernel_rfl))
 f233:=Tryz.func69.trans (congrArg some (by kernel_rfl))
 f234:=Tryz.func70.trans (congrArg some (by kernel_rfl))
 f235:=Tryz.func71.trans (congrArg some (by kernel_rfl))
 f236:=Tryz.func72.trans (congrArg some (by kernel_rfl))
 f260:=Tryz.func83.trans (congrArg some (by kernel_rfl))
 f266:=Tryz.func119.trans (congrArg some (by kernel_rfl))
 f271:=Tryz.func103.trans (congrArg some (by kernel_rfl))
 t0:=Tryz.underlying0
 a0:=Tryz.isAgg0
 z0:=Tryz.sizeOf0
 v0:=Tryz.zeroValue0
 t3:=Tryz.underlying3
 a3:=Tryz.isAgg3
 z3:=Tryz.sizeOf3
 v3:=Tryz.zeroValue3
 t4:=Tryz.underlying4
 a4:=Tryz.isAgg4
 z4:=Tryz.sizeOf4
 v4:=Tryz.zeroValue4
 t5:=Tryz.underlying5
 a5:=Tryz.isAgg5
 z5:=Tryz.sizeOf5
 v5:=Tryz.zeroValue5
 t9:=Tryz.underlying9
 a9:=Tryz.isAgg9
 z9:=Tryz.sizeOf9
 v9:=Tryz.zeroValue9
 t21:=Tryz.underlying21
 a21:=Tryz.isAgg21
 z21:=Tryz.sizeOf21
 v21:=Tryz.zeroValue21
 t46:=Tryz.underlying123
 a46:=Tryz.isAgg123
 z46:=Tryz.sizeOf123
 v46:=Tryz.zeroValue123
 t105:=Tryz.underlying115
 a105:=Tryz.isAgg115
 z105:=Tryz.sizeOf115
 v105:=Tryz.zeroValue115
 t116:=Tryz.underlying127
 a116:=Tryz.isAgg127
 z116:=Tryz.sizeOf127
 t117:=Tryz.underlying128
 a117:=Tryz.isAgg128
 z117:=Tryz.sizeOf128
 v117:=Tryz.zeroValue128
 t119:=Tryz.underlying174
 a119:=Tryz.isAgg174
 z119:=Tryz.sizeOf174
 t124:=Tryz.underlying131
 a124:=Tryz.isAgg131
 z124:=Tryz.sizeOf131
 v124:=Tryz.zeroValue131
 t138:=Tryz.underlying176
 a138:=Tryz.isAgg176
 z138:=Tryz.sizeOf176
 v138:=Tryz.zeroValue176
 t139:=Tryz.underlying177
 a139:=Tryz.isAgg177
 z139:=Tryz.sizeOf177
 v139:=Tryz.zeroValue177
 g3:=by kernel_rfl
 g4:=by kernel_rfl}
theorem Yl(s:ByteArray)(w:World)(hs:s.size<=9223372036854775807):
 Calls Tryz.prog 40 #[.string s,.string ⟨#[48,49,50,51,52,53,54,55,56,57]⟩] w fun e w'=>e=.returned (.string ⟨(Lib.trimS s.data.toList [48,49,50,51,52,53,54,55,56,57]).toArray⟩)/\Below w.heap.size w w':=
 Any.strings_Trim_laid zeI (by kernel_rfl) s ⟨#[48,49,50,51,52,53,54,55,56,57]⟩ w hs (by decide) (ascii_of_all (by decide))
def Ki:Go.Shelf.Ren:=⟨fun|229=>17|n=>n,fun|9=>9|40=>55|31=>22|152=>76|3=>3|0=>0|4=>4|21=>21|154=>78|n=>n,fun|n=>n⟩
theorem zc9:Go.Proofs.Lays.n229 Tryz.prog Ki:={
 mixed:=by kernel_rfl
 f229:=Tryz.func17.trans (congrArg some (by kernel_rfl))
 t0:=Tryz.underlying0
 a0:=Tryz.isAgg0
 z0:=Tryz.sizeOf0
 v0:=Tryz.zeroValue0
 t3:=Tryz.underlying3
 a3:=Tryz.isAgg3
 z3:=Tryz.sizeOf3
 v3:=Tryz.zeroValue3
 t4:=Tryz.underlying4
 a4:=Tryz.isAgg4
 z4:=Tryz.sizeOf4
 v4:=Tryz.zeroValue4
 t9:=Tryz.underlying9
 a9:=Tryz.isAgg9
 z9:=Tryz.sizeOf9
 v9:=Tryz.zeroValue9
 t21:=Tryz.underlying21
 a21:=Tryz.isAgg21
 z21:=Tryz.sizeOf21
 v21:=Tryz.zeroValue21
 t31:=Tryz.underlying22
 a31:=Tryz.isAgg22
 z31:=Tryz.sizeOf22
 v31:=Tryz.zeroValue22
 t40:=Tryz.underlying55
 a40:=Tryz.isAgg55
 z40:=Tryz.sizeOf55
 v40:=Tryz.zeroValue55
 t152:=Tryz.underlying76
 a152:=Tryz.isAgg76
 z152:=Tryz.sizeOf76
 v152:=Tryz.zeroValue76
 t154:=Tryz.underlying78
 a154:=Tryz.isAgg78
 z154:=Tryz.sizeOf78
 v154:=Tryz.zeroValue78}
def jA(x:Nat):Bool:=x==32
def zL(s:ByteArray):List ByteArray:=Lib.goFieldsP jA s
def zM(s:ByteArray)(w:World)(e:Ending)(w':World):Prop:=
 ∃A,e=.returned (.slice (some ⟨A,0,none⟩) (zL s).length (zL s).length)/\w.heap.size<=A/\
  w'.ownsRow w.heap.size 9 1 (.slice (some ⟨A,0,none⟩) (zL s).length (zL s).length) (zL s).length ((zL s).map Value.string)/\Below w.heap.size w w'
theorem Vr(g:Nat)(eg:∀args w,(callFunc g args).run Tryz.prog w=.ok (.enter g args) w)(s:ByteArray)(w:World)(hs:s.size<=4294967296)
 (hp:∀(W:World) (x:Nat),Calls Tryz.prog g #[.int .i32 x] W fun e w'=>e=.returned (.bool (jA x))/\∃q,w'=W.drewN q):
 Calls Tryz.prog 17 #[.string s,.func (.func g) #[] #[]] w (zM s w):=
 Any.strings_FieldsFunc zc9 g #[] eg jA s w hs (fun W x _=>hp W x) (by kernel_rfl) (by kernel_rfl)
end Go.Proofs.YtmgfbmkfomebcaaGreatDoor
namespace Go.Proofs.YtmgfbmkfomebcaaGreatDoor
open Go.RowKit
structure DkW (w:World):Prop where
 tab:Lib.TabIs Tryz.prog w "internal/strconv.uint64pow10" .u64 Lib.pow10Tab
 max:∃m,w.cell? ⟨0,0,none⟩=some (.int .i64 m)
 low:8<=w.heap.size
theorem DkW.later{w w':World}{B:Nat}(h:DkW w)(hb:Below B w w')(hB:8<=B):DkW w':=by
 obtain⟨m,hm⟩:=h.max;exact⟨var?_below hb (show Tryz.prog.globalNamed "internal/strconv.uint64pow10" =some 3 by kernel_rfl) (by omega) h.tab,⟨m,(hb.cell (p:=⟨0,0,none⟩) (by show 0<B;omega)).trans hm⟩,Nat.le_trans h.low hb.size⟩
theorem DkW.below{w w':World}(h:DkW w)(hb:Below w.heap.size w w'):DkW w':=h.later hb h.low
theorem Vh(w:World)(k:Nat)(os:Array Obj):Below w.heap.size w (Go.Sort.grow (w.drewN k) os):=
 ⟨rfl,rfl,rfl,by show w.heap.size<=(w.heap++os).size;rw[Array.size_append];omega,fun j hj=>Go.Sort.heap_grow_old (w.drewN k) os hj⟩
def zq(s:ByteArray)(w:World)(e:Ending)(w':World):Prop:=e=.returned (.string s)/\Below w.heap.size w w'
theorem qa(n:Int)(h0: -9223372036854775808<=n)(h1:n<=9223372036854775807)(w:World)(hW:DkW w):Calls Tryz.prog 16 #[.int .i64 n] w (zq (zS n) w):=
 (zeO n h0 h1 w hW.tab).mono fun e w' ⟨he,k,os,hw⟩=>⟨he,by rw[hw];exact Vh w k os⟩
theorem zbI(s:ByteArray)(n:Nat)(h:y7 s=some n)(w:World):
 Calls Tryz.prog 41 #[.string s] w fun e w'=>e=.returned (.tuple #[.int .i64 (n:Int),.nilIface])/\Below w.heap.size w w':=
 (zeW s n (by have:=(Qg h).1;omega) (Qg h).2.1 w).mono fun e w' ⟨he,t,hw⟩=>⟨he,by rw[hw];exact Go.Joins.below_bytesWorld _ _ _ _ (Nat.le_refl _)⟩
theorem zfM(x:Nat)(w:World):Calls Tryz.prog 18 #[.int .i32 x] w fun e w'=>e=.returned (.bool (jA x))/\∃q,w'=w.drewN q:=by
 have hx:jA x=((x:Int)==32):=by unfold jA;rw[Bool.eq_iff_iff];simp;omega
 rw[hx];go_enter Tryz.func18,Tryz.ntmps18
 go_wp2
 go_ret
 exact⟨rfl,0,rfl⟩
theorem zfN(x:Nat)(w:World):Calls Tryz.prog 21 #[.int .i32 x] w fun e w'=>e=.returned (.bool (jA x))/\∃q,w'=w.drewN q:=by
 have hx:jA x=((x:Int)==32):=by unfold jA;rw[Bool.eq_iff_iff];simp;omega
 rw[hx];go_enter Tryz.func21,Tryz.ntmps21
 go_wp2
 go_ret
 exact⟨rfl,0,rfl⟩
theorem kU(s:ByteArray)(w:World)(hs:s.size<=4294967296):Calls Tryz.prog 17 #[.string s,.func (.func 18) #[] #[]] w (zM s w):=
 Vr 18 (fun args w=>by kernel_rfl) s w hs fun W x=>zfM x W
theorem yp(s:ByteArray)(w:World)(hs:s.size<=4294967296):Calls Tryz.prog 17 #[.string s,.func (.func 21) #[] #[]] w (zM s w):=
 Vr 21 (fun args w=>by kernel_rfl) s w hs fun W x=>zfN x W
theorem zN{s x:ByteArray}(h:x∈zL s):x.size<=s.size:=by
 unfold zL Lib.goFieldsP at h;obtain⟨y,_,rfl⟩:=List.mem_map.1 h;simp;omega
theorem jO:∀(k:Nat) (s x:ByteArray),x∈Lib.splitB dkNl 0 k s->x.size<=s.size
 |0,s,x,h=>by rw[Lib.splitB_zero]at h;simp at h;subst h;exact Nat.le_refl _
 |k+1,s,x,h=>by
  unfold Lib.splitB at h
  split at h
  . simp at h;subst h;exact Nat.le_refl _
  . rcases List.mem_cons.1 h with rfl|h
    . simp;omega
    . have:=jO k _ x h;refine Nat.le_trans this ?_;simp
def vD(e:Int):Value:=.iface 51 (.agg #[.int .i64 e])
abbrev dkPanic(e:Int):Ending:=.panicked [{v:=vD e,recovered:=false}]
def Kw(s:ByteArray)(w:World)(e:Ending)(w':World):Prop:=
 (match y7 s with|some n=>e=.returned (.int .i64 (n:Int))|none=>e=dkPanic 12)/\Below w.heap.size w w'
theorem Y7(s:ByteArray)(n:Nat)(w:World)(h:y7 s=some n):
 Calls Tryz.prog 58 #[.string s] w fun e w'=>e=.returned (.int .i64 (n:Int))/\Below w.heap.size w w':=by
 obtain⟨h1,h2,h3⟩:=pk (V6 h);have CT:=zH (Yl s w (by omega));rw[h3]at CT;have CA:=zH fun W=>zbI s n h W
 have d1:¬((s.size:Int)<1):=by omega
 have d2:¬(7<(s.size:Int)):=by omega
 clear h h1 h2 h3;go_enter Tryz.func58,Tryz.ntmps58
 go_wp2_with fail
 (with_reducible refine CT.out.mono ?_);rintro e w1 ⟨rfl,hb1⟩
 go_wp2_with (go_at_call 41;(with_reducible refine(CA.out _).mono ?_);rintro e w2 ⟨rfl,hb2⟩)
 go_ret
 exact⟨rfl,hb1.trans (hb2.mono hb1.size)⟩
theorem ZG{s:ByteArray}(h:jT s=true):s.size<1\/(1<=s.size/\7<s.size)\/(1<=s.size/\s.size<=7/\∃a t,Lib.trimS s.data.toList dkDig=a::t):=by
 by_cases h1:s.size<1
 . exact .inl h1
 . by_cases h2:7<s.size
   . exact .inr (.inl ⟨by omega,h2⟩)
   . refine .inr (.inr ⟨by omega,by omega,?_⟩);unfold jT at h;cases ht:Lib.trimS s.data.toList dkDig with
     |nil=>rw[ht]at h;simp[h1,h2]at h
     |cons a t=>exact⟨a,t,rfl⟩
theorem Z3(s:ByteArray)(w:World)(hs:s.size<=9223372036854775807)(h:jT s=true):
 Calls Tryz.prog 58 #[.string s] w fun e w'=>e=dkPanic 12/\Below w.heap.size w w':=by
 rcases ZG h with h1|⟨h1,h2⟩|⟨h1,h2,a,t,h3⟩
 . have d1:(s.size:Int)<1:=by omega
   clear h h1;go_enter Tryz.func58,Tryz.ntmps58
   go_wp2_with fail
   exact⟨rfl,rfl,Below.refl _ _⟩
 . have d1:¬((s.size:Int)<1):=by omega
   have d2:(7<(s.size:Int)):=by omega
   clear h h1 h2;go_enter Tryz.func58,Tryz.ntmps58
   go_wp2_with fail
   exact⟨rfl,rfl,Below.refl _ _⟩
 . have CT:=zH (Yl s w (by omega));rw[h3]at CT;have d1:¬((s.size:Int)<1):=by omega
   have d2:¬(7<(s.size:Int)):=by omega
   clear h h1 h2 h3;go_enter Tryz.func58,Tryz.ntmps58
   go_wp2_with fail
   (with_reducible refine CT.out.mono ?_);rintro e w1 ⟨rfl,hb1⟩
   go_wp2_with fail
   exact⟨rfl,rfl,hb1⟩
theorem JF(s:ByteArray)(w:World)(hs:s.size<=9223372036854775807):Calls Tryz.prog 58 #[.string s] w (Kw s w):=by
 unfold Kw;cases h:y7 s with
 |some n=>exact Y7 s n w h
 |none=>exact Z3 s w hs (XM h)
def qk(s:ByteArray)(w:World)(e:Ending)(w':World):Prop:=
 (match y7 s with|some n=>e=.returned (.tuple #[.int .i64 (n:Int),.bool true])|none=>e=.returned (.tuple #[.int .i64 0,.bool false]))/\Below w.heap.size w w'
theorem X1(s:ByteArray)(n:Nat)(w:World)(h:y7 s=some n):
 Calls Tryz.prog 23 #[.string s] w fun e w'=>e=.returned (.tuple #[.int .i64 (n:Int),.bool true])/\Below w.heap.size w w':=by
 obtain⟨h1,h2,h3⟩:=pk (V6 h);have CT:=zH (Yl s w (by omega));rw[h3]at CT;have CA:=zH fun W=>zbI s n h W
 have d1:((s.size:Int)==0)=false:=by rw[beq_eq_false_iff_ne];omega
 have d2:¬(7<(s.size:Int)):=by omega
 clear h h1 h2 h3;go_enter Tryz.func23,Tryz.ntmps23
 go_wp2_with fail
 (with_reducible refine CT.out.mono ?_);rintro e w1 ⟨rfl,hb1⟩
 go_wp2_with (go_at_call 41;(with_reducible refine(CA.out _).mono ?_);rintro e w2 ⟨rfl,hb2⟩)
 go_ret2
 exact⟨rfl,hb1.trans (hb2.mono hb1.size)⟩
theorem Y8(s:ByteArray)(w:World)(hs:s.size<=9223372036854775807)(h:jT s=true):
 Calls Tryz.prog 23 #[.string s] w fun e w'=>e=.returned (.tuple #[.int .i64 0,.bool false])/\Below w.heap.size w w':=by
 rcases ZG h with h1|⟨h1,h2⟩|⟨h1,h2,a,t,h3⟩
 . have d1:((s.size:Int)==0)=true:=by rw[beq_iff_eq];omega
   clear h h1;go_enter Tryz.func23,Tryz.ntmps23
   go_wp2_with fail
   go_ret2
   exact⟨rfl,Below.refl _ _⟩
 . have d1:((s.size:Int)==0)=false:=by rw[beq_eq_false_iff_ne];omega
   have d2:(7<(s.size:Int)):=by omega
   clear h h1 h2;go_enter Tryz.func23,Tryz.ntmps23
   go_wp2_with fail
   go_ret2
   exact⟨rfl,Below.refl _ _⟩
 . have CT:=zH (Yl s w (by omega));rw[h3]at CT;have d1:((s.size:Int)==0)=false:=by rw[beq_eq_false_iff_ne];omega
   have d2:¬(7<(s.size:Int)):=by omega
   clear h h1 h2 h3;go_enter Tryz.func23,Tryz.ntmps23
   go_wp2_with fail
   (with_reducible refine CT.out.mono ?_);rintro e w1 ⟨rfl,hb1⟩
   go_wp2_with fail
   go_ret2
   exact⟨rfl,hb1⟩
theorem yE(s:ByteArray)(w:World)(hs:s.size<=9223372036854775807):Calls Tryz.prog 23 #[.string s] w (qk s w):=by
 unfold qk;cases h:y7 s with
 |some n=>exact X1 s n w h
 |none=>exact Y8 s w hs (XM h)
theorem zx(n:Int)(h0: -9223372036854775808<=n)(h1:n<=9223372036854775807)(w:World)(hW:DkW w):Calls Tryz.prog 22 #[.int .i64 n] w (zq (zt n) w):=by
 have CI:=zH (qa n h0 h1 w hW);unfold zq at CI;have hz:=ya n h0 h1;unfold zq zt;obtain⟨S,hS⟩:∃S,zS n=S:=⟨_,rfl⟩
 rw[hS]at CI hz ⊢;clear hS;go_enter Tryz.func22,Tryz.ntmps22
 go_wp2_with fail
 (with_reducible refine CI.out.mono ?_);rintro e w1 ⟨rfl,hb1⟩
 go_wp2_with fail
 go_ret
 exact⟨rfl,hb1⟩
theorem yF(n:Int)(w:World):Calls Tryz.prog 34 #[.int .i64 n] w fun e w'=>e=(if n=0 then .returned (.tuple #[]) else dkPanic n)/\w=w':=by
 by_cases h:n=0
 . subst h;go_enter Tryz.func34,Tryz.ntmps34
   go_wp2_with fail
   go_end0
   exact⟨rfl,rfl⟩
 . have d:(n !=0)=true:=by simp;exact h
   rw[if_neg h];go_enter Tryz.func34,Tryz.ntmps34
   go_wp2_with fail
   exact⟨rfl,rfl,rfl⟩
end Go.Proofs.YtmgfbmkfomebcaaGreatDoor
