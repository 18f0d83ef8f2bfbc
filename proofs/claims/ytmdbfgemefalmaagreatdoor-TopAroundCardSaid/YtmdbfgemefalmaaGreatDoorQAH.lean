/- Part AH of the proof that the law TopAround answers true at every input, under no condition. -/
import Derived.Test.YtmdbfgemefalmaaGreatDoorQAG
import Derived.Shelf.Strings.Builder1
import Derived.Shelf.Strings.Builder2
import Derived.Shelf.Strings.OnBuilder
import Derived.Shelf.Small.Utf8
import Derived.Shelf.Small.Strs
import Derived.Shelf.Strings.BuilderF
import Derived.Shelf.Strings.Search1
import Derived.Shelf.Strings.Search2
import Derived.Shelf.Strings.Search3
import Derived.Shelf.Strings.Cut
import Derived.Shelf.Strings.Count
import Derived.Shelf.LaysM
import Derived.Shelf.Strings.Shaped
import Derived.Shelf.Strings.Prefix
import Derived.Shelf.Strings.Split
import Derived.Shelf.Strings.Replace
import Derived.Shelf.Unicode.Decode
import Derived.Shelf.Strings.Runes
import Derived.Shelf.Strings.IndexAny
import Derived.Shelf.Strings.AsciiSet
import Derived.Shelf.Strings.IndexAnyAll
import Derived.Shelf.Unicode.DecodeSlow
import Derived.Shelf.Unicode.CaseLookup
import Derived.Shelf.Unicode.CaseConvert
import Derived.Shelf.Bytes.SlSearch0
import Derived.Shelf.Bytes.SlSmallAll
import Derived.Shelf.Bytes.Small
import Derived.Test.YtmdbfgemefalmaaGreatDoorProg
set_option linter.unusedVariables false
set_option maxHeartbeats 2000000
set_option maxRecDepth 100000
namespace Go.Proofs
open Go.Shelf
def Tryz.yQ:Go.Shelf.Ren:=⟨λ|156=>74|165=>137|166=>67|169=>69|240=>132|241=>213|276=>210|277=>276|n=>n,λ|31=>31|9=>9|3=>3|4=>4|0=>0|20=>20|72=>88|76=>150|70=>86|37=>26|75=>149|127=>211|164=>275|5=>5|80=>152|n=>n,λ|n=>n⟩
theorem Tryz.IY:Go.Proofs.Lays.n156 Tryz.prog Tryz.yQ:={
 mixed:=by kernel_rfl
 f156:=Tryz.func74.trans (congrArg some (by kernel_rfl))
 f165:=Tryz.func137.trans (congrArg some (by kernel_rfl))
 f166:=Tryz.func67.trans (congrArg some (by kernel_rfl))
 f169:=Tryz.func69.trans (congrArg some (by kernel_rfl))
 f240:=Tryz.func132.trans (congrArg some (by kernel_rfl))
 f241:=Tryz.func213.trans (congrArg some (by kernel_rfl))
 f276:=Tryz.func210.trans (congrArg some (by kernel_rfl))
 f277:=Tryz.func276.trans (congrArg some (by kernel_rfl))
 t0:=Tryz.underlying0
 a0:=Tryz.isAgg0
 z0:=Tryz.sizeOf0
 v0:=Tryz.zeroValue0
 t3:=Tryz.underlying3
 a3:=Tryz.isAgg3
 z3:=Tryz.sizeOf3
 v3:=Tryz.zeroValue3
 t4:=Tryz.underlying4
 a4:=Tryz.isAgg4
 z4:=Tryz.sizeOf4
 v4:=Tryz.zeroValue4
 t9:=Tryz.underlying9
 a9:=Tryz.isAgg9
 z9:=Tryz.sizeOf9
 v9:=Tryz.zeroValue9
 t20:=Tryz.underlying20
 a20:=Tryz.isAgg20
 z20:=Tryz.sizeOf20
 v20:=Tryz.zeroValue20
 t31:=Tryz.underlying31
 a31:=Tryz.isAgg31
 z31:=Tryz.sizeOf31
 v31:=Tryz.zeroValue31
 t37:=Tryz.underlying26
 a37:=Tryz.isAgg26
 z37:=Tryz.sizeOf26
 v37:=Tryz.zeroValue26
 t70:=Tryz.underlying86
 a70:=Tryz.isAgg86
 z70:=Tryz.sizeOf86
 v70:=Tryz.zeroValue86
 t72:=Tryz.underlying88
 a72:=Tryz.isAgg88
 z72:=Tryz.sizeOf88
 v72:=Tryz.zeroValue88
 t75:=Tryz.underlying149
 a75:=Tryz.isAgg149
 z75:=Tryz.sizeOf149
 v75:=Tryz.zeroValue149
 t76:=Tryz.underlying150
 a76:=Tryz.isAgg150
 z76:=Tryz.sizeOf150
 v76:=Tryz.zeroValue150
 t127:=Tryz.underlying211
 a127:=Tryz.isAgg211
 z127:=Tryz.sizeOf211
 v127:=Tryz.zeroValue211
 t164:=Tryz.underlying275
 a164:=Tryz.isAgg275
 z164:=Tryz.sizeOf275
 v164:=Tryz.zeroValue275}
theorem Tryz.ra:Builder.Extra Tryz.prog Tryz.yQ:={
 sizeBuilder:=by kernel_rfl
 liesBuilder:=by kernel_rfl
 t5:=Tryz.underlying5
 a5:=Tryz.isAgg5
 z5:=Tryz.sizeOf5
 v5:=Tryz.zeroValue5
 infoByte:=by kernel_rfl
 cellsByte:=by kernel_rfl
 sizeByte:=by kernel_rfl
 neB5:=by decide}
open Go.RowKit in
theorem Tryz.strings_Join_none(a:dC)(c:Nat)(h:dE)(w:fe):
 Calls Tryz.prog 74 #[.slice a 0 c,.string h] w λe w'=>e=.returned (.string ⟨#[]⟩)/\w'=w:=Any.strings_Join_none Tryz.IY Tryz.ra a c h w
open Go.RowKit in
theorem Tryz.strings_Join(I o c:Nat)(xs:List dE)(h:dE)(w:fe)(u:∀(j:Nat) x,xs[j]?=some x->w.cell? ⟨I,o+j,none⟩=some (.string x))(W:I<w.heap.size)(Y:xs.length<=140737488355328)(N:xs.length<=c)(O:(Lib.join (xs.map (·.data.toList)) h.data.toList).length<=140737488355328):
 Calls Tryz.prog 74 #[.slice (some ⟨I,o,none⟩) xs.length c,.string h] w λe w'=>e=.returned (.string ⟨(Lib.join (xs.map (·.data.toList)) h.data.toList).toArray⟩)/\Below w.heap.size w w':=Any.strings_Join Tryz.IY Tryz.ra I o c xs h w u W Y N O
def Tryz.Fg:Go.Shelf.Ren:=⟨λ|219=>270|217=>330|225=>331|224=>332|267=>333|266=>368|314=>369|n=>n,λ|9=>9|3=>3|4=>4|5=>5|46=>22|146=>420|51=>343|n=>n,λ|1=>6|n=>n⟩
theorem Tryz.P2:Go.Proofs.Lays.n219 Tryz.prog Tryz.Fg:={
 mixed:=by kernel_rfl
 f217:=Tryz.func330.trans (congrArg some (by kernel_rfl))
 f219:=Tryz.func270.trans (congrArg some (by kernel_rfl))
 f224:=Tryz.func332.trans (congrArg some (by kernel_rfl))
 f225:=Tryz.func331.trans (congrArg some (by kernel_rfl))
 f266:=Tryz.func368.trans (congrArg some (by kernel_rfl))
 f267:=Tryz.func333.trans (congrArg some (by kernel_rfl))
 f314:=Tryz.func369.trans (congrArg some (by kernel_rfl))
 t3:=Tryz.underlying3
 a3:=Tryz.isAgg3
 z3:=Tryz.sizeOf3
 v3:=Tryz.zeroValue3
 t4:=Tryz.underlying4
 a4:=Tryz.isAgg4
 z4:=Tryz.sizeOf4
 v4:=Tryz.zeroValue4
 t5:=Tryz.underlying5
 a5:=Tryz.isAgg5
 z5:=Tryz.sizeOf5
 v5:=Tryz.zeroValue5
 t9:=Tryz.underlying9
 a9:=Tryz.isAgg9
 z9:=Tryz.sizeOf9
 v9:=Tryz.zeroValue9
 t46:=Tryz.underlying22
 a46:=Tryz.isAgg22
 z46:=Tryz.sizeOf22
 v46:=Tryz.zeroValue22
 t51:=Tryz.underlying343
 a51:=Tryz.isAgg343
 z51:=Tryz.sizeOf343
 v51:=Tryz.zeroValue343
 t146:=Tryz.underlying420
 a146:=Tryz.isAgg420
 z146:=Tryz.sizeOf420
 v146:=Tryz.zeroValue420
 g1:=by kernel_rfl}
open Go.RowKit Go.Lib in
theorem Tryz.stringslite_Index(s h:dE)(m:Int)(w:fe)(u:s.size<4294967281)(I:w.cell? ⟨6,0,none⟩=some (.int .i64 m)):
 Calls Tryz.prog 270 #[.string s,.string h] w λe w'=>e=.returned (.int .i64 (Lib.index s.data.toList h.data.toList))/\w'=w:=Any.stringslite_Index Tryz.P2 s h m w u I
def Tryz.Fk:Go.Shelf.Ren:=⟨λ|144=>124|143=>206|219=>270|217=>330|225=>331|224=>332|267=>333|266=>368|314=>369|n=>n,λ|9=>9|4=>4|3=>3|5=>5|46=>22|146=>420|51=>343|n=>n,λ|1=>6|n=>n⟩
theorem Tryz.P6:Go.Proofs.Lays.n144 Tryz.prog Tryz.Fk:={
 mixed:=by kernel_rfl
 f143:=Tryz.func206.trans (congrArg some (by kernel_rfl))
 f144:=Tryz.func124.trans (congrArg some (by kernel_rfl))
 f217:=Tryz.func330.trans (congrArg some (by kernel_rfl))
 f219:=Tryz.func270.trans (congrArg some (by kernel_rfl))
 f224:=Tryz.func332.trans (congrArg some (by kernel_rfl))
 f225:=Tryz.func331.trans (congrArg some (by kernel_rfl))
 f266:=Tryz.func368.trans (congrArg some (by kernel_rfl))
 f267:=Tryz.func333.trans (congrArg some (by kernel_rfl))
 f314:=Tryz.func369.trans (congrArg some (by kernel_rfl))
 t3:=Tryz.underlying3
 a3:=Tryz.isAgg3
 z3:=Tryz.sizeOf3
 v3:=Tryz.zeroValue3
 t4:=Tryz.underlying4
 a4:=Tryz.isAgg4
 z4:=Tryz.sizeOf4
 v4:=Tryz.zeroValue4
 t5:=Tryz.underlying5
 a5:=Tryz.isAgg5
 z5:=Tryz.sizeOf5
 v5:=Tryz.zeroValue5
 t9:=Tryz.underlying9
 a9:=Tryz.isAgg9
 z9:=Tryz.sizeOf9
 v9:=Tryz.zeroValue9
 t46:=Tryz.underlying22
 a46:=Tryz.isAgg22
 z46:=Tryz.sizeOf22
 v46:=Tryz.zeroValue22
 t51:=Tryz.underlying343
 a51:=Tryz.isAgg343
 z51:=Tryz.sizeOf343
 v51:=Tryz.zeroValue343
 t146:=Tryz.underlying420
 a146:=Tryz.isAgg420
 z146:=Tryz.sizeOf420
 v146:=Tryz.zeroValue420
 g1:=by kernel_rfl}
open Go.RowKit Go.Lib in
theorem Tryz.strings_Contains(s h:dE)(m:Int)(w:fe)(u:s.size<4294967281)(I:w.cell? ⟨6,0,none⟩=some (.int .i64 m)):
 Calls Tryz.prog 124 #[.string s,.string h] w λe w'=>e=.returned (.bool (Lib.contains s.data.toList h.data.toList))/\w'=w:=Any.strings_Contains Tryz.P6 s h m w u I
def Tryz.Fj:Go.Shelf.Ren:=⟨λ|145=>181|220=>242|219=>270|217=>330|225=>331|224=>332|267=>333|266=>368|314=>369|n=>n,λ|9=>9|4=>4|59=>243|3=>3|5=>5|46=>22|146=>420|51=>343|n=>n,λ|1=>6|n=>n⟩
theorem Tryz.P5:Go.Proofs.Lays.n145 Tryz.prog Tryz.Fj:={
 mixed:=by kernel_rfl
 f145:=Tryz.func181.trans (congrArg some (by kernel_rfl))
 f217:=Tryz.func330.trans (congrArg some (by kernel_rfl))
 f219:=Tryz.func270.trans (congrArg some (by kernel_rfl))
 f220:=Tryz.func242.trans (congrArg some (by kernel_rfl))
 f224:=Tryz.func332.trans (congrArg some (by kernel_rfl))
 f225:=Tryz.func331.trans (congrArg some (by kernel_rfl))
 f266:=Tryz.func368.trans (congrArg some (by kernel_rfl))
 f267:=Tryz.func333.trans (congrArg some (by kernel_rfl))
 f314:=Tryz.func369.trans (congrArg some (by kernel_rfl))
 t3:=Tryz.underlying3
 a3:=Tryz.isAgg3
 z3:=Tryz.sizeOf3
 v3:=Tryz.zeroValue3
 t4:=Tryz.underlying4
 a4:=Tryz.isAgg4
 z4:=Tryz.sizeOf4
 v4:=Tryz.zeroValue4
 t5:=Tryz.underlying5
 a5:=Tryz.isAgg5
 z5:=Tryz.sizeOf5
 v5:=Tryz.zeroValue5
 t9:=Tryz.underlying9
 a9:=Tryz.isAgg9
 z9:=Tryz.sizeOf9
 v9:=Tryz.zeroValue9
 t46:=Tryz.underlying22
 a46:=Tryz.isAgg22
 z46:=Tryz.sizeOf22
 v46:=Tryz.zeroValue22
 t51:=Tryz.underlying343
 a51:=Tryz.isAgg343
 z51:=Tryz.sizeOf343
 v51:=Tryz.zeroValue343
 t59:=Tryz.underlying243
 a59:=Tryz.isAgg243
 z59:=Tryz.sizeOf243
 v59:=Tryz.zeroValue243
 t146:=Tryz.underlying420
 a146:=Tryz.isAgg420
 z146:=Tryz.sizeOf420
 v146:=Tryz.zeroValue420
 g1:=by kernel_rfl}
open Go.RowKit Go.Lib in
theorem Tryz.strings_Cut(s h:dE)(m:Int)(w:fe)(u:s.size<4294967281)(I:w.cell? ⟨6,0,none⟩=some (.int .i64 m)):
 Calls Tryz.prog 181 #[.string s,.string h] w λe w'=>e=.returned (.tuple #[.string ⟨(Lib.cut s.data.toList h.data.toList).1.toArray⟩,.string ⟨(Lib.cut s.data.toList h.data.toList).2.1.toArray⟩,.bool (Lib.cut s.data.toList h.data.toList).2.2])/\∃n,w'=w.drewN n:=Any.strings_Cut Tryz.P5 s h m w u I
def Tryz.G8:Go.Shelf.Ren:=⟨λ|99=>114|206=>195|n=>n,λ|9=>9|4=>4|3=>3|n=>n,λ|n=>n⟩
theorem Tryz.SU:Go.Proofs.Lays.n99 Tryz.prog Tryz.G8:={
 mixed:=by kernel_rfl
 f99:=Tryz.func114.trans (congrArg some (by kernel_rfl))
 f206:=Tryz.func195.trans (congrArg some (by kernel_rfl))
 t3:=Tryz.underlying3
 a3:=Tryz.isAgg3
 z3:=Tryz.sizeOf3
 v3:=Tryz.zeroValue3
 t4:=Tryz.underlying4
 a4:=Tryz.isAgg4
 z4:=Tryz.sizeOf4
 v4:=Tryz.zeroValue4
 t9:=Tryz.underlying9
 a9:=Tryz.isAgg9
 z9:=Tryz.sizeOf9
 v9:=Tryz.zeroValue9}
open Go.RowKit Go.Lib in
theorem Tryz.strings_HasPrefix(s p:dE)(w:fe):
 Calls Tryz.prog 114 #[.string s,.string p] w λe w'=>e=.returned (.bool (Lib.hasPrefix s.data.toList p.data.toList))/\w'=w:=Any.strings_HasPrefix Tryz.SU s p w
def Tryz.yR:Go.Shelf.Ren:=⟨λ|155=>105|154=>190|138=>245|165=>137|143=>206|166=>67|197=>193|169=>69|195=>308|218=>309|240=>132|241=>213|219=>270|260=>247|276=>210|277=>276|217=>330|225=>331|224=>332|267=>333|266=>368|314=>369|n=>n,λ|9=>9|3=>3|4=>4|72=>88|0=>0|76=>150|105=>245|21=>21|5=>5|70=>86|20=>20|37=>26|75=>149|127=>211|164=>275|46=>22|119=>260|139=>263|138=>262|146=>420|51=>343|80=>152|n=>n,λ|1=>6|3=>0|4=>1|n=>n⟩
theorem Tryz.P4:Go.Proofs.Lays.n155 Tryz.prog Tryz.yR:={
 mixed:=by kernel_rfl
 f138:=Tryz.func245.trans (congrArg some (by kernel_rfl))
 f143:=Tryz.func206.trans (congrArg some (by kernel_rfl))
 f154:=Tryz.func190.trans (congrArg some (by kernel_rfl))
 f155:=Tryz.func105.trans (congrArg some (by kernel_rfl))
 f165:=Tryz.func137.trans (congrArg some (by kernel_rfl))
 f166:=Tryz.func67.trans (congrArg some (by kernel_rfl))
 f169:=Tryz.func69.trans (congrArg some (by kernel_rfl))
 f195:=Tryz.func308.trans (congrArg some (by kernel_rfl))
 f197:=Tryz.func193.trans (congrArg some (by kernel_rfl))
 f217:=Tryz.func330.trans (congrArg some (by kernel_rfl))
 f218:=Tryz.func309.trans (congrArg some (by kernel_rfl))
 f219:=Tryz.func270.trans (congrArg some (by kernel_rfl))
 f224:=Tryz.func332.trans (congrArg some (by kernel_rfl))
 f225:=Tryz.func331.trans (congrArg some (by kernel_rfl))
 f240:=Tryz.func132.trans (congrArg some (by kernel_rfl))
 f241:=Tryz.func213.trans (congrArg some (by kernel_rfl))
 f260:=Tryz.func247.trans (congrArg some (by kernel_rfl))
 f266:=Tryz.func368.trans (congrArg some (by kernel_rfl))
 f267:=Tryz.func333.trans (congrArg some (by kernel_rfl))
 f276:=Tryz.func210.trans (congrArg some (by kernel_rfl))
 f277:=Tryz.func276.trans (congrArg some (by kernel_rfl))
 f314:=Tryz.func369.trans (congrArg some (by kernel_rfl))
 t0:=Tryz.underlying0
 a0:=Tryz.isAgg0
 z0:=Tryz.sizeOf0
 v0:=Tryz.zeroValue0
 t3:=Tryz.underlying3
 a3:=Tryz.isAgg3
 z3:=Tryz.sizeOf3
 v3:=Tryz.zeroValue3
 t4:=Tryz.underlying4
 a4:=Tryz.isAgg4
 z4:=Tryz.sizeOf4
 v4:=Tryz.zeroValue4
 t5:=Tryz.underlying5
 a5:=Tryz.isAgg5
 z5:=Tryz.sizeOf5
 v5:=Tryz.zeroValue5
 t9:=Tryz.underlying9
 a9:=Tryz.isAgg9
 z9:=Tryz.sizeOf9
 v9:=Tryz.zeroValue9
 t20:=Tryz.underlying20
 a20:=Tryz.isAgg20
 z20:=Tryz.sizeOf20
 v20:=Tryz.zeroValue20
 t21:=Tryz.underlying21
 a21:=Tryz.isAgg21
 z21:=Tryz.sizeOf21
 v21:=Tryz.zeroValue21
 t37:=Tryz.underlying26
 a37:=Tryz.isAgg26
 z37:=Tryz.sizeOf26
 v37:=Tryz.zeroValue26
 t46:=Tryz.underlying22
 a46:=Tryz.isAgg22
 z46:=Tryz.sizeOf22
 v46:=Tryz.zeroValue22
 t51:=Tryz.underlying343
 a51:=Tryz.isAgg343
 z51:=Tryz.sizeOf343
 v51:=Tryz.zeroValue343
 t70:=Tryz.underlying86
 a70:=Tryz.isAgg86
 z70:=Tryz.sizeOf86
 v70:=Tryz.zeroValue86
 t72:=Tryz.underlying88
 a72:=Tryz.isAgg88
 z72:=Tryz.sizeOf88
 v72:=Tryz.zeroValue88
 t75:=Tryz.underlying149
 a75:=Tryz.isAgg149
 z75:=Tryz.sizeOf149
 v75:=Tryz.zeroValue149
 t76:=Tryz.underlying150
 a76:=Tryz.isAgg150
 z76:=Tryz.sizeOf150
 v76:=Tryz.zeroValue150
 t105:=Tryz.underlying245
 a105:=Tryz.isAgg245
 z105:=Tryz.sizeOf245
 v105:=Tryz.zeroValue245
 t119:=Tryz.underlying260
 a119:=Tryz.isAgg260
 z119:=Tryz.sizeOf260
 t127:=Tryz.underlying211
 a127:=Tryz.isAgg211
 z127:=Tryz.sizeOf211
 v127:=Tryz.zeroValue211
 t138:=Tryz.underlying262
 a138:=Tryz.isAgg262
 z138:=Tryz.sizeOf262
 v138:=Tryz.zeroValue262
 t139:=Tryz.underlying263
 a139:=Tryz.isAgg263
 z139:=Tryz.sizeOf263
 v139:=Tryz.zeroValue263
 t146:=Tryz.underlying420
 a146:=Tryz.isAgg420
 z146:=Tryz.sizeOf420
 v146:=Tryz.zeroValue420
 t164:=Tryz.underlying275
 a164:=Tryz.isAgg275
 z164:=Tryz.sizeOf275
 v164:=Tryz.zeroValue275
 g1:=by kernel_rfl
 g3:=by kernel_rfl
 g4:=by kernel_rfl}
theorem Tryz.xU:Builder.Extra Tryz.prog Tryz.yR:={
 sizeBuilder:=by kernel_rfl
 liesBuilder:=by kernel_rfl
 t5:=Tryz.underlying5
 a5:=Tryz.isAgg5
 z5:=Tryz.sizeOf5
 v5:=Tryz.zeroValue5
 infoByte:=by kernel_rfl
 cellsByte:=by kernel_rfl
 sizeByte:=by kernel_rfl
 neB5:=by decide}
open Go.RowKit Go.Lib in
theorem Tryz.strings_ReplaceAll(s h new:dE)(m:Int)(w:fe)(I:s.size<4294967281)(N:w.cell? ⟨6,0,none⟩=some (.int .i64 m))(O:1<=h.size)(u:s.size+Lib.countB s h*new.size<=140737488355328):
 Calls Tryz.prog 105 #[.string s,.string h,.string new] w λe w'=>
  e=.returned (.string ⟨(Lib.replaceAll s.data.toList h.data.toList new.data.toList).toArray⟩)/\Below w.heap.size w w':=Any.strings_ReplaceAll Tryz.P4 Tryz.xU s h new m w I N O u
def Tryz.Fh:Go.Shelf.Ren:=⟨λ|197=>193|260=>247|n=>n,λ|9=>9|21=>21|3=>3|4=>4|5=>5|105=>245|119=>260|0=>0|46=>22|139=>263|138=>262|n=>n,λ|3=>0|4=>1|n=>n⟩
theorem Tryz.P3:Go.Proofs.Lays.n197 Tryz.prog Tryz.Fh:={
 mixed:=by kernel_rfl
 f197:=Tryz.func193.trans (congrArg some (by kernel_rfl))
 f260:=Tryz.func247.trans (congrArg some (by kernel_rfl))
 t0:=Tryz.underlying0
 a0:=Tryz.isAgg0
 z0:=Tryz.sizeOf0
 v0:=Tryz.zeroValue0
 t3:=Tryz.underlying3
 a3:=Tryz.isAgg3
 z3:=Tryz.sizeOf3
 v3:=Tryz.zeroValue3
 t4:=Tryz.underlying4
 a4:=Tryz.isAgg4
 z4:=Tryz.sizeOf4
 v4:=Tryz.zeroValue4
 t5:=Tryz.underlying5
 a5:=Tryz.isAgg5
 z5:=Tryz.sizeOf5
 v5:=Tryz.zeroValue5
 t9:=Tryz.underlying9
 a9:=Tryz.isAgg9
 z9:=Tryz.sizeOf9
 v9:=Tryz.zeroValue9
 t21:=Tryz.underlying21
 a21:=Tryz.isAgg21
 z21:=Tryz.sizeOf21
 v21:=Tryz.zeroValue21
 t46:=Tryz.underlying22
 a46:=Tryz.isAgg22
 z46:=Tryz.sizeOf22
 v46:=Tryz.zeroValue22
 t105:=Tryz.underlying245
 a105:=Tryz.isAgg245
 z105:=Tryz.sizeOf245
 v105:=Tryz.zeroValue245
 t119:=Tryz.underlying260
 a119:=Tryz.isAgg260
 z119:=Tryz.sizeOf260
 t138:=Tryz.underlying262
 a138:=Tryz.isAgg262
 z138:=Tryz.sizeOf262
 v138:=Tryz.zeroValue262
 t139:=Tryz.underlying263
 a139:=Tryz.isAgg263
 z139:=Tryz.sizeOf263
 v139:=Tryz.zeroValue263
 g3:=by kernel_rfl
 g4:=by kernel_rfl}
open Go.RowKit Go.Lib in
theorem Tryz.utf8_DecodeRuneInString_ascii(s:dE)(x:UInt8)(w:fe)(h:s.data.toList[0]?=some x)(u:x.toNat<128):
 Calls Tryz.prog 193 #[.string s] w λe w'=>e=.returned (.tuple #[.int .i32 x.toNat,.int .i64 1])/\w'=w:=Any.utf8_DecodeRuneInString_ascii Tryz.P3 s x w h u
def Tryz.Fi:Go.Shelf.Ren:=⟨λ|153=>321|152=>357|226=>359|227=>360|228=>361|137=>388|119=>389|224=>332|225=>331|217=>330|266=>368|n=>n,λ|9=>9|3=>3|4=>4|5=>5|21=>21|117=>409|116=>408|0=>0|46=>22|124=>437|n=>n,λ|n=>n⟩
theorem Tryz.IZ:Go.Proofs.Lays.n153 Tryz.prog Tryz.Fi:={
 mixed:=by kernel_rfl
 f119:=Tryz.func389.trans (congrArg some (by kernel_rfl))
 f137:=Tryz.func388.trans (congrArg some (by kernel_rfl))
 f152:=Tryz.func357.trans (congrArg some (by kernel_rfl))
 f153:=Tryz.func321.trans (congrArg some (by kernel_rfl))
 f217:=Tryz.func330.trans (congrArg some (by kernel_rfl))
 f224:=Tryz.func332.trans (congrArg some (by kernel_rfl))
 f225:=Tryz.func331.trans (congrArg some (by kernel_rfl))
 f226:=Tryz.func359.trans (congrArg some (by kernel_rfl))
 f227:=Tryz.func360.trans (congrArg some (by kernel_rfl))
 f228:=Tryz.func361.trans (congrArg some (by kernel_rfl))
 f266:=Tryz.func368.trans (congrArg some (by kernel_rfl))
 t0:=Tryz.underlying0
 a0:=Tryz.isAgg0
 z0:=Tryz.sizeOf0
 v0:=Tryz.zeroValue0
 t3:=Tryz.underlying3
 a3:=Tryz.isAgg3
 z3:=Tryz.sizeOf3
 v3:=Tryz.zeroValue3
 t4:=Tryz.underlying4
 a4:=Tryz.isAgg4
 z4:=Tryz.sizeOf4
 v4:=Tryz.zeroValue4
 t5:=Tryz.underlying5
 a5:=Tryz.isAgg5
 z5:=Tryz.sizeOf5
 v5:=Tryz.zeroValue5
 t9:=Tryz.underlying9
 a9:=Tryz.isAgg9
 z9:=Tryz.sizeOf9
 v9:=Tryz.zeroValue9
 t21:=Tryz.underlying21
 a21:=Tryz.isAgg21
 z21:=Tryz.sizeOf21
 v21:=Tryz.zeroValue21
 t46:=Tryz.underlying22
 a46:=Tryz.isAgg22
 z46:=Tryz.sizeOf22
 v46:=Tryz.zeroValue22
 t116:=Tryz.underlying408
 a116:=Tryz.isAgg408
 z116:=Tryz.sizeOf408
 t117:=Tryz.underlying409
 a117:=Tryz.isAgg409
 z117:=Tryz.sizeOf409
 v117:=Tryz.zeroValue409
 t124:=Tryz.underlying437
 a124:=Tryz.isAgg437
 z124:=Tryz.sizeOf437
 v124:=Tryz.zeroValue437}
open Go.RowKit Go.Lib in
theorem Tryz.strings_IndexAny_laid(s h:dE)(w:fe)(O:s.size<4294967281)(u:h.size<4294967281)(I:∀(j:Nat) b,s.data.toList[j]?=some b->b.toNat<128)(N:∀(j:Nat) b,h.data.toList[j]?=some b->b.toNat<128):
 Calls Tryz.prog 321 #[.string s,.string h] w λe w'=>e=.returned (.int .i64 (Lib.indexAny s.data.toList h.data.toList))/\Below w.heap.size w w':=Any.strings_IndexAny_laid Tryz.IZ (by kernel_rfl) s h w O u I N
def Tryz.BF:Go.Shelf.Ren:=⟨λ|139=>57|116=>102|115=>186|n=>n,λ|37=>26|4=>4|3=>3|9=>9|5=>5|n=>n,λ|n=>n⟩
theorem Tryz.Kv:Go.Proofs.Lays.nb139 Tryz.prog Tryz.BF:={
 mixed:=by kernel_rfl
 f115:=Tryz.func186.trans (congrArg some (by kernel_rfl))
 f116:=Tryz.func102.trans (congrArg some (by kernel_rfl))
 f139:=Tryz.func57.trans (congrArg some (by kernel_rfl))
 t3:=Tryz.underlying3
 a3:=Tryz.isAgg3
 z3:=Tryz.sizeOf3
 v3:=Tryz.zeroValue3
 t4:=Tryz.underlying4
 a4:=Tryz.isAgg4
 z4:=Tryz.sizeOf4
 v4:=Tryz.zeroValue4
 t9:=Tryz.underlying9
 a9:=Tryz.isAgg9
 z9:=Tryz.sizeOf9
 v9:=Tryz.zeroValue9
 t37:=Tryz.underlying26
 a37:=Tryz.isAgg26
 z37:=Tryz.sizeOf26
 v37:=Tryz.zeroValue26
 t5:=Tryz.underlying5
 a5:=Tryz.isAgg5
 z5:=Tryz.sizeOf5
 v5:=Tryz.zeroValue5}
theorem Tryz.bytes_TrimPrefix_all(h u:dC)(n c m d:Nat)(xs ys:List Int)(w:fe)(N:xs.length=n)(O:ys.length=m)(I:n<=c)(W:Lib.BytesIn w h n xs)(Y:Lib.BytesIn w u m ys):
 Calls Tryz.prog 57 #[.slice h n c,.slice u m d] w λe w'=>e=.returned (Lib.trimPrefixV h n c xs ys)/\w'=w:=Any.bytes_TrimPrefix_all Tryz.Kv h u n c m d xs ys w N O I W Y
end Go.Proofs
