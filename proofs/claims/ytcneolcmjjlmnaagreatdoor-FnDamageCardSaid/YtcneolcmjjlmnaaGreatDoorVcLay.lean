import Derived.Shelf.LaysM
import Derived.Shelf.Lays
import Derived.Shelf.Strings.BuilderX
import Derived.Shelf.LaysC
import Derived.Shelf.SlLaysF
import Derived.Shelf.SlLaysF0
import Derived.Shelf.SlLaysM
import Derived.Test.YtcneolcmjjlmnaaGreatDoorProg
import Derived.KernelRfl
namespace Go.Proofs
set_option linter.unusedVariables false
set_option linter.unusedSimpArgs false
open Go.Shelf
theorem layF {P:Program} {n:Nat} {A:Func} (h:(((P.funcs[n]?).map Func.name).getD "" == "runtime.NumGoroutine")=false) (k:P.funcs[n]?=some { A with name:=((P.funcs[n]?).map Func.name).getD "" }):Bears P n A:=⟨_,h,k⟩
theorem layG {G:Prop} (h:G:=by repeat' first|kernel_rfl|(intro w;kernel_rfl)|exact layF (by kernel_rfl) (by kernel_rfl)|decide|constructor):G:=h
def Tryz.sortF_ren:Go.Shelf.Ren:=⟨fun|6=>333|15=>318|14=>359|28=>357|29=>270|20=>376|21=>377|22=>378|23=>379|24=>380|25=>381|26=>382|27=>383|46=>397|47=>372|48=>373|49=>398|50=>399|57=>403|n=>n,fun|22=>43|24=>95|25=>254|3=>3|39=>121|0=>0|53=>307|55=>52|4=>4|46=>357|45=>356|50=>229|5=>5|9=>9|66=>370|70=>374|76=>389|77=>390|n=>n,fun|n=>n⟩
theorem Tryz.sortF:Go.Proofs.SlLaysF.n6 Tryz.prog Tryz.sortF_ren:=layG
def Tryz.sortG_ren:Go.Shelf.Ren:=⟨fun|6=>333|15=>318|14=>359|28=>357|29=>270|20=>376|21=>377|22=>378|23=>379|24=>380|25=>381|26=>382|27=>383|46=>397|47=>372|48=>373|49=>398|50=>399|57=>403|n=>n,fun|22=>43|24=>95|25=>254|3=>3|39=>121|0=>0|53=>307|55=>52|4=>4|46=>357|45=>356|50=>229|5=>5|9=>9|66=>370|70=>374|76=>389|77=>390|n=>n,fun|n=>n⟩
theorem Tryz.sortG:Go.Proofs.SlLaysF0.n6 Tryz.prog Tryz.sortG_ren:=layG
def Tryz.sortK_ren:Go.Shelf.Ren:=⟨fun|6=>336|15=>318|14=>360|28=>357|29=>270|20=>384|21=>385|22=>386|23=>387|24=>388|25=>389|26=>390|27=>391|46=>400|47=>372|48=>373|49=>401|50=>402|57=>404|n=>n,fun|22=>102|24=>161|25=>324|3=>3|39=>121|0=>0|53=>307|55=>52|4=>4|46=>357|45=>356|50=>229|5=>5|9=>9|66=>370|70=>374|76=>389|77=>390|n=>n,fun|n=>n⟩
theorem Tryz.sortK:Go.Proofs.SlLaysF0.n6 Tryz.prog Tryz.sortK_ren:=layG
def Tryz.sortM_ren:Go.Shelf.Ren:=⟨fun|5=>280|8=>318|7=>317|19=>357|20=>270|10=>348|11=>349|12=>350|13=>351|14=>352|15=>353|16=>354|17=>355|18=>356|30=>371|31=>372|32=>373|33=>374|34=>375|35=>320|40=>396|n=>n,fun|23=>95|25=>2|3=>3|32=>121|22=>95|0=>0|44=>307|46=>52|4=>4|36=>357|35=>356|41=>229|5=>5|9=>9|53=>370|57=>374|63=>389|64=>390|n=>n,fun|n=>n⟩
theorem Tryz.sortM:Go.Proofs.SlLaysM.n5 Tryz.prog Tryz.sortM_ren:=layG
def Tryz.fmtM_ren:Go.Shelf.Ren:=⟨fun|173=>69|246=>133|283=>207|284=>208|285=>209|286=>210|129=>270|317=>269|318=>271|319=>272|320=>273|337=>315|338=>316|n=>n,fun|2=>2|3=>3|9=>9|4=>4|171=>244|0=>0|53=>52|37=>22|5=>5|173=>247|212=>306|51=>307|20=>20|213=>308|46=>121|232=>353|233=>354|n=>n,fun|17=>3|18=>6|19=>7|n=>n⟩
theorem Tryz.fmtM:Go.Proofs.LaysM.n173 Tryz.prog Tryz.fmtM_ren:=layG
def Tryz.joinL_ren:Go.Shelf.Ren:=⟨fun|156=>150|165=>236|166=>237|169=>238|240=>301|241=>302|276=>334|277=>335|n=>n,fun|31=>40|9=>9|3=>3|4=>4|0=>0|20=>20|72=>269|76=>271|70=>267|37=>22|75=>117|127=>326|164=>346|5=>5|80=>273|n=>n,fun|n=>n⟩
theorem Tryz.joinL:Go.Proofs.Lays.n156 Tryz.prog Tryz.joinL_ren:=layG
theorem Tryz.joinL_x:Builder.Extra Tryz.prog Tryz.joinL_ren:=layG
def Tryz.splitL_ren:Go.Shelf.Ren:=⟨fun|146=>28|221=>65|268=>127|138=>128|143=>129|195=>199|197=>200|218=>201|219=>134|260=>263|217=>211|225=>212|224=>213|267=>214|266=>274|314=>275|n=>n,fun|9=>9|31=>40|3=>3|4=>4|0=>0|105=>235|21=>21|5=>5|46=>121|119=>334|139=>337|138=>336|146=>311|51=>307|n=>n,fun|1=>0|3=>4|4=>5|n=>n⟩
theorem Tryz.splitL:Go.Proofs.Lays.n146 Tryz.prog Tryz.splitL_ren:=layG
def Tryz.cutL_ren:Go.Shelf.Ren:=⟨fun|145=>36|220=>71|219=>134|217=>211|225=>212|224=>213|267=>214|266=>274|314=>275|n=>n,fun|9=>9|4=>4|59=>73|3=>3|5=>5|46=>121|146=>311|51=>307|n=>n,fun|1=>0|n=>n⟩
theorem Tryz.cutL:Go.Proofs.Lays.n145 Tryz.prog Tryz.cutL_ren:=layG
def Tryz.parseL_ren:Go.Shelf.Ren:=⟨fun|174=>67|247=>130|245=>131|287=>202|279=>203|280=>204|281=>205|282=>206|321=>264|322=>265|316=>266|171=>268|205=>267|243=>314|246=>133|283=>207|284=>208|285=>209|286=>210|129=>270|317=>269|318=>271|319=>272|320=>273|337=>315|338=>316|n=>n,fun|9=>9|3=>3|2=>2|75=>117|85=>118|4=>4|167=>237|5=>5|53=>52|175=>238|46=>121|168=>240|37=>22|0=>0|210=>303|21=>21|127=>326|145=>340|143=>338|171=>244|173=>247|212=>306|51=>307|20=>20|213=>308|232=>353|233=>354|80=>273|n=>n,fun|15=>1|16=>2|17=>3|18=>6|19=>7|n=>n⟩
theorem Tryz.parseL:Go.Proofs.LaysC.n174 Tryz.prog Tryz.parseL_ren:=layG
end Go.Proofs
