/- The code is the program's. -/
import Derived.Test.YthbfflleggnoaaaGreatDoorProg
import Derived.Test.YthbfflleggnoaaaGreatDoorVmRow
import Derived.Test.YthbfflleggnoaaaGreatDoorEnvA
set_option maxRecDepth 100000
namespace Go.Vm.Tryz
open Go Go.Vm Go.Proofs
theorem fit3 : fitFn Tryz.prog Tryz.f3 s3 = true := by kernel_rfl
theorem at3 : Tryz.prog.funcs[3]? = some Tryz.f3 := by kernel_rfl
theorem fit7 : fitFn Tryz.prog Tryz.f7 s7 = true := by kernel_rfl
theorem at7 : Tryz.prog.funcs[7]? = some Tryz.f7 := by kernel_rfl
theorem fit8 : fitFn Tryz.prog Tryz.f8 s8 = true := by kernel_rfl
theorem at8 : Tryz.prog.funcs[8]? = some Tryz.f8 := by kernel_rfl
theorem fit9 : fitFn Tryz.prog Tryz.f9 s9 = true := by kernel_rfl
theorem at9 : Tryz.prog.funcs[9]? = some Tryz.f9 := by kernel_rfl
theorem fit10 : fitFn Tryz.prog Tryz.f10 s10 = true := by kernel_rfl
theorem at10 : Tryz.prog.funcs[10]? = some Tryz.f10 := by kernel_rfl
theorem fit11 : fitFn Tryz.prog Tryz.f11 s11 = true := by kernel_rfl
theorem at11 : Tryz.prog.funcs[11]? = some Tryz.f11 := by kernel_rfl
theorem fit12 : fitFn Tryz.prog Tryz.f12 s12 = true := by kernel_rfl
theorem at12 : Tryz.prog.funcs[12]? = some Tryz.f12 := by kernel_rfl
theorem fit31 : fitFn Tryz.prog Tryz.f31 s31 = true := by kernel_rfl
theorem at31 : Tryz.prog.funcs[31]? = some Tryz.f31 := by kernel_rfl
theorem fit32 : fitFn Tryz.prog Tryz.f32 s32 = true := by kernel_rfl
theorem at32 : Tryz.prog.funcs[32]? = some Tryz.f32 := by kernel_rfl
theorem fit33 : fitFn Tryz.prog Tryz.f33 s33 = true := by kernel_rfl
theorem at33 : Tryz.prog.funcs[33]? = some Tryz.f33 := by kernel_rfl
theorem fit34 : fitFn Tryz.prog Tryz.f34 s34 = true := by kernel_rfl
theorem at34 : Tryz.prog.funcs[34]? = some Tryz.f34 := by kernel_rfl
theorem fit67 : fitFn Tryz.prog Tryz.f67 s67 = true := by kernel_rfl
theorem at67 : Tryz.prog.funcs[67]? = some Tryz.f67 := by kernel_rfl
theorem fit68 : fitFn Tryz.prog Tryz.f68 s68 = true := by kernel_rfl
theorem at68 : Tryz.prog.funcs[68]? = some Tryz.f68 := by kernel_rfl
theorem fit69 : fitFn Tryz.prog Tryz.f69 s69 = true := by kernel_rfl
theorem at69 : Tryz.prog.funcs[69]? = some Tryz.f69 := by kernel_rfl
theorem fit70 : fitFn Tryz.prog Tryz.f70 s70 = true := by kernel_rfl
theorem at70 : Tryz.prog.funcs[70]? = some Tryz.f70 := by kernel_rfl
theorem fit71 : fitFn Tryz.prog Tryz.f71 s71 = true := by kernel_rfl
theorem at71 : Tryz.prog.funcs[71]? = some Tryz.f71 := by kernel_rfl
theorem fit72 : fitFn Tryz.prog Tryz.f72 s72 = true := by kernel_rfl
theorem at72 : Tryz.prog.funcs[72]? = some Tryz.f72 := by kernel_rfl
theorem fit73 : fitFn Tryz.prog Tryz.f73 s73 = true := by kernel_rfl
theorem at73 : Tryz.prog.funcs[73]? = some Tryz.f73 := by kernel_rfl
theorem fit74 : fitFn Tryz.prog Tryz.f74 s74 = true := by kernel_rfl
theorem at74 : Tryz.prog.funcs[74]? = some Tryz.f74 := by kernel_rfl
theorem fit75 : fitFn Tryz.prog Tryz.f75 s75 = true := by kernel_rfl
theorem at75 : Tryz.prog.funcs[75]? = some Tryz.f75 := by kernel_rfl
theorem fit76 : fitFn Tryz.prog Tryz.f76 s76 = true := by kernel_rfl
theorem at76 : Tryz.prog.funcs[76]? = some Tryz.f76 := by kernel_rfl
theorem fit77 : fitFn Tryz.prog Tryz.f77 s77 = true := by kernel_rfl
theorem at77 : Tryz.prog.funcs[77]? = some Tryz.f77 := by kernel_rfl
theorem fit79 : fitFn Tryz.prog Tryz.f79 s79 = true := by kernel_rfl
theorem at79 : Tryz.prog.funcs[79]? = some Tryz.f79 := by kernel_rfl
theorem fit82 : fitFn Tryz.prog Tryz.f82 s82 = true := by kernel_rfl
theorem at82 : Tryz.prog.funcs[82]? = some Tryz.f82 := by kernel_rfl
theorem fit83 : fitFn Tryz.prog Tryz.f83 s83 = true := by kernel_rfl
theorem at83 : Tryz.prog.funcs[83]? = some Tryz.f83 := by kernel_rfl
theorem fit84 : fitFn Tryz.prog Tryz.f84 s84 = true := by kernel_rfl
theorem at84 : Tryz.prog.funcs[84]? = some Tryz.f84 := by kernel_rfl
theorem fit85 : fitFn Tryz.prog Tryz.f85 s85 = true := by kernel_rfl
theorem at85 : Tryz.prog.funcs[85]? = some Tryz.f85 := by kernel_rfl
theorem fit86 : fitFn Tryz.prog Tryz.f86 s86 = true := by kernel_rfl
theorem at86 : Tryz.prog.funcs[86]? = some Tryz.f86 := by kernel_rfl
theorem fit89 : fitFn Tryz.prog Tryz.f89 s89 = true := by kernel_rfl
theorem at89 : Tryz.prog.funcs[89]? = some Tryz.f89 := by kernel_rfl
theorem fit90 : fitFn Tryz.prog Tryz.f90 s90 = true := by kernel_rfl
theorem at90 : Tryz.prog.funcs[90]? = some Tryz.f90 := by kernel_rfl
theorem fit113 : fitFn Tryz.prog Tryz.f113 s113 = true := by kernel_rfl
theorem at113 : Tryz.prog.funcs[113]? = some Tryz.f113 := by kernel_rfl
theorem fit114 : fitFn Tryz.prog Tryz.f114 s114 = true := by kernel_rfl
theorem at114 : Tryz.prog.funcs[114]? = some Tryz.f114 := by kernel_rfl
theorem fit115 : fitFn Tryz.prog Tryz.f115 s115 = true := by kernel_rfl
theorem at115 : Tryz.prog.funcs[115]? = some Tryz.f115 := by kernel_rfl
theorem fit116 : fitFn Tryz.prog Tryz.f116 s116 = true := by kernel_rfl
theorem at116 : Tryz.prog.funcs[116]? = some Tryz.f116 := by kernel_rfl
theorem fit117 : fitFn Tryz.prog Tryz.f117 s117 = true := by kernel_rfl
theorem at117 : Tryz.prog.funcs[117]? = some Tryz.f117 := by kernel_rfl
theorem fit118 : fitFn Tryz.prog Tryz.f118 s118 = true := by kernel_rfl
theorem at118 : Tryz.prog.funcs[118]? = some Tryz.f118 := by kernel_rfl
theorem fit120 : fitFn Tryz.prog Tryz.f120 s120 = true := by kernel_rfl
theorem at120 : Tryz.prog.funcs[120]? = some Tryz.f120 := by kernel_rfl
theorem fit121 : fitFn Tryz.prog Tryz.f121 s121 = true := by kernel_rfl
theorem at121 : Tryz.prog.funcs[121]? = some Tryz.f121 := by kernel_rfl
theorem fit122 : fitFn Tryz.prog Tryz.f122 s122 = true := by kernel_rfl
theorem at122 : Tryz.prog.funcs[122]? = some Tryz.f122 := by kernel_rfl
theorem fit123 : fitFn Tryz.prog Tryz.f123 s123 = true := by kernel_rfl
theorem at123 : Tryz.prog.funcs[123]? = some Tryz.f123 := by kernel_rfl
theorem fit124 : fitFn Tryz.prog Tryz.f124 s124 = true := by kernel_rfl
theorem at124 : Tryz.prog.funcs[124]? = some Tryz.f124 := by kernel_rfl
theorem fit125 : fitFn Tryz.prog Tryz.f125 s125 = true := by kernel_rfl
theorem at125 : Tryz.prog.funcs[125]? = some Tryz.f125 := by kernel_rfl
theorem fit126 : fitFn Tryz.prog Tryz.f126 s126 = true := by kernel_rfl
theorem at126 : Tryz.prog.funcs[126]? = some Tryz.f126 := by kernel_rfl
theorem fit127 : fitFn Tryz.prog Tryz.f127 s127 = true := by kernel_rfl
theorem at127 : Tryz.prog.funcs[127]? = some Tryz.f127 := by kernel_rfl
theorem fit129 : fitFn Tryz.prog Tryz.f129 s129 = true := by kernel_rfl
theorem at129 : Tryz.prog.funcs[129]? = some Tryz.f129 := by kernel_rfl
theorem fit131 : fitFn Tryz.prog Tryz.f131 s131 = true := by kernel_rfl
theorem at131 : Tryz.prog.funcs[131]? = some Tryz.f131 := by kernel_rfl
theorem fit132 : fitFn Tryz.prog Tryz.f132 s132 = true := by kernel_rfl
theorem at132 : Tryz.prog.funcs[132]? = some Tryz.f132 := by kernel_rfl
theorem fit139 : fitFn Tryz.prog Tryz.f139 s139 = true := by kernel_rfl
theorem at139 : Tryz.prog.funcs[139]? = some Tryz.f139 := by kernel_rfl
theorem fit140 : fitFn Tryz.prog Tryz.f140 s140 = true := by kernel_rfl
theorem at140 : Tryz.prog.funcs[140]? = some Tryz.f140 := by kernel_rfl
theorem fit141 : fitFn Tryz.prog Tryz.f141 s141 = true := by kernel_rfl
theorem at141 : Tryz.prog.funcs[141]? = some Tryz.f141 := by kernel_rfl
theorem fit142 : fitFn Tryz.prog Tryz.f142 s142 = true := by kernel_rfl
theorem at142 : Tryz.prog.funcs[142]? = some Tryz.f142 := by kernel_rfl
theorem fit143 : fitFn Tryz.prog Tryz.f143 s143 = true := by kernel_rfl
theorem at143 : Tryz.prog.funcs[143]? = some Tryz.f143 := by kernel_rfl
theorem fit148 : fitFn Tryz.prog Tryz.f148 s148 = true := by kernel_rfl
theorem at148 : Tryz.prog.funcs[148]? = some Tryz.f148 := by kernel_rfl
theorem fit149 : fitFn Tryz.prog Tryz.f149 s149 = true := by kernel_rfl
theorem at149 : Tryz.prog.funcs[149]? = some Tryz.f149 := by kernel_rfl
theorem fit150 : fitFn Tryz.prog Tryz.f150 s150 = true := by kernel_rfl
theorem at150 : Tryz.prog.funcs[150]? = some Tryz.f150 := by kernel_rfl
theorem fit151 : fitFn Tryz.prog Tryz.f151 s151 = true := by kernel_rfl
theorem at151 : Tryz.prog.funcs[151]? = some Tryz.f151 := by kernel_rfl
theorem fit155 : fitFn Tryz.prog Tryz.f155 s155 = true := by kernel_rfl
theorem at155 : Tryz.prog.funcs[155]? = some Tryz.f155 := by kernel_rfl
theorem fit160 : fitFn Tryz.prog Tryz.f160 s160 = true := by kernel_rfl
theorem at160 : Tryz.prog.funcs[160]? = some Tryz.f160 := by kernel_rfl
theorem fit166 : fitFn Tryz.prog Tryz.f166 s166 = true := by kernel_rfl
theorem at166 : Tryz.prog.funcs[166]? = some Tryz.f166 := by kernel_rfl
theorem fit167 : fitFn Tryz.prog Tryz.f167 s167 = true := by kernel_rfl
theorem at167 : Tryz.prog.funcs[167]? = some Tryz.f167 := by kernel_rfl
theorem fit168 : fitFn Tryz.prog Tryz.f168 s168 = true := by kernel_rfl
theorem at168 : Tryz.prog.funcs[168]? = some Tryz.f168 := by kernel_rfl
theorem fit169 : fitFn Tryz.prog Tryz.f169 s169 = true := by kernel_rfl
theorem at169 : Tryz.prog.funcs[169]? = some Tryz.f169 := by kernel_rfl
theorem fit180 : fitFn Tryz.prog Tryz.f180 s180 = true := by kernel_rfl
theorem at180 : Tryz.prog.funcs[180]? = some Tryz.f180 := by kernel_rfl
theorem fit181 : fitFn Tryz.prog Tryz.f181 s181 = true := by kernel_rfl
theorem at181 : Tryz.prog.funcs[181]? = some Tryz.f181 := by kernel_rfl
theorem fit182 : fitFn Tryz.prog Tryz.f182 s182 = true := by kernel_rfl
theorem at182 : Tryz.prog.funcs[182]? = some Tryz.f182 := by kernel_rfl
theorem fit183 : fitFn Tryz.prog Tryz.f183 s183 = true := by kernel_rfl
theorem at183 : Tryz.prog.funcs[183]? = some Tryz.f183 := by kernel_rfl
theorem fit184 : fitFn Tryz.prog Tryz.f184 s184 = true := by kernel_rfl
theorem at184 : Tryz.prog.funcs[184]? = some Tryz.f184 := by kernel_rfl
theorem fit185 : fitFn Tryz.prog Tryz.f185 s185 = true := by kernel_rfl
theorem at185 : Tryz.prog.funcs[185]? = some Tryz.f185 := by kernel_rfl
theorem fit188 : fitFn Tryz.prog Tryz.f188 s188 = true := by kernel_rfl
theorem at188 : Tryz.prog.funcs[188]? = some Tryz.f188 := by kernel_rfl
theorem fit189 : fitFn Tryz.prog Tryz.f189 s189 = true := by kernel_rfl
theorem at189 : Tryz.prog.funcs[189]? = some Tryz.f189 := by kernel_rfl
theorem fit190 : fitFn Tryz.prog Tryz.f190 s190 = true := by kernel_rfl
theorem at190 : Tryz.prog.funcs[190]? = some Tryz.f190 := by kernel_rfl
theorem fit191 : fitFn Tryz.prog Tryz.f191 s191 = true := by kernel_rfl
theorem at191 : Tryz.prog.funcs[191]? = some Tryz.f191 := by kernel_rfl
theorem fit192 : fitFn Tryz.prog Tryz.f192 s192 = true := by kernel_rfl
theorem at192 : Tryz.prog.funcs[192]? = some Tryz.f192 := by kernel_rfl
theorem fit193 : fitFn Tryz.prog Tryz.f193 s193 = true := by kernel_rfl
theorem at193 : Tryz.prog.funcs[193]? = some Tryz.f193 := by kernel_rfl
theorem fit194 : fitFn Tryz.prog Tryz.f194 s194 = true := by kernel_rfl
theorem at194 : Tryz.prog.funcs[194]? = some Tryz.f194 := by kernel_rfl
theorem fit195 : fitFn Tryz.prog Tryz.f195 s195 = true := by kernel_rfl
theorem at195 : Tryz.prog.funcs[195]? = some Tryz.f195 := by kernel_rfl
theorem fit196 : fitFn Tryz.prog Tryz.f196 s196 = true := by kernel_rfl
theorem at196 : Tryz.prog.funcs[196]? = some Tryz.f196 := by kernel_rfl
theorem fit197 : fitFn Tryz.prog Tryz.f197 s197 = true := by kernel_rfl
theorem at197 : Tryz.prog.funcs[197]? = some Tryz.f197 := by kernel_rfl
theorem fit198 : fitFn Tryz.prog Tryz.f198 s198 = true := by kernel_rfl
theorem at198 : Tryz.prog.funcs[198]? = some Tryz.f198 := by kernel_rfl
theorem fit199 : fitFn Tryz.prog Tryz.f199 s199 = true := by kernel_rfl
theorem at199 : Tryz.prog.funcs[199]? = some Tryz.f199 := by kernel_rfl
theorem fit203 : fitFn Tryz.prog Tryz.f203 s203 = true := by kernel_rfl
theorem at203 : Tryz.prog.funcs[203]? = some Tryz.f203 := by kernel_rfl
theorem fit205 : fitFn Tryz.prog Tryz.f205 s205 = true := by kernel_rfl
theorem at205 : Tryz.prog.funcs[205]? = some Tryz.f205 := by kernel_rfl
theorem fit207 : fitFn Tryz.prog Tryz.f207 s207 = true := by kernel_rfl
theorem at207 : Tryz.prog.funcs[207]? = some Tryz.f207 := by kernel_rfl
theorem fit208 : fitFn Tryz.prog Tryz.f208 s208 = true := by kernel_rfl
theorem at208 : Tryz.prog.funcs[208]? = some Tryz.f208 := by kernel_rfl
theorem fit211 : fitFn Tryz.prog Tryz.f211 s211 = true := by kernel_rfl
theorem at211 : Tryz.prog.funcs[211]? = some Tryz.f211 := by kernel_rfl
theorem fit214 : fitFn Tryz.prog Tryz.f214 s214 = true := by kernel_rfl
theorem at214 : Tryz.prog.funcs[214]? = some Tryz.f214 := by kernel_rfl
theorem fit215 : fitFn Tryz.prog Tryz.f215 s215 = true := by kernel_rfl
theorem at215 : Tryz.prog.funcs[215]? = some Tryz.f215 := by kernel_rfl
theorem fit217 : fitFn Tryz.prog Tryz.f217 s217 = true := by kernel_rfl
theorem at217 : Tryz.prog.funcs[217]? = some Tryz.f217 := by kernel_rfl
theorem fit218 : fitFn Tryz.prog Tryz.f218 s218 = true := by kernel_rfl
theorem at218 : Tryz.prog.funcs[218]? = some Tryz.f218 := by kernel_rfl
theorem fit219 : fitFn Tryz.prog Tryz.f219 s219 = true := by kernel_rfl
theorem at219 : Tryz.prog.funcs[219]? = some Tryz.f219 := by kernel_rfl
theorem fit221 : fitFn Tryz.prog Tryz.f221 s221 = true := by kernel_rfl
theorem at221 : Tryz.prog.funcs[221]? = some Tryz.f221 := by kernel_rfl
theorem fit222 : fitFn Tryz.prog Tryz.f222 s222 = true := by kernel_rfl
theorem at222 : Tryz.prog.funcs[222]? = some Tryz.f222 := by kernel_rfl
theorem fit223 : fitFn Tryz.prog Tryz.f223 s223 = true := by kernel_rfl
theorem at223 : Tryz.prog.funcs[223]? = some Tryz.f223 := by kernel_rfl
theorem fit224 : fitFn Tryz.prog Tryz.f224 s224 = true := by kernel_rfl
theorem at224 : Tryz.prog.funcs[224]? = some Tryz.f224 := by kernel_rfl
theorem fit225 : fitFn Tryz.prog Tryz.f225 s225 = true := by kernel_rfl
theorem at225 : Tryz.prog.funcs[225]? = some Tryz.f225 := by kernel_rfl
theorem fit226 : fitFn Tryz.prog Tryz.f226 s226 = true := by kernel_rfl
theorem at226 : Tryz.prog.funcs[226]? = some Tryz.f226 := by kernel_rfl
theorem fit227 : fitFn Tryz.prog Tryz.f227 s227 = true := by kernel_rfl
theorem at227 : Tryz.prog.funcs[227]? = some Tryz.f227 := by kernel_rfl
theorem fit229 : fitFn Tryz.prog Tryz.f229 s229 = true := by kernel_rfl
theorem at229 : Tryz.prog.funcs[229]? = some Tryz.f229 := by kernel_rfl
theorem fit230 : fitFn Tryz.prog Tryz.f230 s230 = true := by kernel_rfl
theorem at230 : Tryz.prog.funcs[230]? = some Tryz.f230 := by kernel_rfl
theorem fit231 : fitFn Tryz.prog Tryz.f231 s231 = true := by kernel_rfl
theorem at231 : Tryz.prog.funcs[231]? = some Tryz.f231 := by kernel_rfl
theorem fit240 : fitFn Tryz.prog Tryz.f240 s240 = true := by kernel_rfl
theorem at240 : Tryz.prog.funcs[240]? = some Tryz.f240 := by kernel_rfl
theorem fit241 : fitFn Tryz.prog Tryz.f241 s241 = true := by kernel_rfl
theorem at241 : Tryz.prog.funcs[241]? = some Tryz.f241 := by kernel_rfl
theorem fit250 : fitFn Tryz.prog Tryz.f250 s250 = true := by kernel_rfl
theorem at250 : Tryz.prog.funcs[250]? = some Tryz.f250 := by kernel_rfl
theorem fit251 : fitFn Tryz.prog Tryz.f251 s251 = true := by kernel_rfl
theorem at251 : Tryz.prog.funcs[251]? = some Tryz.f251 := by kernel_rfl
theorem fit252 : fitFn Tryz.prog Tryz.f252 s252 = true := by kernel_rfl
theorem at252 : Tryz.prog.funcs[252]? = some Tryz.f252 := by kernel_rfl
theorem fit254 : fitFn Tryz.prog Tryz.f254 s254 = true := by kernel_rfl
theorem at254 : Tryz.prog.funcs[254]? = some Tryz.f254 := by kernel_rfl
theorem fit258 : fitFn Tryz.prog Tryz.f258 s258 = true := by kernel_rfl
theorem at258 : Tryz.prog.funcs[258]? = some Tryz.f258 := by kernel_rfl
theorem fit260 : fitFn Tryz.prog Tryz.f260 s260 = true := by kernel_rfl
theorem at260 : Tryz.prog.funcs[260]? = some Tryz.f260 := by kernel_rfl
theorem fit262 : fitFn Tryz.prog Tryz.f262 s262 = true := by kernel_rfl
theorem at262 : Tryz.prog.funcs[262]? = some Tryz.f262 := by kernel_rfl
theorem fit263 : fitFn Tryz.prog Tryz.f263 s263 = true := by kernel_rfl
theorem at263 : Tryz.prog.funcs[263]? = some Tryz.f263 := by kernel_rfl
theorem fit264 : fitFn Tryz.prog Tryz.f264 s264 = true := by kernel_rfl
theorem at264 : Tryz.prog.funcs[264]? = some Tryz.f264 := by kernel_rfl
theorem fit267 : fitFn Tryz.prog Tryz.f267 s267 = true := by kernel_rfl
theorem at267 : Tryz.prog.funcs[267]? = some Tryz.f267 := by kernel_rfl
theorem fit269 : fitFn Tryz.prog Tryz.f269 s269 = true := by kernel_rfl
theorem at269 : Tryz.prog.funcs[269]? = some Tryz.f269 := by kernel_rfl
theorem fit270 : fitFn Tryz.prog Tryz.f270 s270 = true := by kernel_rfl
theorem at270 : Tryz.prog.funcs[270]? = some Tryz.f270 := by kernel_rfl
theorem fit272 : fitFn Tryz.prog Tryz.f272 s272 = true := by kernel_rfl
theorem at272 : Tryz.prog.funcs[272]? = some Tryz.f272 := by kernel_rfl
theorem fit273 : fitFn Tryz.prog Tryz.f273 s273 = true := by kernel_rfl
theorem at273 : Tryz.prog.funcs[273]? = some Tryz.f273 := by kernel_rfl
theorem fit283 : fitFn Tryz.prog Tryz.f283 s283 = true := by kernel_rfl
theorem at283 : Tryz.prog.funcs[283]? = some Tryz.f283 := by kernel_rfl
theorem fit284 : fitFn Tryz.prog Tryz.f284 s284 = true := by kernel_rfl
theorem at284 : Tryz.prog.funcs[284]? = some Tryz.f284 := by kernel_rfl
theorem fit285 : fitFn Tryz.prog Tryz.f285 s285 = true := by kernel_rfl
theorem at285 : Tryz.prog.funcs[285]? = some Tryz.f285 := by kernel_rfl
theorem fit288 : fitFn Tryz.prog Tryz.f288 s288 = true := by kernel_rfl
theorem at288 : Tryz.prog.funcs[288]? = some Tryz.f288 := by kernel_rfl
theorem fit290 : fitFn Tryz.prog Tryz.f290 s290 = true := by kernel_rfl
theorem at290 : Tryz.prog.funcs[290]? = some Tryz.f290 := by kernel_rfl
theorem fit295 : fitFn Tryz.prog Tryz.f295 s295 = true := by kernel_rfl
theorem at295 : Tryz.prog.funcs[295]? = some Tryz.f295 := by kernel_rfl
theorem fit308 : fitFn Tryz.prog Tryz.f308 s308 = true := by kernel_rfl
theorem at308 : Tryz.prog.funcs[308]? = some Tryz.f308 := by kernel_rfl
theorem fit314 : fitFn Tryz.prog Tryz.f314 s314 = true := by kernel_rfl
theorem at314 : Tryz.prog.funcs[314]? = some Tryz.f314 := by kernel_rfl
theorem fit322 : fitFn Tryz.prog Tryz.f322 s322 = true := by kernel_rfl
theorem at322 : Tryz.prog.funcs[322]? = some Tryz.f322 := by kernel_rfl
theorem fitsAll : ∀ p ∈ fns, ∃ fn, Tryz.prog.funcs[p.1]? = some fn ∧ fitFn Tryz.prog fn p.2 = true := by
  unfold fns
  simp only [List.forall_mem_cons]
  exact ⟨⟨_, at3, fit3⟩, ⟨_, at7, fit7⟩, ⟨_, at8, fit8⟩, ⟨_, at9, fit9⟩, ⟨_, at10, fit10⟩, ⟨_, at11, fit11⟩, ⟨_, at12, fit12⟩, ⟨_, at31, fit31⟩, ⟨_, at32, fit32⟩, ⟨_, at33, fit33⟩, ⟨_, at34, fit34⟩, ⟨_, at67, fit67⟩, ⟨_, at68, fit68⟩, ⟨_, at69, fit69⟩, ⟨_, at70, fit70⟩, ⟨_, at71, fit71⟩, ⟨_, at72, fit72⟩, ⟨_, at73, fit73⟩, ⟨_, at74, fit74⟩, ⟨_, at75, fit75⟩, ⟨_, at76, fit76⟩, ⟨_, at77, fit77⟩, ⟨_, at79, fit79⟩, ⟨_, at82, fit82⟩, ⟨_, at83, fit83⟩, ⟨_, at84, fit84⟩, ⟨_, at85, fit85⟩, ⟨_, at86, fit86⟩, ⟨_, at89, fit89⟩, ⟨_, at90, fit90⟩, ⟨_, at113, fit113⟩, ⟨_, at114, fit114⟩, ⟨_, at115, fit115⟩, ⟨_, at116, fit116⟩, ⟨_, at117, fit117⟩, ⟨_, at118, fit118⟩, ⟨_, at120, fit120⟩, ⟨_, at121, fit121⟩, ⟨_, at122, fit122⟩, ⟨_, at123, fit123⟩, ⟨_, at124, fit124⟩, ⟨_, at125, fit125⟩, ⟨_, at126, fit126⟩, ⟨_, at127, fit127⟩, ⟨_, at129, fit129⟩, ⟨_, at131, fit131⟩, ⟨_, at132, fit132⟩, ⟨_, at139, fit139⟩, ⟨_, at140, fit140⟩, ⟨_, at141, fit141⟩, ⟨_, at142, fit142⟩, ⟨_, at143, fit143⟩, ⟨_, at148, fit148⟩, ⟨_, at149, fit149⟩, ⟨_, at150, fit150⟩, ⟨_, at151, fit151⟩, ⟨_, at155, fit155⟩, ⟨_, at160, fit160⟩, ⟨_, at166, fit166⟩, ⟨_, at167, fit167⟩, ⟨_, at168, fit168⟩, ⟨_, at169, fit169⟩, ⟨_, at180, fit180⟩, ⟨_, at181, fit181⟩, ⟨_, at182, fit182⟩, ⟨_, at183, fit183⟩, ⟨_, at184, fit184⟩, ⟨_, at185, fit185⟩, ⟨_, at188, fit188⟩, ⟨_, at189, fit189⟩, ⟨_, at190, fit190⟩, ⟨_, at191, fit191⟩, ⟨_, at192, fit192⟩, ⟨_, at193, fit193⟩, ⟨_, at194, fit194⟩, ⟨_, at195, fit195⟩, ⟨_, at196, fit196⟩, ⟨_, at197, fit197⟩, ⟨_, at198, fit198⟩, ⟨_, at199, fit199⟩, ⟨_, at203, fit203⟩, ⟨_, at205, fit205⟩, ⟨_, at207, fit207⟩, ⟨_, at208, fit208⟩, ⟨_, at211, fit211⟩, ⟨_, at214, fit214⟩, ⟨_, at215, fit215⟩, ⟨_, at217, fit217⟩, ⟨_, at218, fit218⟩, ⟨_, at219, fit219⟩, ⟨_, at221, fit221⟩, ⟨_, at222, fit222⟩, ⟨_, at223, fit223⟩, ⟨_, at224, fit224⟩, ⟨_, at225, fit225⟩, ⟨_, at226, fit226⟩, ⟨_, at227, fit227⟩, ⟨_, at229, fit229⟩, ⟨_, at230, fit230⟩, ⟨_, at231, fit231⟩, ⟨_, at240, fit240⟩, ⟨_, at241, fit241⟩, ⟨_, at250, fit250⟩, ⟨_, at251, fit251⟩, ⟨_, at252, fit252⟩, ⟨_, at254, fit254⟩, ⟨_, at258, fit258⟩, ⟨_, at260, fit260⟩, ⟨_, at262, fit262⟩, ⟨_, at263, fit263⟩, ⟨_, at264, fit264⟩, ⟨_, at267, fit267⟩, ⟨_, at269, fit269⟩, ⟨_, at270, fit270⟩, ⟨_, at272, fit272⟩, ⟨_, at273, fit273⟩, ⟨_, at283, fit283⟩, ⟨_, at284, fit284⟩, ⟨_, at285, fit285⟩, ⟨_, at288, fit288⟩, ⟨_, at290, fit290⟩, ⟨_, at295, fit295⟩, ⟨_, at308, fit308⟩, ⟨_, at314, fit314⟩, ⟨_, at322, fit322⟩, by simp⟩
theorem ext_ok : ∀ f e, X.ext f = some e → ExtOK Tryz.prog f e := by
  intro f e h
  change extOf f = some e at h
  unfold extOf at h
  split at h
  · rename_i hf
    subst hf
    cases h
    exact xFromBits_ok (fn := Tryz.f91) (by kernel_rfl) (by kernel_rfl) (by kernel_rfl) (by kernel_rfl) (by kernel_rfl)
  split at h
  · rename_i hf
    subst hf
    cases h
    exact xCount_ok (fn := Tryz.f294) (by kernel_rfl) (by kernel_rfl) (by kernel_rfl) (by kernel_rfl) (by kernel_rfl)
  split at h
  · rename_i hf
    subst hf
    cases h
    exact xIndex_ok (fn := Tryz.f337) (by kernel_rfl) (by kernel_rfl) (by kernel_rfl) (by kernel_rfl) (by kernel_rfl)
  cases h
theorem X_ok : X.OK Tryz.prog where
  mixed := by kernel_rfl
  fn f sf h := by
    obtain ⟨p, hp, rfl⟩ := Option.map_eq_some_iff.1 (show (fns.find? fun p => p.1 == f).map (·.2) = some sf from h)
    have h1 := List.find?_some hp
    obtain ⟨fn, h2, h3⟩ := fitsAll p (List.mem_of_find?_eq_some hp)
    have : p.1 = f := by simpa using h1
    rw [this] at h2
    exact ⟨fn, h2, h3⟩
  ext := ext_ok
end Go.Vm.Tryz
